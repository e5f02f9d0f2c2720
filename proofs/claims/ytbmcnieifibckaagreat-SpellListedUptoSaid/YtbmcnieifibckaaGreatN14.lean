/- What is proved: small laws for the walks of this seat, and contracts of its functions. No condition but those each theorem names. -/
import Derived.Test.YtbmcnieifibckaaGreatN13
import Derived.Test.YtbmcnieifibckaaGreatN1
import Derived.Test.YtbmcnieifibckaaGreatN8
import Derived.Test.YtbmcnieifibckaaGreatN7
import Derived.Lib.Overlaps
set_option maxRecDepth 100000
set_option maxHeartbeats 2000000
set_option linter.unusedVariables false
set_option linter.unusedSimpArgs false
namespace Go.Abs.Wall
open Go Go.Abs Go.Proofs
end Go.Abs.Wall
namespace Go.Abs.Wall
structure Wy where
 cost:Int
 aP:Nat
 aO:Nat
def cW (x y:Wy):Prop:=x.cost<y.cost\/(x.cost=y.cost/\x.aP<y.aP)
theorem cW.rP {x:Wy}:¬ cW x x:=by unfold cW;omega
theorem cW.trans {x y z:Wy} (h1:cW x y) (h2:cW y z):cW x z:=by unfold cW at *;omega
theorem cW.uu {x y:Wy} (h1:cW x y) (h2:cW y x):False:=cW.rP (h1.trans h2)
def ik (cls:List (List Int)) (rs:Nat->Nat) (x:Wy):Prop:=x.aO=rs x.aP/\∃ l,cls[x.aP]?=some l/\l[x.aO]?=some x.cost
theorem ik.eq {cls:List (List Int)} {rs:Nat->Nat} {x y:Wy} (h1:ik cls rs x) (h2:ik cls rs y) (h:x.aP=y.aP):x=y:=by
 obtain ⟨a1,l,a2,a3⟩:=h1;obtain ⟨b1,m,b2,b3⟩:=h2;obtain ⟨c,e,r⟩:=x;obtain ⟨c',e',r'⟩:=y;simp only at h a1 a2 a3 b1 b2 b3;subst h;subst a1 b1;rw [a2] at b2;cases b2
 rw [a3] at b3;cases b3
 rfl
def nj (rs:Nat->Nat):List (List Int)->Nat->Option Wy
 | [],_=>none
 | l::ls,k=>match l[rs k]? with
   | none=>nj rs ls (k+1)
   | some c=>match nj rs ls (k+1) with
     | none=>some ⟨c,k,rs k⟩
     | some y=>if c<=y.cost then some ⟨c,k,rs k⟩ else some y
theorem He {rs:Nat->Nat}:∀ {ls:List (List Int)} {k:Nat},nj rs ls k=none->∀ (j:Nat) l,ls[j]?=some l->l[rs (k+j)]?=none
 | [],k,h,j,l,hj=>by simp at hj
 | l0::ls,k,h,j,l,hj=>by
   unfold nj at h;cases hc:l0[rs k]? with
   | none=>
     simp only [hc] at h;cases j with
     | zero=>simp at hj;subst hj;exact hc
     | succ j=>
       have:=He h j l (by simpa using hj);rwa [show k+1+j=k+(j+1) by omega] at this
   | some c=>
     simp only [hc] at h;cases hb:nj rs ls (k+1) with
     | none=>simp [hb] at h
     | some y=>simp only [hb] at h;split at h<;>cases h
theorem Hf {rs:Nat->Nat}:∀ {ls:List (List Int)} {k:Nat} {x:Wy},nj rs ls k=some x ->
  k<=x.aP/\x.aO=rs x.aP/\(∃ l,ls[x.aP - k]?=some l/\l[x.aO]?=some x.cost)/\∀ (j:Nat) l c,ls[j]?=some l->l[rs (k+j)]?=some c->k+j=x.aP\/x.cost<c\/(x.cost=c/\x.aP<k+j)
 | [],k,x,h=>by simp [nj] at h
 | l0::ls,k,x,h=>by
   unfold nj at h;cases hc:l0[rs k]? with
   | none=>
     simp only [hc] at h;obtain ⟨a1,a2,⟨l,a3,a4⟩,a5⟩:=Hf h;refine ⟨by omega,a2,⟨l,?_,a4⟩,fun j l c hj hl=>?_⟩
     ·rw [show x.aP - k=(x.aP - (k+1))+1 by omega];simpa using a3
     cases j with
     | zero=>simp at hj;subst hj;rw [Nat.add_zero,hc] at hl;cases hl
     | succ j=>
       have:=a5 j l c (by simpa using hj) (by rwa [show k+1+j=k+(j+1) by omega]);rw [show k+1+j=k+(j+1) by omega] at this;exact this
   | some c0=>
     simp only [hc] at h;have own:∀ (y:Wy),y=⟨c0,k,rs k⟩->k<=y.aP/\y.aO=rs y.aP/\(∃ l,(l0::ls)[y.aP - k]?=some l/\l[y.aO]?=some y.cost):=by rintro y rfl;exact ⟨Nat.le_refl _,rfl,l0,by simp,hc⟩
     cases hb:nj rs ls (k+1) with
     | none=>
       simp only [hb] at h;cases h
       obtain ⟨o1,o2,o3⟩:=own _ rfl;refine ⟨o1,o2,o3,fun j l c hj hl=>?_⟩;cases j with
       | zero=>exact .inl rfl
       | succ j=>
         have:=He hb j l (by simpa using hj);rw [show k+1+j=k+(j+1) by omega,hl] at this;cases this
     | some y=>
       simp only [hb] at h;obtain ⟨a1,a2,⟨l,a3,a4⟩,a5⟩:=Hf hb;split at h
       ·rename_i hle;cases h
        obtain ⟨o1,o2,o3⟩:=own _ rfl;refine ⟨o1,o2,o3,fun j l c hj hl=>?_⟩;cases j with
        | zero=>exact .inl rfl
        | succ j=>
          have:=a5 j l c (by simpa using hj) (by rwa [show k+1+j=k+(j+1) by omega]);have h3:(⟨c0,k,rs k⟩:Wy).cost=c0:=rfl;have h4:(⟨c0,k,rs k⟩:Wy).aP=k:=rfl;rw [h3,h4];by_cases hq:c0<c
          ·exact .inr (.inl hq)
          refine .inr (.inr ⟨?_,by omega⟩);rcases this with e|e|e
          ·have h5:l[y.aO]?=some c:=by rw [a2,<- e,show k+1+j=k+(j+1) by omega];exact hl
           have h6:ls[j]?=some l:=(by simpa using hj);rw [show y.aP - (k+1)=j by omega,h6] at a3;cases a3
           rw [h5] at a4;cases a4
           omega
          ·omega
          omega
       rename_i hle;cases h
       refine ⟨by omega,a2,⟨l,?_,a4⟩,fun j l c hj hl=>?_⟩
       ·rw [show x.aP - k=(x.aP - (k+1))+1 by omega];simpa using a3
       cases j with
       | zero=>
         simp at hj;subst hj;rw [Nat.add_zero,hc] at hl;cases hl
         exact .inr (.inl (by omega))
       | succ j=>
         have:=a5 j l c (by simpa using hj) (by rwa [show k+1+j=k+(j+1) by omega]);rw [show k+1+j=k+(j+1) by omega] at this;exact this
def gK (cls:List (List Int)) (rs:Nat->Nat):Option Wy:=nj rs cls 0
theorem Hg {cls:List (List Int)} {rs:Nat->Nat} (h:gK cls rs=none) (x:Wy):¬ ik cls rs x:=by rintro ⟨h1,l,h2,h3⟩;have:=He h x.aP l h2;rw [Nat.zero_add,<- h1,h3] at this;cases this
theorem zk {cls:List (List Int)} {rs:Nat->Nat} {x:Wy} (h:gK cls rs=some x):ik cls rs x/\∀ y,ik cls rs y->y=x\/cW x y:=by
 obtain ⟨a1,a2,⟨l,a3,a4⟩,a5⟩:=Hf h;have hx:ik cls rs x:=⟨a2,l,by simpa using a3,a4⟩;refine ⟨hx,fun y hy=>?_⟩;obtain ⟨b1,m,b2,b3⟩:=hy;have:=a5 y.aP m y.cost b2 (by rw [Nat.zero_add,<- b1];exact b3);rw [Nat.zero_add] at this;rcases this with e|e|e
 ·exact .inl (ik.eq ⟨b1,m,b2,b3⟩ hx e)
 ·exact .inr (.inl e)
 exact .inr (.inr e)
theorem Hh {cls:List (List Int)} {rs:Nat->Nat} {x:Wy} (h:ik cls rs x) (hm:∀ y,ik cls rs y->y=x\/cW x y):gK cls rs=some x:=by
 cases hb:gK cls rs with
 | none=>exact absurd h (Hg hb x)
 | some y=>
   obtain ⟨h1,h2⟩:=zk hb;rcases hm y h1 with rfl|e
   ·rfl
   rcases h2 x h with rfl|e2
   ·rfl
   exact (e.uu e2).elim
theorem Hi {cls:List (List Int)} {rs:Nat->Nat} (h:∀ x,¬ ik cls rs x):gK cls rs=none:=by
 cases hb:gK cls rs with
 | none=>rfl
 | some y=>exact absurd (zk hb).1 (h y)
def up (rs:Nat->Nat) (k:Nat):Nat->Nat:=fun j=>if j=k then rs k+1 else rs j
def nm:Nat->Nat:=fun _=>0
def gen (cls:List (List Int)):Nat->(Nat->Nat)->List Wy
 | 0,_=>[]
 | n+1,rs=>match gK cls rs with
   | none=>[]
   | some x=>x::gen cls n (up rs x.aP)
def kb (cls:List (List Int)):Nat->(Nat->Nat)->Nat->Nat
 | 0,rs=>rs
 | t+1,rs=>match gK cls rs with
   | none=>rs
   | some x=>kb cls t (up rs x.aP)
theorem Mx {cls:List (List Int)}:∀ (n t:Nat) (rs:Nat->Nat),(gen cls n rs)[t]?=if t<n then gK cls (kb cls t rs) else none
 | 0,t,rs=>by simp [gen]
 | n+1,t,rs=>by
   unfold gen;cases hb:gK cls rs with
   | none=>
     cases t with
     | zero=>simp [kb,hb]
     | succ t=>simp [kb,hb]
   | some x=>
     cases t with
     | zero=>simp [kb,hb]
     | succ t=>
       simp only [List.getElem?_cons_succ,kb,hb];rw [Mx n t];by_cases h:t<n
       ·rw [if_pos h,if_pos (by omega)]
       rw [if_neg h,if_neg (by omega)]
theorem Bq {cls:List (List Int)}:∀ (t:Nat) (rs:Nat->Nat),kb cls (t+1) rs=match gK cls (kb cls t rs) with
  | none=>kb cls t rs
  | some x=>up (kb cls t rs) x.aP
 | 0,rs=>by unfold kb;cases gK cls rs<;>rfl
 | t+1,rs=>by
   have h:kb cls (t+1+1) rs=match gK cls rs with
     | none=>rs
     | some x=>kb cls (t+1) (up rs x.aP):=rfl
   have h2:kb cls (t+1) rs=match gK cls rs with
     | none=>rs
     | some x=>kb cls t (up rs x.aP):=rfl
   rw [h,h2];cases hb:gK cls rs with
   | none=>simp only [hb]
   | some x=>simp only;exact Bq t _
theorem My {cls:List (List Int)}:∀ (t:Nat) (rs:Nat->Nat) (k:Nat),kb cls t rs k<=rs k+t
 | 0,rs,k=>by simp [kb]
 | t+1,rs,k=>by
   unfold kb;cases hb:gK cls rs with
   | none=>simp
   | some x=>
     simp only;have:=My (cls:=cls) t (up rs x.aP) k;have h2:up rs x.aP k<=rs k+1:=by unfold up;split<;>(try subst_vars)<;>omega
     omega
def oX (rs:Nat->Nat):List (List Int)->Nat->Nat
 | [],_=>0
 | l::ls,k=>(l.length - rs k)+oX rs ls (k+1)
theorem Mz {rs:Nat->Nat}:∀ {ls:List (List Int)} {k:Nat},oX rs ls k=0->nj rs ls k=none
 | [],k,_=>rfl
 | l::ls,k,h=>by
   unfold oX at h;unfold nj;have h1:l[rs k]?=none:=by rw [List.getElem?_eq_none_iff];omega
   rw [h1];exact Mz (by omega)
theorem MA {rs:Nat->Nat} {e:Nat}:∀ {ls:List (List Int)} {k:Nat},e<k->oX (up rs e) ls k=oX rs ls k
 | [],k,_=>rfl
 | l::ls,k,h=>by unfold oX;rw [MA (by omega)];unfold up;rw [if_neg (by omega)]
theorem MB {rs:Nat->Nat} {e:Nat}:∀ {ls:List (List Int)} {k:Nat} {l:List Int},k<=e->ls[e - k]?=some l->rs e<l.length->oX (up rs e) ls k+1=oX rs ls k
 | [],k,l,_,h,_=>by simp at h
 | l0::ls,k,l,hk,h,hl=>by
   unfold oX;by_cases he:e=k
   ·subst he;rw [MA (by omega)];simp at h;subst h;unfold up;rw [if_pos rfl];omega
   have:=MB (rs:=rs) (e:=e) (ls:=ls) (k:=k+1) (l:=l) (by omega) (by rw [show e - k=(e - (k+1))+1 by omega] at h;simpa using h) hl;rw [show up rs e k=rs k by unfold up;rw [if_neg (by omega)]];omega
theorem MC {cls:List (List Int)}:∀ (t:Nat) (rs:Nat->Nat),oX rs cls 0<=t->gK cls (kb cls t rs)=none
 | 0,rs,h=>by show nj rs cls 0=none;exact Mz (by omega)
 | t+1,rs,h=>by
   unfold kb;cases hb:gK cls rs with
   | none=>simpa using hb
   | some x=>
     simp only;obtain ⟨⟨h1,l,h2,h3⟩,_⟩:=zk hb;have hl:=(List.getElem?_eq_some_iff.1 h3).1;have:=MB (rs:=rs) (e:=x.aP) (ls:=cls) (k:=0) (l:=l) (Nat.zero_le _) (by simpa using h2) (by omega);exact MC t _ (by omega)
def aY (cls:List (List Int)):List Wy:=gen cls (oX nm cls 0) nm
def cX (cls:List (List Int)) (t:Nat):Nat->Nat:=kb cls t nm
theorem mc (cls:List (List Int)) (t:Nat):(aY cls)[t]?=gK cls (cX cls t):=by
 unfold aY cX;rw [Mx];by_cases h:t<oX nm cls 0
 ·rw [if_pos h]
 rw [if_neg h,MC t nm (by omega)]
theorem Hj (cls:List (List Int)) (t k:Nat):cX cls t k<=t:=by have:=My (cls:=cls) t nm k;unfold cX nm at *;omega
theorem tu {cls:List (List Int)} {t:Nat} {x:Wy} (h:(aY cls)[t]?=some x):cX cls (t+1)=up (cX cls t) x.aP:=by rw [mc] at h;unfold cX at h ⊢;rw [Bq,h]
theorem MD {cls:List (List Int)} {t:Nat} (h:(aY cls)[t]?=none):cX cls (t+1)=cX cls t:=by rw [mc] at h;unfold cX at h ⊢;rw [Bq,h]
theorem iN {cls:List (List Int)} {t:Nat} {x:Wy} (h:(aY cls)[t]?=some x):ik cls (cX cls t) x:=by rw [mc] at h;exact (zk h).1
theorem Bs {cls:List (List Int)} {t:Nat} {x:Wy} (h:(aY cls)[t]?=some x):x.aO<=t:=by have:=(iN h).1;have:=Hj cls t x.aP;omega
structure np (cls:List (List Int)) (t:Nat) (due:Bool) (Q:List Wy):Prop where
 le:t<=(aY cls).length
 sorted:Q.Pairwise cW
 mem:∀ x,x∈Q↔ik cls (cX cls t) x/\(due=true->∀ y,(aY cls)[t - 1]?=some y->x.aP≠y.aP)
 pos:due=true->1<=t
theorem np.last {cls:List (List Int)} {t:Nat} {Q:List Wy} (h:np cls t true Q):∃ y,(aY cls)[t - 1]?=some y:=by have h1:=h.le;have h2:=h.pos rfl;exact ⟨_,List.getElem?_eq_getElem (by omega)⟩
theorem np.empty {cls:List (List Int)} {t:Nat} (h:np cls t false []):(aY cls)[t]?=none:=by rw [mc];refine Hi fun x hx=>?_;have:=(h.mem x).2 ⟨hx,fun e=>by cases e⟩;cases this
theorem np.pop {cls:List (List Int)} {t:Nat} {x:Wy} {Q:List Wy} (h:np cls t false (x::Q)):(aY cls)[t]?=some x/\np cls (t+1) true Q:=by
 have hs:=List.pairwise_cons.1 h.sorted;have hx:ik cls (cX cls t) x:=((h.mem x).1 (by simp)).1
 have hg:(aY cls)[t]?=some x:=by
  rw [mc];refine Hh hx fun y hy=>?_;have:=(h.mem y).2 ⟨hy,fun e=>by cases e⟩;rcases List.mem_cons.1 this with rfl|hm
  ·exact .inl rfl
  exact .inr (hs.1 y hm)
 refine ⟨hg,?_,hs.2,fun y=>?_,fun _=>by omega⟩
 ·have:=(List.getElem?_eq_some_iff.1 hg).1;omega
 rw [tu hg,show t+1 - 1=t by omega,hg];constructor
 ·intro hy;have hc:=((h.mem y).1 (List.mem_cons_of_mem _ hy)).1;have aI:y.aP≠x.aP:=fun e=>by have:=ik.eq hc hx e;subst this;exact cW.rP (hs.1 _ hy)
  refine ⟨⟨?_,hc.2⟩,fun _ z hz=>by cases hz;exact aI⟩;unfold up;rw [if_neg aI];exact hc.1
 rintro ⟨⟨h1,h2⟩,h3⟩;have aI:=h3 rfl x rfl;unfold up at h1;rw [if_neg aI] at h1;have:=(h.mem y).2 ⟨⟨h1,h2⟩,fun e=>by cases e⟩;rcases List.mem_cons.1 this with rfl|hm
 ·exact absurd rfl aI
 exact hm
def Hk (x y:Wy):Bool:=decide (x.cost<y.cost)||(decide (x.cost=y.cost)&&decide (x.aP<y.aP))
theorem ME {x y:Wy}:Hk x y=true↔cW x y:=by unfold Hk cW;simp
def cS (x:Wy):List Wy->Nat
 | []=>0
 | y::Q=>if Hk y x=true then cS x Q+1 else 0
def il (x:Wy) (Q:List Wy):List Wy:=Q.take (cS x Q)++x::Q.drop (cS x Q)
theorem zl (x:Wy):∀ Q,cS x Q<=Q.length
 | []=>Nat.le_refl _
 | y::Q=>by
   unfold cS;split
   ·have:=zl x Q;simp;omega
   omega
theorem MF {x y:Wy} {Q:List Wy}:y∈il x Q↔y=x\/y∈Q:=by
 unfold il;constructor
 ·intro h;rcases List.mem_append.1 h with h|h
  ·exact .inr (List.mem_of_mem_take h)
  rcases List.mem_cons.1 h with h|h
  ·exact .inl h
  exact .inr (List.mem_of_mem_drop h)
 rintro (rfl|h)
 ·simp
 rw [<- List.take_append_drop (cS x Q) Q] at h;rcases List.mem_append.1 h with h|h
 ·exact List.mem_append.2 (.inl h)
 exact List.mem_append.2 (.inr (List.mem_cons_of_mem _ h))
theorem vV (x:Wy) (Q:List Wy):(il x Q).length=Q.length+1:=by have:=zl x Q;unfold il;simp;omega
theorem Eb {x:Wy}:∀ {Q:List Wy} {j:Nat} {y:Wy},j<cS x Q->Q[j]?=some y->cW y x
 | [],j,y,h,_=>by simp [cS] at h
 | z::Q,j,y,h,hy=>by
   unfold cS at h;split at h
   ·rename_i hz;cases j with
    | zero=>simp at hy;subst hy;exact ME.1 hz
    | succ j=>exact Eb (x:=x) (Q:=Q) (j:=j) (by omega) (by simpa using hy)
   omega
theorem MG {x:Wy}:∀ {Q:List Wy} {y:Wy},Q[cS x Q]?=some y->¬ cW y x
 | [],y,h=>by simp at h
 | z::Q,y,h=>by
   unfold cS at h;split at h
   ·exact MG (by simpa using h)
   rename_i hz;simp at h;subst h;exact fun e=>hz (ME.2 e)
theorem Ec {x:Wy} {Q:List Wy} (hs:Q.Pairwise cW) {j:Nat} {y:Wy} (hj:cS x Q<=j) (hy:Q[j]?=some y):¬ cW y x:=by
 have fP:=(List.getElem?_eq_some_iff.1 hy).1;have h1:Q[cS x Q]?=some Q[cS x Q]:=List.getElem?_eq_getElem (by omega);have h2:=MG h1;by_cases he:j=cS x Q
 ·subst he;rw [h1] at hy;cases hy
  exact h2
 have h3:=List.pairwise_iff_getElem.1 hs (cS x Q) j (by omega) fP (by omega);have h4:Q[j]=y:=(List.getElem?_eq_some_iff.1 hy).2;rw [h4] at h3;exact fun e=>h2 (h3.trans e)
theorem cW.MH {x y:Wy} (h:x.aP≠y.aP) (hn:¬ cW y x):cW x y:=by unfold cW at *;omega
theorem MI {x:Wy} {Q:List Wy} (hs:Q.Pairwise cW) (hn:∀ y∈Q,y.aP≠x.aP):(il x Q).Pairwise cW:=by
 unfold il;rw [List.pairwise_append];refine ⟨List.Pairwise.sublist (List.take_sublist _ _) hs,?_,?_⟩
 ·rw [List.pairwise_cons];refine ⟨fun y hy=>?_,List.Pairwise.sublist (List.drop_sublist _ _) hs⟩;obtain ⟨j,hj⟩:=List.mem_iff_getElem?.1 hy;rw [List.getElem?_drop] at hj;exact cW.MH (fun e=>hn y (List.mem_of_mem_drop hy) e.symm) (Ec hs (by omega) hj)
 intro a ha b hb;obtain ⟨i,hi⟩:=List.mem_iff_getElem?.1 ha;have kc:=(List.getElem?_eq_some_iff.1 hi).1;rw [List.length_take] at kc;rw [List.getElem?_take_of_lt (by omega)] at hi;have h1:=Eb (x:=x) (Q:=Q) (j:=i) (by omega) hi;rcases List.mem_cons.1 hb with rfl|hb
 ·exact h1
 obtain ⟨j,hj⟩:=List.mem_iff_getElem?.1 hb;rw [List.getElem?_drop] at hj;exact h1.trans (cW.MH (fun e=>hn b (List.mem_of_mem_drop hb) e.symm) (Ec hs (by omega) hj))
theorem np.skip {cls:List (List Int)} {t:Nat} {Q:List Wy} {y:Wy} (h:np cls t true Q) (hy:(aY cls)[t - 1]?=some y) {l:List Int} (hl:cls[y.aP]?=some l) (hn:l[y.aO+1]?=none):np cls t false Q:=by
 have h2:=h.pos rfl;have aA:=tu hy;rw [show t - 1+1=t by omega] at aA;have Bt:=(iN hy).1;refine ⟨h.le,h.sorted,fun x=>?_,fun e=>by cases e⟩;rw [h.mem x];constructor
 ·rintro ⟨h3,h4⟩;exact ⟨h3,fun e=>by cases e⟩
 rintro ⟨h3,_⟩;refine ⟨h3,fun _ z hz=>?_⟩;rw [hy] at hz;cases hz
 intro e;obtain ⟨q1,m,q2,q3⟩:=h3;rw [aA] at q1;unfold up at q1;rw [if_pos e,<- Bt] at q1;rw [e,hl] at q2;cases q2
 rw [q1,hn] at q3;cases q3
theorem np.push {cls:List (List Int)} {t:Nat} {Q:List Wy} {y:Wy} (h:np cls t true Q) (hy:(aY cls)[t - 1]?=some y) {l:List Int} (hl:cls[y.aP]?=some l) {c:Int} (hn:l[y.aO+1]?=some c):np cls t false (il ⟨c,y.aP,y.aO+1⟩ Q):=by
 have h2:=h.pos rfl;have aA:=tu hy;rw [show t - 1+1=t by omega] at aA;have Bt:=(iN hy).1;have rQ:∀ x∈Q,x.aP≠y.aP:=fun x hx=>((h.mem x).1 hx).2 rfl y hy;have rR:ik cls (cX cls t) ⟨c,y.aP,y.aO+1⟩:=by refine ⟨?_,l,hl,hn⟩;rw [aA];unfold up;rw [if_pos rfl,<- Bt]
 refine ⟨h.le,MI h.sorted rQ,fun x=>?_,fun e=>by cases e⟩;rw [MF,h.mem x];constructor
 ·rintro (rfl|⟨h3,_⟩)
  ·exact ⟨rR,fun e=>by cases e⟩
  exact ⟨h3,fun e=>by cases e⟩
 rintro ⟨h3,_⟩;by_cases e:x.aP=y.aP
 ·exact .inl (ik.eq h3 rR e)
 refine .inr ⟨h3,fun _ z hz=>?_⟩;rw [hy] at hz;cases hz
 exact e
def tw (cls:List (List Int)) (k:Nat) (Q:List Wy):Prop:=Q.Pairwise cW/\∀ x,x∈Q↔ik cls nm x/\x.aP<k
theorem Hl (cls:List (List Int)):tw cls 0 []:=⟨.nil,fun x=>by simp⟩
theorem Ed {cls:List (List Int)} {k:Nat} {Q:List Wy} (h:tw cls k Q) {l:List Int} (hl:cls[k]?=some l) (hn:l[0]?=none):tw cls (k+1) Q:=by
 refine ⟨h.1,fun x=>?_⟩;rw [h.2 x];constructor
 ·rintro ⟨h1,h2⟩;exact ⟨h1,by omega⟩
 rintro ⟨h1,h2⟩;refine ⟨h1,?_⟩;by_cases e:x.aP=k
 ·obtain ⟨q1,m,q2,q3⟩:=h1;rw [e,hl] at q2;cases q2
  rw [q1,show nm x.aP=0 from rfl,hn] at q3;cases q3
 omega
theorem Ee {cls:List (List Int)} {k:Nat} {Q:List Wy} (h:tw cls k Q) {l:List Int} (hl:cls[k]?=some l) {c:Int} (hn:l[0]?=some c):tw cls (k+1) (il ⟨c,k,0⟩ Q):=by
 have rR:ik cls nm ⟨c,k,0⟩:=⟨rfl,l,hl,hn⟩;refine ⟨MI h.1 (fun y hy=>?_),fun x=>?_⟩
 ·have:=((h.2 y).1 hy).2;show y.aP≠k;omega
 rw [MF,h.2 x];constructor
 ·rintro (rfl|⟨h1,h2⟩)
  ·exact ⟨rR,Nat.lt_succ_self _⟩
  exact ⟨h1,by omega⟩
 rintro ⟨h1,h2⟩;by_cases e:x.aP=k
 ·exact .inl (ik.eq h1 rR e)
 exact .inr ⟨h1,by omega⟩
theorem Hm {cls:List (List Int)} {Q:List Wy} (h:tw cls cls.length Q):np cls 0 false Q:=by
 refine ⟨Nat.zero_le _,h.1,fun x=>?_,fun e=>by cases e⟩;rw [h.2 x];constructor
 ·rintro ⟨h1,_⟩;exact ⟨h1,fun e=>by cases e⟩
 rintro ⟨h1,_⟩;refine ⟨h1,?_⟩;obtain ⟨_,l,q,_⟩:=h1;exact (List.getElem?_eq_some_iff.1 q).1
end Go.Abs.Wall
namespace Go.Abs.Wall.Lst
open Go Go.Abs Go.Proofs Go.Abs.Wall
def al (w:Wy):List AV:=[.int .i64 w.cost,.int .i64 w.aP,.int .i64 w.aO]
def gL (x y:Wy):Int:=fT [bN x.cost y.cost,bN x.aP y.aP]
theorem lq {x y:Wy}:gL x y<0↔cW x y:=by
 unfold gL fT fT fT bN cW;repeat' split
 all_goals first|omega|(simp at *;omega)
def c214:aw:=⟨[0,1,2,3,4],[],[],[],[(1,[0,1,2,3,4,5,6,7,8,9,10,11,12],[])],[]⟩
theorem jg (x y:Wy):ae Tryz.prog 214 [.agg (al x),.agg (al y)] [] (.int .i64 (gL x y)):=by
 refine aG (F:=Tryz.f214) c214 rfl rfl rfl mixed rfl fun X=>?_;(conv=>whnf);repeat ((first|refine aX (zm _ _) ?_|refine aX (Bu [bN x.cost y.cost,bN x.aP y.aP] (by simp [aq])) ?_|refine And.intro (by show aJ (aH Tryz.f214 _) _=true;decide +kernel) ?_);conv=>whnf)
 exact ⟨rfl,rfl⟩
theorem oe {α:Type} {k:Nat} {enc:α->List AV} {P:Program} {t:TypeId} {b o i:Nat} {h:ab} {pre:List AV} {L:List α} {x:α} {K:AV->Prop} (hk:∀ a,(enc a).length=k) (hm:(b,Ob.vec (pre++(L.map enc).flatten))∈h) (ho:o=pre.length+i*k) (hx:L[i]?=some x)
  (hl:fZ P t (enc x++((L.drop (i+1)).map enc).flatten) K):∃ cs l,(b,Ob.vec cs)∈h/\iG o cs=some l/\fZ P t l K:=by
 obtain ⟨hi,iJ⟩:=List.getElem?_eq_some_iff.1 hx;refine ⟨_,_,hm,Bi ?_,?_⟩
 ·rw [List.length_append,mz hk,ho];have:=Nat.mul_le_mul_right k (show i<=L.length by omega);omega
 rw [ho,List.drop_append,List.drop_eq_nil_of_le (Nat.le_add_right _ _),List.nil_append,Nat.add_sub_cancel_left,xB hk,List.drop_eq_getElem_cons hi,iJ,List.map_cons,List.flatten_cons];exact hl
def gk (x:Wy) (Q:List Wy):Bool:=match Q[cS x Q]? with
 | none=>false
 | some y=>decide (gL y x=0)
theorem da (w:Wy):(al w).length=3:=rfl
theorem lr {x:Wy} {Q:List Wy} (hs:Q.Pairwise cW) {j:Nat} {y:Wy} (hy:Q[j]?=some y):gL y x<0↔j<cS x Q:=by
 rw [lq];constructor
 ·intro h;by_cases hj:j<cS x Q
  ·exact hj
  exact absurd h (Ec hs (by omega) hy)
 intro h;exact Eb h hy
def c251:aw:=⟨[0,1,2,4,6,7,8,9,10,11,17,31],[],[],[],[(5,[0,1,2,3,4,5,6,7],[]),(8,[0,1,2,3,4,5,6,7,8,9,10,11,12,13,14,15],[])],[]⟩
theorem ag.MJ {b off k:Nat}:ag (.aR b off 0 k) (.sl k none []):=by intro c u h;simp only [aa] at h ⊢;obtain ⟨p,cap,o',h1,h2,rfl,h3,h4,h5,h6,h7,h8⟩:=h;exact ⟨_,cap,rfl,by simp,by simp,h5,by simp,by simp,by simp [cm],by simp⟩
theorem kd (w:Wy):ae Tryz.prog 251 [.sl 3 none [],.agg (al w),.fn 214 []] [] (.aQ [.int .i64 (cS w []),.bool (gk w [])]):=by
 refine aG (F:=Tryz.f251) c251 rfl rfl rfl mixed rfl fun X=>?_;(conv=>whnf);refine xH 60 rfl mixed ?_;(conv=>whnf);refine .inr ?_;(conv=>whnf);refine cF rfl ?_;(conv=>whnf);repeat ((first|(refine ⟨0,[.int .i64 0,.int .i64 0,.int .i64 0],?_,?_⟩;(focus (conv=>whnf;skip));(focus (intro hq;exact absurd hq (by decide))))|(refine ⟨.int .i64 0,?_,?_⟩;(focus (conv=>whnf;skip));(focus (intro hq;exact absurd hq (by decide))))|refine And.intro (by show aJ (aH Tryz.f251 _) _=true;decide +kernel) ?_);conv=>whnf)
 exact ⟨rfl,rfl⟩
theorem lu (x:Wy) (Q:List Wy) (hs:Q.Pairwise cW) (b:Nat) (pre:List AV) (hl:Q.length<=4294967296) :
  ae Tryz.prog 251 [.aR b pre.length Q.length 3,.agg (al x),.fn 214 []] [(b,.vec (pre++(Q.map al).flatten))] (.aQ [.int .i64 (cS x Q),.bool (gk x Q)]):=by
 have Ub:=zl x Q;by_cases aI:0<Q.length
 rotate_left
 ·have hq:Q=[]:=List.eq_nil_of_length_eq_zero (by omega);subst hq;exact ae.args (ae.wide (kd x) _) (.cons ag.MJ (.cons (ag.refl _) (.cons (ag.refl _) .nil)))
 refine aG (F:=Tryz.f251) c251 rfl rfl rfl mixed rfl fun X=>?_;(conv=>whnf);skip;refine bM rfl mixed [0,2,4,8,9,10] [] (fun m r h=>∃ (i j:Nat),r=[(0,[],.aR b pre.length Q.length 3),(2,[],.fn 214 []),(4,[],.au (al x)),(8,[],.int .i64 Q.length),(9,[],.int .i64 i),(10,[],.int .i64 j)]/\h=[(b,.vec (pre++(Q.map al).flatten))]/\m=j - i/\i<=cS x Q/\cS x Q<=j/\j<=Q.length) ?_ ?_
 ·(conv=>whnf);exact ⟨_,0,Q.length,rfl,rfl,rfl,by omega,by omega,by omega⟩
 rintro m r h ⟨i,j,rfl,rfl,rfl,hi,hj,fP⟩;(conv=>whnf);refine ⟨fun hz=>?_,fun hz=>?_⟩<;>simp at hz
 ·have Hn:((i:Int)+(j:Int)) / 2=(((i+j) / 2:Nat):Int):=(by omega);obtain ⟨y,hy⟩:=aN (l:=Q) (i:=(i+j) / 2) (by omega);have gl:=lr (x:=x) hs hy;have hw:IntKind.u64.wrap ((i:Int)+(j:Int))=(i:Int)+(j:Int):=by simp [IntKind.wrap,IntKind.signed,IntKind.bits];omega
  (conv=>whnf);repeat (refine ⟨af ⟨by omega,by omega⟩,?_⟩;conv=>whnf)
  rw [hw];refine ⟨af ⟨⟨rfl,rfl⟩,by omega,by omega⟩,?_⟩;rw [Hn];(conv=>whnf);repeat ((first|refine ⟨af ⟨by omega,by omega⟩,?_⟩|(refine ⟨(i+j) / 2,af ⟨rfl,by omega⟩,?_⟩)|(refine oe da (.head _) rfl hy ?_)|refine aX (jg y x) ?_|refine And.intro (by show aJ (aH Tryz.f251 _) _=true;decide +kernel) ?_);conv=>whnf)
  refine ⟨fun hc=>?_,fun hc=>?_⟩<;>simp at hc
  ·(conv=>whnf);repeat (refine ⟨af ⟨by omega,by omega⟩,?_⟩;conv=>whnf)
   exact ⟨_,by omega,(i+j) / 2+1,j,rfl,rfl,rfl,by have:=gl.1 hc;omega,hj,fP⟩
  (conv=>whnf);skip;exact ⟨_,by omega,i,(i+j) / 2,rfl,rfl,rfl,hi,by have:=mt gl.2 (by omega);omega,by omega⟩
 have bO:i=cS x Q:=(by omega);subst bO;by_cases aL:cS x Q<Q.length
 ·obtain ⟨y,hy⟩:=aN (l:=Q) (i:=cS x Q) aL;(conv=>whnf);repeat ((first|(refine ⟨cS x Q,af ⟨rfl,by omega⟩,?_⟩)|(refine oe da (.head _) rfl hy ?_)|refine aX (jg y x) ?_|refine And.intro (by show aJ (aH Tryz.f251 _) _=true;decide +kernel) ?_);conv=>whnf)
  refine ⟨?_,rfl⟩;unfold gk;rw [hy];simp [aL]
 have hn:Q[cS x Q]?=none:=List.getElem?_eq_none (by omega);obtain ⟨y,hy⟩:=aN (l:=Q) (i:=0) aI;have Ho:decide (((cS x Q:Nat):Int)<(Q.length:Int))=false:=by simp;omega
 (conv=>whnf);repeat (refine And.intro (by show aJ (aH Tryz.f251 _) _=true;decide +kernel) ?_;conv=>whnf)
 rw [Ho];repeat ((first|(refine ⟨0,(fun hq=>by cases hq),?_⟩)|(refine oe (i:=0) da (.head _) rfl hy ?_)|refine aX (jg y x) ?_);conv=>whnf)
 refine ⟨?_,rfl⟩;unfold gk;rw [hn];rfl
theorem MK {P:Program} {f:FuncId} {fn:Func} {tS tR e:TypeId} {vb b vo o n m c k k2:Nat} {Uc eo:List AV} {h:ab} {K:AV->ab->Prop} (hf:P.funcs[f]?=some fn) (Bv:(fn.name == "runtime.NumGoroutine")=false)
  (hb:fn.body.isNone=true) (hn:Extern.findNext fn=none) (he:Extern.find fn=some (Extern.SlicesOverlaps.overlaps #[tS,tS] #[tR])) (ht:P.underlying tS=some (.slice e)) (hz:P.info? e≠none)
  (h1:(vb,Ob.vec Uc)∈h) (h2:(b,Ob.vec eo)∈h) (aI:vb≠b) (hc:0<eo.length) (jh:0<n) (hK:K (.bool false) h) :
  ay P f [.aR vb vo n k,.eB b o m c k2] h K:=by
 refine ⟨fun X g w us cJ hr=>.inr ?_⟩;simp only [av] at hr;obtain ⟨u1,r1,hu,pW,u2,r2,gf,ee,Hp⟩:=hr;subst gf Hp;obtain ⟨p1,ML,a1,a2,rfl,a3,a4,a5,a6,_⟩:=pW.AM jh;rw [aa] at ee;obtain ⟨p2,b1,b2,rfl,b3,b4,b5,b6,b7⟩:=ee;obtain ⟨q1,yW,t1,c1,c2,c3,c4,c5,c6⟩:=cJ.obj vb _ h1;obtain ⟨q2,rz,t2,d1,d2,d3,d4,d5,d6⟩:=cJ.obj b _ h2;simp only at a1 b1 c1 c3 c4 d1 d3 d4;rw [c1] at a1;cases a1
 rw [d1] at b1;cases b1
 have im:p1.block≠p2.block:=by
  intro e;rw [e,d3] at c3;cases c3
  exact aI rfl
 have ba:us=#[.slice (some ⟨p1.block,p1.off+vo,none⟩) n ML,.slice (some ⟨p2.block,p2.off+o,none⟩) m c]:=by rw [<- Array.toList_inj];exact hu
 subst ba;obtain ⟨i,hi⟩:=Option.ne_none_iff_exists'.1 hz
 have bq:=Go.Lib.run_overlaps_apart (P:=P) w tS tR e ht i.size (fun w=>by simp [Go.sizeOf,typeInfo,hi]) ⟨p1.block,p1.off+vo,none⟩ ⟨p2.block,p2.off+o,none⟩ n ML m c im t1 t2 yW.size rz.size
  (by simp [World.shape?,c4]) (by simp [World.shape?,d4]) (by omega) (frozen_of_row w p1.block _ yW t1 c4) (frozen_of_row w p1.block _ yW t1 c4)
 refine ⟨.bool false,w,?_,.bool false,.bool false,g,h,rfl,hK,cJ,by rw [aa],Step.refl _ _ _ _⟩;rw [run_callFunc_extern hf Bv hb hn he,bq];rfl
theorem ag.eB {b off n c k:Nat}:ag (.eB b off n c k) (.aR b off n k):=by intro v u h;simp only [aa] at h ⊢;obtain ⟨p,h1,h2,h3,h4,h5,h6,h7,h8⟩:=h;exact ⟨p,c,off,h1,h2,h3,h4,h5,h6,h7,fun _=>rfl,h8⟩
theorem ay.MM {P:Program} {f:FuncId} {b off len k:Nat} {vs:List AV} {h:ab} {R:AV->ab->Prop} (hc:∀ zn c,(0<c->zn=off)->len<=c->ay P f (.eB b zn len c k::vs) h R):ay P f (.aR b off len k::vs) h R:=by refine ⟨fun X g w us dw hr=>?_⟩;simp only [av] at hr;obtain ⟨u,r,hu,hx,hr⟩:=hr;simp only [aa] at hx;obtain ⟨p,cap,o',h1,h2,h3,h4,h5,h6,h7,h8,h9⟩:=hx;refine (hc o' cap h8 h4).1 X g w us dw ?_;simp only [av];exact ⟨u,r,hu,by simp only [aa];exact ⟨p,h1,h2,h3,h4,h5,h6,h7,h9⟩,hr⟩
def c252:aw:=⟨[0,1,2,6,7,8,9,16,22,31,68],[],[],[],[(11,[0,1,2,3,4,5,6,7,8],[]),(15,[0,1,2,3,4,5,6,7,8],[])],[]⟩
theorem lx (x:Wy) (vb:Nat):ay Tryz.prog 252 [.aW,.int .i64 0,.aR vb 0 1 3] [(vb,.vec (al x))] (fun v h'=>∃ q,v=.aR q 0 1 3/\h'=[(q,.vec (al x)),(vb,.vec (al x))]):=by
 refine aG (F:=Tryz.f252) c252 rfl rfl rfl mixed rfl fun X=>?_;(conv=>whnf);repeat (refine ⟨af ⟨by omega,by omega⟩,?_⟩;conv=>whnf)
 refine cF rfl ?_;(conv=>whnf);skip;refine cT rfl ?_;(conv=>whnf);repeat ((refine ⟨_,[al x],.head _,⟨rfl,by simp [al],rfl⟩,⟨Nat.le_of_ble_eq_true rfl,Nat.le_of_ble_eq_true rfl⟩,fun q=>?_⟩);conv=>whnf)
 exact ⟨q,rfl,rfl⟩
theorem Hq {A B X:List AV}:cY (A++B) A.length X=A++(X++B.drop X.length):=by unfold cY;rw [List.take_left,List.append_assoc,<- List.drop_drop,List.drop_left]
theorem MN {A B X D:List AV} {n m:Nat} (hn:n=A.length) (hm:m=A.length+X.length) (hb:B.length=X.length+D.length):cY (cY (A++B) n X) m D=A++(X++D):=by subst hn;rw [Hq,<- List.append_assoc,show m=(A++X).length by rw [List.length_append];omega,Hq,List.drop_drop,List.drop_eq_nil_of_le (by omega),List.append_nil,List.append_assoc]
theorem MO {A X D:List AV} {n m:Nat} (hn:n=A.length) (hm:m=A.length+X.length) (hb:X.length<=D.length):cY (cY (A++D) m D) n X=A++(X++D):=by
 subst hn hm;have h1:cY (A++D) (A.length+X.length) D=A++(D.take X.length++D):=by unfold cY;rw [List.drop_eq_nil_of_le (by rw [List.length_append];omega),List.append_nil,List.take_append,List.take_of_length_le (by omega),Nat.add_sub_cancel_left,List.append_assoc]
 rw [h1,Hq];congr 2;rw [List.drop_append,List.drop_eq_nil_of_le (by rw [List.length_take];omega),List.nil_append,List.length_take];have:X.length - min X.length D.length=0:=(by omega);rw [this];rfl
theorem ly:Extern.find Tryz.f273=some (Extern.SlicesOverlaps.overlaps #[321,321] #[4]):=by kernel_rfl
def lz (x:Wy) (Q:List Wy) (i vb:Nat) (v:AV) (h':ab):Prop:=∃ b' fi,ag v (.aR b' fi.length (Q.length+1) 3)/\∃ h2,h'.Perm ((b',.vec (fi++((Q.take i++x::Q.drop i).map al).flatten))::h2)
theorem lA (x:Wy) (Q:List Wy) (i:Nat) (hi:i<=Q.length) (b vb off c:Nat) (pre cs:List AV) (bR:cs=pre++(Q.map al).flatten) (ho:0<c->off=pre.length) (hc:Q.length<=c) (hl:Q.length<=65536) (aI:vb≠b) :
  ay Tryz.prog 252 [.eB b off Q.length c 3,.int .i64 i,.aR vb 0 1 3] [(b,.vec cs),(vb,.vec (al x))] (lz x Q i vb):=by
 have bw:cs.length=pre.length+Q.length*3:=(by rw [bR,List.length_append,mz da]);refine aG (F:=Tryz.f252) c252 rfl rfl rfl mixed rfl fun X=>?_;(conv=>whnf);repeat (refine ⟨af ⟨by omega,by omega⟩,?_⟩;conv=>whnf)
 refine cF rfl ?_;(conv=>whnf);skip;refine ⟨fun he=>?_,fun he=>?_⟩<;>simp at he
 ·have he:i=Q.length:=(by omega);subst he;have eO:((Q.take Q.length++x::Q.drop Q.length).map al).flatten=(Q.map al).flatten++[al x].flatten:=by rw [List.take_length,List.drop_length,List.map_append,List.flatten_append];rfl
  by_cases jB:Q.length+1<=c
  ·have:=ho (by omega);subst this;(conv=>whnf);repeat ((refine ⟨_,[al x],.tail _ (.head _),⟨rfl,by simp [al],rfl⟩,by unfold aV;omega,cs,.head _,.inl ⟨jB,bw,_,.here _,?_⟩⟩);conv=>whnf)
   refine ⟨b,pre,ag.eB,[(vb,.vec (al x))],?_⟩;rw [bR,eO,<- List.append_assoc]
  have Bw:Q.length=0\/off+Q.length*3<=cs.length:=by
   by_cases h0:Q.length=0
   ·exact .inl h0
   have:=ho (by omega);exact .inr (by omega)
  have ch:(cs.drop off).take (Q.length*3)=(Q.map al).flatten:=by
   by_cases h0:Q.length=0
   ·have:Q=[]:=List.eq_nil_of_length_eq_zero h0;subst this;simp
   have:=ho (by omega);rw [bR,this,List.drop_left,List.take_of_length_le (by rw [mz da];exact Nat.le_refl _)]
  (conv=>whnf);repeat ((refine ⟨_,[al x],.tail _ (.head _),⟨rfl,by simp [al],rfl⟩,by unfold aV;omega,cs,.head _,.inr ⟨by omega,Bw,fun q=>?_⟩⟩);conv=>whnf)
  refine ⟨q,[],ag.refl _,[(b,.vec cs),(vb,.vec (al x))],?_⟩;rw [ch,eO];exact .refl _
 have cn:i<Q.length:=(by omega);have rI:=ho (by omega);subst rI;have z1:(i:Int).toNat - Int.toNat 0=i:=(by simp);have z2:c - Int.toNat 0=c:=(by simp);have z3:oL pre.length (Int.toNat 0) c 3=pre.length:=by unfold oL;split<;>simp
 have z4:(Q.length:Int)+((1:Nat):Int) - (i:Int)=((Q.length+1 - i:Nat):Int):=(by omega);have z5:oL pre.length (i:Int).toNat c 3=pre.length+i*3:=by unfold oL;rw [if_neg (by simp;omega)];simp
 have Hr:cs.drop pre.length=(Q.map al).flatten:=(by rw [bR,List.drop_left]);have Bx:cs.drop (pre.length+i*3)=((Q.drop i).map al).flatten:=(by rw [bR,List.drop_append,List.drop_eq_nil_of_le (by omega),List.nil_append,Nat.add_sub_cancel_left,xB da]);(conv=>whnf);repeat (refine ⟨af ⟨by omega,by omega⟩,?_⟩;conv=>whnf)
 refine ⟨fun hz=>?_,fun hz=>?_⟩<;>simp at hz
 ·(conv=>whnf);repeat (refine ⟨af ⟨by omega,by omega⟩,?_⟩;conv=>whnf)
  rw [z1,z2,z3,z4];refine ⟨cs,.head _,⟨by omega,by omega,by omega,by omega⟩,fun q=>?_⟩;rw [Hr,By da,Int.toNat_natCast,show i+(Q.length+1 - i)=Q.length+1 by omega];(conv=>whnf);repeat (refine ⟨af ⟨by omega,by omega⟩,?_⟩;conv=>whnf)
  have m1:min 1 (((Q.length+1:Nat):Int).toNat - (i:Int).toNat)=1:=by rw [Int.toNat_natCast,Int.toNat_natCast];omega
  have m2:0+(i:Int).toNat*3=i*3:=(by simp);have fQ:((Q.take i).map al).flatten.length=i*3:=by rw [mz da,List.length_take];omega
  have pX:((Q.drop i).map al).flatten.length=(Q.length - i)*3:=(by rw [mz da,List.length_drop]);have uB:(iY (Q.length+1 - i) [AV.int .i64 0,AV.int .i64 0,AV.int .i64 0]).length=(Q.length+1 - i)*3:=by unfold iY;simp
  rw [m1,m2];refine ⟨_,[al x],.tail _ (.tail _ (.head _)),⟨rfl,by simp [al],rfl⟩,_,_,.here _,⟨by omega,?_⟩,?_⟩
  ·rw [List.length_append,fQ,uB];show i*3+3<=_;omega
  (conv=>whnf);repeat ((first|refine ⟨af ⟨by omega,by omega⟩,?_⟩|refine And.intro (by show aJ (aH Tryz.f252 _) _=true;decide +kernel) ?_);conv=>whnf)
  have m3:min ((Q.length:Int).toNat - (i:Int).toNat) (((Q.length+1:Nat):Int).toNat - ((i:Int)+((1:Nat):Int)).toNat)=Q.length - i:=by rw [show (i:Int)+((1:Nat):Int)=((i+1:Nat):Int) by omega];simp only [Int.toNat_natCast];omega
  have m4:0+((i:Int)+((1:Nat):Int)).toNat*3=(i+1)*3:=(by rw [show (i:Int)+((1:Nat):Int)=((i+1:Nat):Int) by omega,Int.toNat_natCast,Nat.zero_add]);rw [m3,m4,z5];have Hs:=MN (A:=((Q.take i).map al).flatten) (B:=iY (Q.length+1 - i) [AV.int .i64 0,AV.int .i64 0,AV.int .i64 0]) (X:=al x) (D:=((Q.drop i).map al).flatten) (n:=i*3) (m:=(i+1)*3) fQ.symm (by rw [fQ];show _=i*3+3;omega) (by rw [uB,pX];show _=3+_;omega);refine ⟨cs,(Q.drop i).map al,.tail _ (.head _),⟨?_,?_,by simp⟩,_,_,.here _,⟨by omega,?_⟩,?_⟩
  ·rw [Bx,List.take_of_length_le (by rw [pX];exact Nat.le_refl _)]
  ·intro z hz;obtain ⟨w,_,rfl⟩:=List.mem_map.1 hz;rfl
  ·have h1:(cY (((Q.take i).map al).flatten++iY (Q.length+1 - i) [AV.int .i64 0,AV.int .i64 0,AV.int .i64 0]) (i*3) [al x].flatten).length=(Q.length+1)*3:=by
    rw [Ht _ _ _ (by rw [List.length_append,fQ,uB];show i*3+3<=_;omega),List.length_append,fQ,uB];omega
   rw [h1,pX];omega
  (conv=>whnf);skip;refine ⟨q,[],ag.refl _,[(b,.vec cs),(vb,.vec (al x))],?_⟩;rw [show [al x].flatten=al x from by simp,Hs,List.map_append,List.flatten_append];exact .refl _
 (conv=>whnf);repeat (refine ⟨af ⟨by omega,by omega⟩,?_⟩;conv=>whnf)
 rw [z2,z3];have z7:oL pre.length ((i:Int)+((1:Nat):Int)).toNat c 3=pre.length+(i+1)*3:=by rw [show (i:Int)+((1:Nat):Int)=((i+1:Nat):Int) by omega,Int.toNat_natCast];unfold oL;rw [if_neg (by omega)]
 have z9:((Q.length:Int)+((1:Nat):Int)).toNat - Int.toNat 0=Q.length+1:=by rw [show (Q.length:Int)+((1:Nat):Int)=((Q.length+1:Nat):Int) by omega];simp
 have z8:(((Q.length+1:Nat):Int)).toNat - ((i:Int)+((1:Nat):Int)).toNat=Q.length - i:=by rw [show (i:Int)+((1:Nat):Int)=((i+1:Nat):Int) by omega,Int.toNat_natCast,Int.toNat_natCast];omega
 rw [z7,z9,z8];refine MK (fn:=Tryz.f273) rfl rfl rfl (by kernel_rfl) ly rfl (by decide) (.tail _ (.head _)) (.head _) aI (by omega) (by omega) ?_;(conv=>whnf);skip;refine cT rfl ?_;(conv=>whnf);repeat ((first|refine ⟨af ⟨by omega,by omega⟩,?_⟩|refine And.intro (by show aJ (aH Tryz.f252 _) _=true;decide +kernel) ?_);conv=>whnf)
 have fQ:((Q.take i).map al).flatten.length=i*3:=by rw [mz da,List.length_take];omega
 have pX:((Q.drop i).map al).flatten.length=(Q.length - i)*3:=(by rw [mz da,List.length_drop]);have m3:min (((Q.length+1:Nat):Int).toNat - (i:Int).toNat) (((Q.length+1:Nat):Int).toNat - ((i:Int)+((1:Nat):Int)).toNat)=Q.length - i:=by rw [show (i:Int)+((1:Nat):Int)=((i+1:Nat):Int) by omega];simp only [Int.toNat_natCast];omega
 have Hu:cs=(pre++((Q.take i).map al).flatten)++((Q.drop i).map al).flatten:=(by rw [bR,List.append_assoc,<- List.flatten_append,<- List.map_append,List.take_append_drop]);have ji:(pre++((Q.take i).map al).flatten).length=pre.length+i*3:=(by rw [List.length_append,fQ]);have rS:=MO (A:=pre++((Q.take i).map al).flatten) (X:=al x) (D:=((Q.drop i).map al).flatten) (n:=pre.length+i*3) (m:=pre.length+(i+1)*3) ji.symm (by rw [ji];show _=_+3;omega) (by rw [pX];show 3<=_;omega);rw [<- Hu] at rS;rw [m3,z5,z7];refine ⟨cs,(Q.drop i).map al,.head _,⟨?_,?_,by simp⟩,_,_,.here _,⟨by omega,by omega⟩,?_⟩
 ·rw [Bx,List.take_of_length_le (by rw [pX];exact Nat.le_refl _)]
 ·intro z hz;obtain ⟨w,_,rfl⟩:=List.mem_map.1 hz;rfl
 (conv=>whnf);repeat (refine ⟨af ⟨by omega,by omega⟩,?_⟩;conv=>whnf)
 have m1:min 1 (((Q.length+1:Nat):Int).toNat - (i:Int).toNat)=1:=by rw [Int.toNat_natCast,Int.toNat_natCast];omega
 rw [m1,z5];refine ⟨_,[al x],.tail _ (.head _),⟨rfl,by simp [al],rfl⟩,_,_,.here _,⟨by omega,?_⟩,?_⟩
 ·unfold cY;simp only [List.length_append,List.length_take,List.length_drop];omega
 (conv=>whnf);skip;refine ⟨b,pre,ag.eB,[(vb,.vec (al x))],?_⟩;rw [show [al x].flatten=al x from by simp,rS,show pre++((Q.take i++x::Q.drop i).map al).flatten=(pre++((Q.take i).map al).flatten)++(al x++((Q.drop i).map al).flatten) from by simp [List.append_assoc]]
theorem ay.re {f:FuncId} {vs:List AV} {h h2 H:ab} {R R':AV->ab->Prop} (hf:ay Tryz.prog f vs h R) (hp:(h++h2).Perm H)
  (hr:∀ v h1,R v h1->∃ H',(h1++h2).Perm H'/\R' v H'):ay Tryz.prog f vs H R':=by
 refine ay.post (ay.perm (ay.frame hf h2) hp) ?_;rintro v h3 ⟨h1,hR,rfl⟩;obtain ⟨H',aZ,Hv⟩:=hr v h1 hR;exact ⟨v,H',Hv,ag.refl _,fun k o hm=>aZ.mem_iff.2 hm,fun hn=>by unfold keys at hn ⊢;exact ((aZ.map _).nodup_iff).1 hn⟩
def ef (Q:List Wy) (ov:AV) (oh:ab):Prop:=(Q=[]/\ov=.aW/\oh=[])\/∃ b pre,ov=.aR b pre.length Q.length 3/\oh=[(b,.vec (pre++(Q.map al).flatten))]
theorem lB (x:Wy) (Q:List Wy) (b vb:Nat) (pre:List AV) (hl:Q.length<=65536) :
  ay Tryz.prog 252 [.aR b pre.length Q.length 3,.int .i64 (cS x Q),.aR vb 0 1 3] [(b,.vec (pre++(Q.map al).flatten)),(vb,.vec (al x))]
   (fun v h'=>∃ b' fi,v=.aR b' fi.length (Q.length+1) 3/\h'=[(b',.vec (fi++((il x Q).map al).flatten))]):=by
 by_cases aI:vb=b
 ·subst aI;refine ⟨fun X g w us hc hr=>?_⟩;have:=hc.nodup;simp [keys] at this
 refine ay.post (ay.MM fun zn c ho hc=>lA x Q (cS x Q) (zl x Q) b vb zn c pre _ rfl ho hc hl aI) ?_;rintro v h1 ⟨b',fi,hv,h2,hp⟩;refine ⟨_,_,⟨b',fi,rfl,rfl⟩,hv,fun k o hm=>hp.mem_iff.2 (by cases List.mem_singleton.1 hm;exact List.mem_cons_self),fun _=>by simp [keys]⟩
def cg (fv ov:AV) (due:Bool):List AV:=[fv,ov,.fn 214 [],.bool due]
def c215:aw:=⟨[0,1,3,4],[26],[],[],[(1,[0,1,2,3,4,5,6,7,8,9,10,11,12,13,14],[]),(2,[0,1,2,3,4,5,6,7,8,9,10,11],[])],[26,27]⟩
theorem lC (x:Wy) (Q:List Wy) (hs:Q.Pairwise cW) (nk:Nat) (fv:AV) (due:Bool) (ov:AV) (oh:ab) (ho:ef Q ov oh) (hl:Q.length<=65536) :
  ay Tryz.prog 215 [.bn nk 1,.agg (al x)] ((nk,.vec (cg fv ov due))::oh)
   (fun v h'=>v=.aQ []/\∃ iq iu,ef (il x Q) iq iu/\h'=(nk,.vec (cg fv iq due))::iu):=by
 have kc:=vV x Q;refine ay.post (R:=fun v h'=>v=.aQ []/\∃ iq iu g,ef (il x Q) iq iu/\h'.Perm ((nk,.vec (cg fv iq due))::(iu++g))) ?_ ?_
 ·rcases ho with ⟨rfl,rfl,rfl⟩|⟨b,pre,rfl,rfl⟩
  ·have mB:ae Tryz.prog 251 [.aW,.agg (al x),.fn 214 []] [] (.aQ [.int .i64 (cS x []),.bool (gk x [])]):=
    ae.args (kd x) (.cons (ag.nil (by decide)) (cP.refl _))
   refine aG (F:=Tryz.f215) c215 rfl rfl rfl mixed rfl fun X=>?_;(conv=>whnf);repeat ((first|refine aX (mB) ?_|refine ⟨_,_,.head _,rfl,?_⟩|refine And.intro (by show aJ (aH Tryz.f215 _) _=true;decide +kernel) ?_|intro (nb:Nat));conv=>whnf)
   refine ay.mono ?_ (ay.frame (lx x nb) _);rintro v h1 ⟨h2,⟨q,rfl,rfl⟩,rfl⟩;(conv=>whnf);repeat ((refine ⟨_,_,.there (.there (.here _)),aF,?_⟩);conv=>whnf)
   exact ⟨rfl,.aR q 0 1 3,[(q,.vec (al x))],[(nb,.vec (al x))],.inr ⟨q,[],rfl,rfl⟩,List.perm_append_comm (l₁:=[(q,_),(nb,_)]) (l₂:=[(nk,_)])⟩
  have mB:ae Tryz.prog 251 [.aR b pre.length Q.length 3,.agg (al x),.fn 214 []] [(nk,.vec (cg fv (.aR b pre.length Q.length 3) due)),(b,.vec (pre++(Q.map al).flatten))] (.aQ [.int .i64 (cS x Q),.bool (gk x Q)]):=
   ae.perm (h2:=[(nk,.vec (cg fv (.aR b pre.length Q.length 3) due))]) (lu x Q hs b pre (by omega)) (List.perm_append_comm (l₁:=[_]) (l₂:=[_]))
  refine aG (F:=Tryz.f215) c215 rfl rfl rfl mixed rfl fun X=>?_;(conv=>whnf);repeat ((first|(refine Ef mB ?_)|refine ⟨_,_,.head _,rfl,?_⟩|refine And.intro (by show aJ (aH Tryz.f215 _) _=true;decide +kernel) ?_|intro (nb:Nat));conv=>whnf)
  refine ay.mono (R:=fun v h1=>∃ b' fi g,v=.aR b' fi.length (Q.length+1) 3/\h1=(b',.vec (fi++((il x Q).map al).flatten))::(nk,.vec (cg fv (.aR b pre.length Q.length 3) due))::g) ?_ (ay.re (lB x Q b nb pre hl) (h2:=[(nk,.vec (cg fv (.aR b pre.length Q.length 3) due))]) ?_ ?_)
  ·rintro v h1 ⟨b',fi,g,rfl,rfl⟩;(conv=>whnf);repeat ((refine ⟨_,_,.there (.here _),aF,?_⟩);conv=>whnf)
   exact ⟨rfl,.aR b' fi.length (Q.length+1) 3,[(b',.vec (fi++((il x Q).map al).flatten))],g,.inr ⟨b',fi,by rw [kc],rfl⟩,List.Perm.swap _ _ _⟩
  ·exact (List.Perm.swap _ _ _).trans (List.Perm.cons _ (List.Perm.swap _ _ _))
  rintro v h1 ⟨b',fi,rfl,rfl⟩;exact ⟨_,.refl _,b',fi,[],rfl,rfl⟩
 rintro v h1 ⟨rfl,iq,iu,g,bD,hp⟩;refine ⟨_,_,⟨rfl,iq,iu,bD,rfl⟩,ag.refl _,fun k o hm=>hp.mem_iff.2 ?_,fun hn=>?_⟩
 ·rcases List.mem_cons.1 hm with h|h
  ·rw [h];exact List.mem_cons_self
  exact List.mem_cons_of_mem _ (List.mem_append_left _ h)
 have h1:=((hp.map (fun p:Nat × Ob=>p.1)).nodup_iff).1 hn;unfold keys;simp only [List.map_cons,List.map_append,List.nodup_cons,List.mem_append,not_or,List.nodup_append] at h1 ⊢;exact ⟨h1.1.1,h1.2.1⟩
end Go.Abs.Wall.Lst
