/- Small laws for the walks and contracts of functions; each theorem names its conditions. -/
import Derived.Test.YthmcbjcgdfmmaaaGreatN13
import Derived.Test.YthmcbjcgdfmmaaaGreatN1
import Derived.Test.YthmcbjcgdfmmaaaGreatN8
import Derived.Test.YthmcbjcgdfmmaaaGreatN7
import Derived.Lib.Overlaps
set_option maxRecDepth 100000
set_option maxHeartbeats 2000000
namespace Go.Abs.Wall
open Go Go.Abs Go.Proofs
end Go.Abs.Wall
namespace Go.Abs.Wall
structure Wy where
 cost:Int
 aR:Nat
 aO:Nat
def dy (x y:Wy):Prop:=x.cost<y.cost\/(x.cost=y.cost/\x.aR<y.aR)
theorem dy.ua {x:Wy}:¬ dy x x:=by unfold dy;omega
theorem dy.trans {x y z:Wy} (h1:dy x y) (h2:dy y z):dy x z:=by unfold dy at *;omega
theorem dy.yy {x y:Wy} (h1:dy x y) (h2:dy y x):False:=dy.ua (h1.trans h2)
def ig (cls:List (List Int)) (rs:Nat->Nat) (x:Wy):Prop:=x.aO=rs x.aR/\∃ l,cls[x.aR]?=some l/\l[x.aO]?=some x.cost
theorem ig.eq {cls:List (List Int)} {rs:Nat->Nat} {x y:Wy} (h1:ig cls rs x) (h2:ig cls rs y) (h:x.aR=y.aR):x=y:=by
 obtain ⟨a1,l,a2,a3⟩:=h1;obtain ⟨b1,m,b2,b3⟩:=h2;obtain ⟨c,e,r⟩:=x;obtain ⟨c',e',r'⟩:=y;simp only at h a1 a2 a3 b1 b2 b3;subst h;subst a1 b1;rw [a2] at b2;cases b2
 rw [a3] at b3;cases b3
 rfl
def kO (rs:Nat->Nat):List (List Int)->Nat->Option Wy
 | [],_=>none
 | l::ls,k=>match l[rs k]? with
   | none=>kO rs ls (k+1)
   | some c=>match kO rs ls (k+1) with
     | none=>some ⟨c,k,rs k⟩
     | some y=>if c<=y.cost then some ⟨c,k,rs k⟩ else some y
theorem Ir {rs:Nat->Nat}:∀ {ls:List (List Int)} {k:Nat},kO rs ls k=none->∀ (j:Nat) l,ls[j]?=some l->l[rs (k+j)]?=none
 | [],k,h,j,l,hj=>by simp at hj
 | l0::ls,k,h,j,l,hj=>by
   unfold kO at h;cases hc:l0[rs k]? with
   | none=>
     simp only [hc] at h;cases j with
     | zero=>simp at hj;subst hj;exact hc
     | succ j=>
       have:=Ir h j l (by simpa using hj);rwa [show k+1+j=k+(j+1) by omega] at this
   | some c=>
     simp only [hc] at h;cases hb:kO rs ls (k+1) with
     | none=>simp [hb] at h
     | some y=>simp only [hb] at h;split at h<;>cases h
theorem Is {rs:Nat->Nat}:∀ {ls:List (List Int)} {k:Nat} {x:Wy},kO rs ls k=some x ->
  k<=x.aR/\x.aO=rs x.aR/\(∃ l,ls[x.aR - k]?=some l/\l[x.aO]?=some x.cost)/\∀ (j:Nat) l c,ls[j]?=some l->l[rs (k+j)]?=some c->k+j=x.aR\/x.cost<c\/(x.cost=c/\x.aR<k+j)
 | [],k,x,h=>by simp [kO] at h
 | l0::ls,k,x,h=>by
   unfold kO at h;cases hc:l0[rs k]? with
   | none=>
     simp only [hc] at h;obtain ⟨a1,a2,⟨l,a3,a4⟩,a5⟩:=Is h;refine ⟨by omega,a2,⟨l,?_,a4⟩,fun j l c hj hl=>?_⟩
     ·rw [show x.aR - k=(x.aR - (k+1))+1 by omega];simpa using a3
     cases j with
     | zero=>simp at hj;subst hj;rw [Nat.add_zero,hc] at hl;cases hl
     | succ j=>
       have:=a5 j l c (by simpa using hj) (by rwa [show k+1+j=k+(j+1) by omega]);rw [show k+1+j=k+(j+1) by omega] at this;exact this
   | some c0=>
     simp only [hc] at h;have own:∀ (y:Wy),y=⟨c0,k,rs k⟩->k<=y.aR/\y.aO=rs y.aR/\(∃ l,(l0::ls)[y.aR - k]?=some l/\l[y.aO]?=some y.cost):=by rintro y rfl;exact ⟨Nat.le_refl _,rfl,l0,by simp,hc⟩
     cases hb:kO rs ls (k+1) with
     | none=>
       simp only [hb] at h;cases h
       obtain ⟨o1,o2,o3⟩:=own _ rfl;refine ⟨o1,o2,o3,fun j l c hj hl=>?_⟩;cases j with
       | zero=>exact .inl rfl
       | succ j=>
         have:=Ir hb j l (by simpa using hj);rw [show k+1+j=k+(j+1) by omega,hl] at this;cases this
     | some y=>
       simp only [hb] at h;obtain ⟨a1,a2,⟨l,a3,a4⟩,a5⟩:=Is hb;split at h
       ·rename_i hle;cases h
        obtain ⟨o1,o2,o3⟩:=own _ rfl;refine ⟨o1,o2,o3,fun j l c hj hl=>?_⟩;cases j with
        | zero=>exact .inl rfl
        | succ j=>
          have:=a5 j l c (by simpa using hj) (by rwa [show k+1+j=k+(j+1) by omega]);have h3:(⟨c0,k,rs k⟩:Wy).cost=c0:=rfl;have h4:(⟨c0,k,rs k⟩:Wy).aR=k:=rfl;rw [h3,h4];by_cases hq:c0<c
          ·exact .inr (.inl hq)
          refine .inr (.inr ⟨?_,by omega⟩);rcases this with e|e|e
          ·have h5:l[y.aO]?=some c:=by rw [a2,<- e,show k+1+j=k+(j+1) by omega];exact hl
           have h6:ls[j]?=some l:=(by simpa using hj);rw [show y.aR - (k+1)=j by omega,h6] at a3;cases a3
           rw [h5] at a4;cases a4
           omega
          ·omega
          omega
       rename_i hle;cases h
       refine ⟨by omega,a2,⟨l,?_,a4⟩,fun j l c hj hl=>?_⟩
       ·rw [show x.aR - k=(x.aR - (k+1))+1 by omega];simpa using a3
       cases j with
       | zero=>
         simp at hj;subst hj;rw [Nat.add_zero,hc] at hl;cases hl
         exact .inr (.inl (by omega))
       | succ j=>
         have:=a5 j l c (by simpa using hj) (by rwa [show k+1+j=k+(j+1) by omega]);rw [show k+1+j=k+(j+1) by omega] at this;exact this
def fK (cls:List (List Int)) (rs:Nat->Nat):Option Wy:=kO rs cls 0
theorem Iu {cls:List (List Int)} {rs:Nat->Nat} (h:fK cls rs=none) (x:Wy):¬ ig cls rs x:=by rintro ⟨h1,l,h2,h3⟩;have:=Ir h x.aR l h2;rw [Nat.zero_add,<- h1,h3] at this;cases this
theorem Cj {cls:List (List Int)} {rs:Nat->Nat} {x:Wy} (h:fK cls rs=some x):ig cls rs x/\∀ y,ig cls rs y->y=x\/dy x y:=by
 obtain ⟨a1,a2,⟨l,a3,a4⟩,a5⟩:=Is h;have hx:ig cls rs x:=⟨a2,l,by simpa using a3,a4⟩;refine ⟨hx,fun y hy=>?_⟩;obtain ⟨b1,m,b2,b3⟩:=hy;have:=a5 y.aR m y.cost b2 (by rw [Nat.zero_add,<- b1];exact b3);rw [Nat.zero_add] at this;rcases this with e|e|e
 ·exact .inl (ig.eq ⟨b1,m,b2,b3⟩ hx e)
 ·exact .inr (.inl e)
 exact .inr (.inr e)
theorem Fk {cls:List (List Int)} {rs:Nat->Nat} {x:Wy} (h:ig cls rs x) (hm:∀ y,ig cls rs y->y=x\/dy x y):fK cls rs=some x:=by
 cases hb:fK cls rs with
 | none=>exact absurd h (Iu hb x)
 | some y=>
   obtain ⟨h1,h2⟩:=Cj hb;rcases hm y h1 with rfl|e
   ·rfl
   rcases h2 x h with rfl|e2
   ·rfl
   exact (e.yy e2).elim
theorem Fl {cls:List (List Int)} {rs:Nat->Nat} (h:∀ x,¬ ig cls rs x):fK cls rs=none:=by
 cases hb:fK cls rs with
 | none=>rfl
 | some y=>exact absurd (Cj hb).1 (h y)
def up (rs:Nat->Nat) (k:Nat):Nat->Nat:=fun j=>if j=k then rs k+1 else rs j
def mF:Nat->Nat:=fun _=>0
def gen (cls:List (List Int)):Nat->(Nat->Nat)->List Wy
 | 0,_=>[]
 | n+1,rs=>match fK cls rs with
   | none=>[]
   | some x=>x::gen cls n (up rs x.aR)
def jH (cls:List (List Int)):Nat->(Nat->Nat)->Nat->Nat
 | 0,rs=>rs
 | t+1,rs=>match fK cls rs with
   | none=>rs
   | some x=>jH cls t (up rs x.aR)
theorem NA {cls:List (List Int)}:∀ (n t:Nat) (rs:Nat->Nat),(gen cls n rs)[t]?=if t<n then fK cls (jH cls t rs) else none
 | 0,t,rs=>by simp [gen]
 | n+1,t,rs=>by
   unfold gen;cases hb:fK cls rs with
   | none=>
     cases t with
     | zero=>simp [jH,hb]
     | succ t=>simp [jH,hb]
   | some x=>
     cases t with
     | zero=>simp [jH,hb]
     | succ t=>
       simp only [List.getElem?_cons_succ,jH,hb];rw [NA n t];by_cases h:t<n
       ·rw [if_pos h,if_pos (by omega)]
       rw [if_neg h,if_neg (by omega)]
theorem yE {cls:List (List Int)}:∀ (t:Nat) (rs:Nat->Nat),jH cls (t+1) rs=match fK cls (jH cls t rs) with
  | none=>jH cls t rs
  | some x=>up (jH cls t rs) x.aR
 | 0,rs=>by unfold jH;cases fK cls rs<;>rfl
 | t+1,rs=>by
   have h:jH cls (t+1+1) rs=match fK cls rs with
     | none=>rs
     | some x=>jH cls (t+1) (up rs x.aR):=rfl
   have h2:jH cls (t+1) rs=match fK cls rs with
     | none=>rs
     | some x=>jH cls t (up rs x.aR):=rfl
   rw [h,h2];cases hb:fK cls rs with
   | none=>simp only [hb]
   | some x=>simp only;exact yE t _
theorem NB {cls:List (List Int)}:∀ (t:Nat) (rs:Nat->Nat) (k:Nat),jH cls t rs k<=rs k+t
 | 0,rs,k=>by simp [jH]
 | t+1,rs,k=>by
   unfold jH;cases hb:fK cls rs with
   | none=>simp
   | some x=>
     simp only;have:=NB (cls:=cls) t (up rs x.aR) k;have h2:up rs x.aR k<=rs k+1:=by unfold up;split<;>(try subst_vars)<;>omega
     omega
def pA (rs:Nat->Nat):List (List Int)->Nat->Nat
 | [],_=>0
 | l::ls,k=>(l.length - rs k)+pA rs ls (k+1)
theorem NC {rs:Nat->Nat}:∀ {ls:List (List Int)} {k:Nat},pA rs ls k=0->kO rs ls k=none
 | [],k,_=>rfl
 | l::ls,k,h=>by
   unfold pA at h;unfold kO;have h1:l[rs k]?=none:=by rw [List.getElem?_eq_none_iff];omega
   rw [h1];exact NC (by omega)
theorem ND {rs:Nat->Nat} {e:Nat}:∀ {ls:List (List Int)} {k:Nat},e<k->pA (up rs e) ls k=pA rs ls k
 | [],k,_=>rfl
 | l::ls,k,h=>by unfold pA;rw [ND (by omega)];unfold up;rw [if_neg (by omega)]
theorem NF {rs:Nat->Nat} {e:Nat}:∀ {ls:List (List Int)} {k:Nat} {l:List Int},k<=e->ls[e - k]?=some l->rs e<l.length->pA (up rs e) ls k+1=pA rs ls k
 | [],k,l,_,h,_=>by simp at h
 | l0::ls,k,l,hk,h,hl=>by
   unfold pA;by_cases he:e=k
   ·subst he;rw [ND (by omega)];simp at h;subst h;unfold up;rw [if_pos rfl];omega
   have:=NF (rs:=rs) (e:=e) (ls:=ls) (k:=k+1) (l:=l) (by omega) (by rw [show e - k=(e - (k+1))+1 by omega] at h;simpa using h) hl;rw [show up rs e k=rs k by unfold up;rw [if_neg (by omega)]];omega
theorem NG {cls:List (List Int)}:∀ (t:Nat) (rs:Nat->Nat),pA rs cls 0<=t->fK cls (jH cls t rs)=none
 | 0,rs,h=>by show kO rs cls 0=none;exact NC (by omega)
 | t+1,rs,h=>by
   unfold jH;cases hb:fK cls rs with
   | none=>simpa using hb
   | some x=>
     simp only;obtain ⟨⟨h1,l,h2,h3⟩,_⟩:=Cj hb;have hl:=(List.getElem?_eq_some_iff.1 h3).1;have:=NF (rs:=rs) (e:=x.aR) (ls:=cls) (k:=0) (l:=l) (Nat.zero_le _) (by simpa using h2) (by omega);exact NG t _ (by omega)
def aW (cls:List (List Int)):List Wy:=gen cls (pA mF cls 0) mF
def dz (cls:List (List Int)) (t:Nat):Nat->Nat:=jH cls t mF
theorem kP (cls:List (List Int)) (t:Nat):(aW cls)[t]?=fK cls (dz cls t):=by
 unfold aW dz;rw [NA];by_cases h:t<pA mF cls 0
 ·rw [if_pos h]
 rw [if_neg h,NG t mF (by omega)]
theorem Iv (cls:List (List Int)) (t k:Nat):dz cls t k<=t:=by have:=NB (cls:=cls) t mF k;unfold dz mF at *;omega
theorem wK {cls:List (List Int)} {t:Nat} {x:Wy} (h:(aW cls)[t]?=some x):dz cls (t+1)=up (dz cls t) x.aR:=by rw [kP] at h;unfold dz at h ⊢;rw [yE,h]
theorem UH {cls:List (List Int)} {t:Nat} (h:(aW cls)[t]?=none):dz cls (t+1)=dz cls t:=by rw [kP] at h;unfold dz at h ⊢;rw [yE,h]
theorem mG {cls:List (List Int)} {t:Nat} {x:Wy} (h:(aW cls)[t]?=some x):ig cls (dz cls t) x:=by rw [kP] at h;exact (Cj h).1
theorem Ck {cls:List (List Int)} {t:Nat} {x:Wy} (h:(aW cls)[t]?=some x):x.aO<=t:=by have:=(mG h).1;have:=Iv cls t x.aR;omega
structure nF (cls:List (List Int)) (t:Nat) (due:Bool) (Q:List Wy):Prop where
 le:t<=(aW cls).length
 sorted:Q.Pairwise dy
 mem:∀ x,x∈Q↔ig cls (dz cls t) x/\(due=true->∀ y,(aW cls)[t - 1]?=some y->x.aR≠y.aR)
 pos:due=true->1<=t
theorem nF.last {cls:List (List Int)} {t:Nat} {Q:List Wy} (h:nF cls t true Q):∃ y,(aW cls)[t - 1]?=some y:=by have h1:=h.le;have h2:=h.pos rfl;exact ⟨_,List.getElem?_eq_getElem (by omega)⟩
theorem nF.empty {cls:List (List Int)} {t:Nat} (h:nF cls t false []):(aW cls)[t]?=none:=by rw [kP];refine Fl fun x hx=>?_;have:=(h.mem x).2 ⟨hx,fun e=>by cases e⟩;cases this
theorem nF.pop {cls:List (List Int)} {t:Nat} {x:Wy} {Q:List Wy} (h:nF cls t false (x::Q)):(aW cls)[t]?=some x/\nF cls (t+1) true Q:=by
 have hs:=List.pairwise_cons.1 h.sorted;have hx:ig cls (dz cls t) x:=((h.mem x).1 (by simp)).1
 have hg:(aW cls)[t]?=some x:=by
  rw [kP];refine Fk hx fun y hy=>?_;have:=(h.mem y).2 ⟨hy,fun e=>by cases e⟩;rcases List.mem_cons.1 this with rfl|hm
  ·exact .inl rfl
  exact .inr (hs.1 y hm)
 refine ⟨hg,?_,hs.2,fun y=>?_,fun _=>by omega⟩
 ·have:=(List.getElem?_eq_some_iff.1 hg).1;omega
 rw [wK hg,show t+1 - 1=t by omega,hg];constructor
 ·intro hy;have hc:=((h.mem y).1 (List.mem_cons_of_mem _ hy)).1;have aM:y.aR≠x.aR:=fun e=>by have:=ig.eq hc hx e;subst this;exact dy.ua (hs.1 _ hy)
  refine ⟨⟨?_,hc.2⟩,fun _ z hz=>by cases hz;exact aM⟩;unfold up;rw [if_neg aM];exact hc.1
 rintro ⟨⟨h1,h2⟩,h3⟩;have aM:=h3 rfl x rfl;unfold up at h1;rw [if_neg aM] at h1;have:=(h.mem y).2 ⟨⟨h1,h2⟩,fun e=>by cases e⟩;rcases List.mem_cons.1 this with rfl|hm
 ·exact absurd rfl aM
 exact hm
def Iw (x y:Wy):Bool:=decide (x.cost<y.cost)||(decide (x.cost=y.cost)&&decide (x.aR<y.aR))
theorem NH {x y:Wy}:Iw x y=true↔dy x y:=by unfold Iw dy;simp
def da (x:Wy):List Wy->Nat
 | []=>0
 | y::Q=>if Iw y x=true then da x Q+1 else 0
def iF (x:Wy) (Q:List Wy):List Wy:=Q.take (da x Q)++x::Q.drop (da x Q)
theorem Au (x:Wy):∀ Q,da x Q<=Q.length
 | []=>Nat.le_refl _
 | y::Q=>by
   unfold da;split
   ·have:=Au x Q;simp;omega
   omega
theorem NI {x y:Wy} {Q:List Wy}:y∈iF x Q↔y=x\/y∈Q:=by
 unfold iF;constructor
 ·intro h;rcases List.mem_append.1 h with h|h
  ·exact .inr (List.mem_of_mem_take h)
  rcases List.mem_cons.1 h with h|h
  ·exact .inl h
  exact .inr (List.mem_of_mem_drop h)
 rintro (rfl|h)
 ·simp
 rw [<- List.take_append_drop (da x Q) Q] at h;rcases List.mem_append.1 h with h|h
 ·exact List.mem_append.2 (.inl h)
 exact List.mem_append.2 (.inr (List.mem_cons_of_mem _ h))
theorem wL (x:Wy) (Q:List Wy):(iF x Q).length=Q.length+1:=by have:=Au x Q;unfold iF;simp;omega
theorem Fm {x:Wy}:∀ {Q:List Wy} {j:Nat} {y:Wy},j<da x Q->Q[j]?=some y->dy y x
 | [],j,y,h,_=>by simp [da] at h
 | z::Q,j,y,h,hy=>by
   unfold da at h;split at h
   ·rename_i hz;cases j with
    | zero=>simp at hy;subst hy;exact NH.1 hz
    | succ j=>exact Fm (x:=x) (Q:=Q) (j:=j) (by omega) (by simpa using hy)
   omega
theorem NJ {x:Wy}:∀ {Q:List Wy} {y:Wy},Q[da x Q]?=some y->¬ dy y x
 | [],y,h=>by simp at h
 | z::Q,y,h=>by
   unfold da at h;split at h
   ·exact NJ (by simpa using h)
   rename_i hz;simp at h;subst h;exact fun e=>hz (NH.2 e)
theorem Fo {x:Wy} {Q:List Wy} (hs:Q.Pairwise dy) {j:Nat} {y:Wy} (hj:da x Q<=j) (hy:Q[j]?=some y):¬ dy y x:=by
 have gb:=(List.getElem?_eq_some_iff.1 hy).1;have h1:Q[da x Q]?=some Q[da x Q]:=List.getElem?_eq_getElem (by omega);have h2:=NJ h1;by_cases he:j=da x Q
 ·subst he;rw [h1] at hy;cases hy
  exact h2
 have h3:=List.pairwise_iff_getElem.1 hs (da x Q) j (by omega) gb (by omega);have h4:Q[j]=y:=(List.getElem?_eq_some_iff.1 hy).2;rw [h4] at h3;exact fun e=>h2 (h3.trans e)
theorem dy.NK {x y:Wy} (h:x.aR≠y.aR) (hn:¬ dy y x):dy x y:=by unfold dy at *;omega
theorem NL {x:Wy} {Q:List Wy} (hs:Q.Pairwise dy) (hn:∀ y∈Q,y.aR≠x.aR):(iF x Q).Pairwise dy:=by
 unfold iF;rw [List.pairwise_append];refine ⟨List.Pairwise.sublist (List.take_sublist _ _) hs,?_,?_⟩
 ·rw [List.pairwise_cons];refine ⟨fun y hy=>?_,List.Pairwise.sublist (List.drop_sublist _ _) hs⟩;obtain ⟨j,hj⟩:=List.mem_iff_getElem?.1 hy;rw [List.getElem?_drop] at hj;exact dy.NK (fun e=>hn y (List.mem_of_mem_drop hy) e.symm) (Fo hs (by omega) hj)
 intro a ha b hb;obtain ⟨i,hi⟩:=List.mem_iff_getElem?.1 ha;have jk:=(List.getElem?_eq_some_iff.1 hi).1;rw [List.length_take] at jk;rw [List.getElem?_take_of_lt (by omega)] at hi;have h1:=Fm (x:=x) (Q:=Q) (j:=i) (by omega) hi;rcases List.mem_cons.1 hb with rfl|hb
 ·exact h1
 obtain ⟨j,hj⟩:=List.mem_iff_getElem?.1 hb;rw [List.getElem?_drop] at hj;exact h1.trans (dy.NK (fun e=>hn b (List.mem_of_mem_drop hb) e.symm) (Fo hs (by omega) hj))
theorem nF.skip {cls:List (List Int)} {t:Nat} {Q:List Wy} {y:Wy} (h:nF cls t true Q) (hy:(aW cls)[t - 1]?=some y) {l:List Int} (hl:cls[y.aR]?=some l) (hn:l[y.aO+1]?=none):nF cls t false Q:=by
 have h2:=h.pos rfl;have ax:=wK hy;rw [show t - 1+1=t by omega] at ax;have Cm:=(mG hy).1;refine ⟨h.le,h.sorted,fun x=>?_,fun e=>by cases e⟩;rw [h.mem x];constructor
 ·rintro ⟨h3,h4⟩;exact ⟨h3,fun e=>by cases e⟩
 rintro ⟨h3,_⟩;refine ⟨h3,fun _ z hz=>?_⟩;rw [hy] at hz;cases hz
 intro e;obtain ⟨q1,m,q2,q3⟩:=h3;rw [ax] at q1;unfold up at q1;rw [if_pos e,<- Cm] at q1;rw [e,hl] at q2;cases q2
 rw [q1,hn] at q3;cases q3
theorem nF.push {cls:List (List Int)} {t:Nat} {Q:List Wy} {y:Wy} (h:nF cls t true Q) (hy:(aW cls)[t - 1]?=some y) {l:List Int} (hl:cls[y.aR]?=some l) {c:Int} (hn:l[y.aO+1]?=some c):nF cls t false (iF ⟨c,y.aR,y.aO+1⟩ Q):=by
 have h2:=h.pos rfl;have ax:=wK hy;rw [show t - 1+1=t by omega] at ax;have Cm:=(mG hy).1;have sN:∀ x∈Q,x.aR≠y.aR:=fun x hx=>((h.mem x).1 hx).2 rfl y hy;have Cn:ig cls (dz cls t) ⟨c,y.aR,y.aO+1⟩:=by refine ⟨?_,l,hl,hn⟩;rw [ax];unfold up;rw [if_pos rfl,<- Cm]
 refine ⟨h.le,NL h.sorted sN,fun x=>?_,fun e=>by cases e⟩;rw [NI,h.mem x];constructor
 ·rintro (rfl|⟨h3,_⟩)
  ·exact ⟨Cn,fun e=>by cases e⟩
  exact ⟨h3,fun e=>by cases e⟩
 rintro ⟨h3,_⟩;by_cases e:x.aR=y.aR
 ·exact .inl (ig.eq h3 Cn e)
 refine .inr ⟨h3,fun _ z hz=>?_⟩;rw [hy] at hz;cases hz
 exact e
def ub (cls:List (List Int)) (k:Nat) (Q:List Wy):Prop:=Q.Pairwise dy/\∀ x,x∈Q↔ig cls mF x/\x.aR<k
theorem Ix (cls:List (List Int)):ub cls 0 []:=⟨.nil,fun x=>by simp⟩
theorem Fp {cls:List (List Int)} {k:Nat} {Q:List Wy} (h:ub cls k Q) {l:List Int} (hl:cls[k]?=some l) (hn:l[0]?=none):ub cls (k+1) Q:=by
 refine ⟨h.1,fun x=>?_⟩;rw [h.2 x];constructor
 ·rintro ⟨h1,h2⟩;exact ⟨h1,by omega⟩
 rintro ⟨h1,h2⟩;refine ⟨h1,?_⟩;by_cases e:x.aR=k
 ·obtain ⟨q1,m,q2,q3⟩:=h1;rw [e,hl] at q2;cases q2
  rw [q1,show mF x.aR=0 from rfl,hn] at q3;cases q3
 omega
theorem Fq {cls:List (List Int)} {k:Nat} {Q:List Wy} (h:ub cls k Q) {l:List Int} (hl:cls[k]?=some l) {c:Int} (hn:l[0]?=some c):ub cls (k+1) (iF ⟨c,k,0⟩ Q):=by
 have Cn:ig cls mF ⟨c,k,0⟩:=⟨rfl,l,hl,hn⟩;refine ⟨NL h.1 (fun y hy=>?_),fun x=>?_⟩
 ·have:=((h.2 y).1 hy).2;show y.aR≠k;omega
 rw [NI,h.2 x];constructor
 ·rintro (rfl|⟨h1,h2⟩)
  ·exact ⟨Cn,Nat.lt_succ_self _⟩
  exact ⟨h1,by omega⟩
 rintro ⟨h1,h2⟩;by_cases e:x.aR=k
 ·exact .inl (ig.eq h1 Cn e)
 exact .inr ⟨h1,by omega⟩
theorem Iy {cls:List (List Int)} {Q:List Wy} (h:ub cls cls.length Q):nF cls 0 false Q:=by
 refine ⟨Nat.zero_le _,h.1,fun x=>?_,fun e=>by cases e⟩;rw [h.2 x];constructor
 ·rintro ⟨h1,_⟩;exact ⟨h1,fun e=>by cases e⟩
 rintro ⟨h1,_⟩;refine ⟨h1,?_⟩;obtain ⟨_,l,q,_⟩:=h1;exact (List.getElem?_eq_some_iff.1 q).1
end Go.Abs.Wall
namespace Go.Abs.Wall.Lst
open Go Go.Abs Go.Proofs Go.Abs.Wall
def al (w:Wy):List AV:=[.int .i64 w.cost,.int .i64 w.aR,.int .i64 w.aO]
def iW (x y:Wy):Int:=gV [ct x.cost y.cost,ct x.aR y.aR]
theorem nG {x y:Wy}:iW x y<0↔dy x y:=by
 unfold iW gV gV gV ct dy;repeat' split
 all_goals first|omega|(simp at *;omega)
def c112:av:=⟨[0,1,2,3,4],[],[],[],[(1,[0,1,2,3,4,5,6,7,8,9,10,11,12],[])],[]⟩
theorem kQ (x y:Wy):ab Tryz.prog 112 [.agg (al x),.agg (al y)] [] (.int .i64 (iW x y)):=by
 refine aA (F:=Tryz.f112) c112 rfl rfl rfl mixed rfl fun X=>?_;(conv=>whnf);repeat ((first|refine aY (Co _ _) ?_|refine aY (Fs [ct x.cost y.cost,ct x.aR y.aR] (by simp [aq])) ?_|refine And.intro (by show aJ (aH Tryz.f112 _) _=true;decide +kernel) ?_);conv=>whnf)
 exact ⟨rfl,rfl⟩
theorem oN {α:Type} {k:Nat} {enc:α->List AV} {P:Program} {t:TypeId} {b o i:Nat} {h:af} {pre:List AV} {L:List α} {x:α} {K:AV->Prop} (hk:∀ a,(enc a).length=k) (hm:(b,Ob.vec (pre++(L.map enc).flatten))∈h) (ho:o=pre.length+i*k) (hx:L[i]?=some x)
  (hl:gv P t (enc x++((L.drop (i+1)).map enc).flatten) K):∃ cs l,(b,Ob.vec cs)∈h/\iR o cs=some l/\gv P t l K:=by
 obtain ⟨hi,iU⟩:=List.getElem?_eq_some_iff.1 hx;refine ⟨_,_,hm,Cd ?_,?_⟩
 ·rw [List.length_append,nC hk,ho];have:=Nat.mul_le_mul_right k (show i<=L.length by omega);omega
 rw [ho,List.drop_append,List.drop_eq_nil_of_le (Nat.le_add_right _ _),List.nil_append,Nat.add_sub_cancel_left,yu hk,List.drop_eq_getElem_cons hi,iU,List.map_cons,List.flatten_cons];exact hl
def ij (x:Wy) (Q:List Wy):Bool:=match Q[da x Q]? with
 | none=>false
 | some y=>decide (iW y x=0)
theorem dA (w:Wy):(al w).length=3:=rfl
theorem nH {x:Wy} {Q:List Wy} (hs:Q.Pairwise dy) {j:Nat} {y:Wy} (hy:Q[j]?=some y):iW y x<0↔j<da x Q:=by
 rw [nG];constructor
 ·intro h;by_cases hj:j<da x Q
  ·exact hj
  exact absurd h (Fo hs (by omega) hy)
 intro h;exact Fm h hy
def c155:av:=⟨[0,1,2,4,6,7,8,9,10,11,17,31],[],[],[],[(5,[0,1,2,3,4,5,6,7],[]),(8,[0,1,2,3,4,5,6,7,8,9,10,11,12,13,14,15],[])],[]⟩
theorem aa.NM {b off k:Nat}:aa (.aQ b off 0 k) (.sl k none []):=by intro c u h;simp only [ae] at h ⊢;obtain ⟨p,cap,o',h1,h2,rfl,h3,h4,h5,h6,h7,h8⟩:=h;exact ⟨_,cap,rfl,by simp,by simp,h5,by simp,by simp,by simp [cj],by simp⟩
theorem lY (w:Wy):ab Tryz.prog 155 [.sl 3 none [],.agg (al w),.fn 112 []] [] (.aB [.int .i64 (da w []),.bool (ij w [])]):=by
 refine aA (F:=Tryz.f155) c155 rfl rfl rfl mixed rfl fun X=>?_;(conv=>whnf);refine yz 60 rfl mixed ?_;(conv=>whnf);refine .inr ?_;(conv=>whnf);refine cF rfl ?_;(conv=>whnf);repeat ((first|(refine ⟨0,[.int .i64 0,.int .i64 0,.int .i64 0],?_,?_⟩;(focus (conv=>whnf;skip));(focus (intro hq;exact absurd hq (by decide))))|(refine ⟨.int .i64 0,?_,?_⟩;(focus (conv=>whnf;skip));(focus (intro hq;exact absurd hq (by decide))))|refine And.intro (by show aJ (aH Tryz.f155 _) _=true;decide +kernel) ?_);conv=>whnf)
 exact ⟨rfl,rfl⟩
theorem nI (x:Wy) (Q:List Wy) (hs:Q.Pairwise dy) (b:Nat) (pre:List AV) (hl:Q.length<=4294967296) :
  ab Tryz.prog 155 [.aQ b pre.length Q.length 3,.agg (al x),.fn 112 []] [(b,.vec (pre++(Q.map al).flatten))] (.aB [.int .i64 (da x Q),.bool (ij x Q)]):=by
 have UI:=Au x Q;by_cases aM:0<Q.length
 rotate_left
 ·have hq:Q=[]:=List.eq_nil_of_length_eq_zero (by omega);subst hq;exact ab.args (ab.wide (lY x) _) (.cons aa.NM (.cons (aa.refl _) (.cons (aa.refl _) .nil)))
 refine aA (F:=Tryz.f155) c155 rfl rfl rfl mixed rfl fun X=>?_;(conv=>whnf);skip;refine bS rfl mixed [0,2,4,8,9,10] [] (fun m r h=>∃ (i j:Nat),r=[(0,[],.aQ b pre.length Q.length 3),(2,[],.fn 112 []),(4,[],.ai (al x)),(8,[],.int .i64 Q.length),(9,[],.int .i64 i),(10,[],.int .i64 j)]/\h=[(b,.vec (pre++(Q.map al).flatten))]/\m=j - i/\i<=da x Q/\da x Q<=j/\j<=Q.length) ?_ ?_
 ·(conv=>whnf);exact ⟨_,0,Q.length,rfl,rfl,rfl,by omega,by omega,by omega⟩
 rintro m r h ⟨i,j,rfl,rfl,rfl,hi,hj,gb⟩;(conv=>whnf);refine ⟨fun hz=>?_,fun hz=>?_⟩<;>simp at hz
 ·have Iz:((i:Int)+(j:Int)) / 2=(((i+j) / 2:Nat):Int):=(by omega);obtain ⟨y,hy⟩:=aF (l:=Q) (i:=(i+j) / 2) (by omega);have fL:=nH (x:=x) hs hy;have hw:IntKind.u64.wrap ((i:Int)+(j:Int))=(i:Int)+(j:Int):=by simp [IntKind.wrap,IntKind.signed,IntKind.bits];omega
  (conv=>whnf);repeat (refine ⟨ag ⟨by omega,by omega⟩,?_⟩;conv=>whnf)
  rw [hw];refine ⟨ag ⟨⟨rfl,rfl⟩,by omega,by omega⟩,?_⟩;rw [Iz];(conv=>whnf);repeat ((first|refine ⟨ag ⟨by omega,by omega⟩,?_⟩|(refine ⟨(i+j) / 2,ag ⟨rfl,by omega⟩,?_⟩)|(refine oN dA (.head _) rfl hy ?_)|refine aY (kQ y x) ?_|refine And.intro (by show aJ (aH Tryz.f155 _) _=true;decide +kernel) ?_);conv=>whnf)
  refine ⟨fun hc=>?_,fun hc=>?_⟩<;>simp at hc
  ·(conv=>whnf);repeat (refine ⟨ag ⟨by omega,by omega⟩,?_⟩;conv=>whnf)
   exact ⟨_,by omega,(i+j) / 2+1,j,rfl,rfl,rfl,by have:=fL.1 hc;omega,hj,gb⟩
  (conv=>whnf);skip;exact ⟨_,by omega,i,(i+j) / 2,rfl,rfl,rfl,hi,by have:=mt fL.2 (by omega);omega,by omega⟩
 have bw:i=da x Q:=(by omega);subst bw;by_cases aP:da x Q<Q.length
 ·obtain ⟨y,hy⟩:=aF (l:=Q) (i:=da x Q) aP;(conv=>whnf);repeat ((first|(refine ⟨da x Q,ag ⟨rfl,by omega⟩,?_⟩)|(refine oN dA (.head _) rfl hy ?_)|refine aY (kQ y x) ?_|refine And.intro (by show aJ (aH Tryz.f155 _) _=true;decide +kernel) ?_);conv=>whnf)
  refine ⟨?_,rfl⟩;unfold ij;rw [hy];simp [aP]
 have hn:Q[da x Q]?=none:=List.getElem?_eq_none (by omega);obtain ⟨y,hy⟩:=aF (l:=Q) (i:=0) aM;have IA:decide (((da x Q:Nat):Int)<(Q.length:Int))=false:=by simp;omega
 (conv=>whnf);repeat (refine And.intro (by show aJ (aH Tryz.f155 _) _=true;decide +kernel) ?_;conv=>whnf)
 rw [IA];repeat ((first|(refine ⟨0,(fun hq=>by cases hq),?_⟩)|(refine oN (i:=0) dA (.head _) rfl hy ?_)|refine aY (kQ y x) ?_);conv=>whnf)
 refine ⟨?_,rfl⟩;unfold ij;rw [hn];rfl
theorem NN {P:Program} {f:FuncId} {fn:Func} {tS tR e:TypeId} {vb b vo o n m c k k2:Nat} {UJ eH:List AV} {h:af} {K:AV->af->Prop} (hf:P.funcs[f]?=some fn) (Cp:(fn.name == "runtime.NumGoroutine")=false)
  (hb:fn.body.isNone=true) (hn:Extern.findNext fn=none) (he:Extern.find fn=some (Extern.SlicesOverlaps.overlaps #[tS,tS] #[tR])) (ht:P.underlying tS=some (.slice e)) (hz:P.info? e≠none)
  (h1:(vb,Ob.vec UJ)∈h) (h2:(b,Ob.vec eH)∈h) (aM:vb≠b) (hc:0<eH.length) (gO:0<n) (hK:K (.bool false) h) :
  aw P f [.aQ vb vo n k,.eO b o m c k2] h K:=by
 refine ⟨fun X g w us cQ hr=>.inr ?_⟩;simp only [au] at hr;obtain ⟨u1,r1,hu,sO,u2,r2,mB,ik,UK⟩:=hr;subst mB UK;obtain ⟨p1,NO,a1,a2,rfl,a3,a4,a5,a6,_⟩:=sO.BF gO;rw [ae] at ik;obtain ⟨p2,b1,b2,rfl,b3,b4,b5,b6,b7⟩:=ik;obtain ⟨q1,Ag,t1,c1,c2,c3,c4,c5,c6⟩:=cQ.obj vb _ h1;obtain ⟨q2,sw,t2,d1,d2,d3,d4,d5,d6⟩:=cQ.obj b _ h2;simp only at a1 b1 c1 c3 c4 d1 d3 d4;rw [c1] at a1;cases a1
 rw [d1] at b1;cases b1
 have iG:p1.block≠p2.block:=by
  intro e;rw [e,d3] at c3;cases c3
  exact aM rfl
 have bd:us=#[.slice (some ⟨p1.block,p1.off+vo,none⟩) n NO,.slice (some ⟨p2.block,p2.off+o,none⟩) m c]:=by rw [<- Array.toList_inj];exact hu
 subst bd;obtain ⟨i,hi⟩:=Option.ne_none_iff_exists'.1 hz
 have bu:=Go.Lib.run_overlaps_apart (P:=P) w tS tR e ht i.size (fun w=>by simp [Go.sizeOf,typeInfo,hi]) ⟨p1.block,p1.off+vo,none⟩ ⟨p2.block,p2.off+o,none⟩ n NO m c iG t1 t2 Ag.size sw.size
  (by simp [World.shape?,c4]) (by simp [World.shape?,d4]) (by omega) (frozen_of_row w p1.block _ Ag t1 c4) (frozen_of_row w p1.block _ Ag t1 c4)
 refine ⟨.bool false,w,?_,.bool false,.bool false,g,h,rfl,hK,cQ,by rw [ae],Step.refl _ _ _ _⟩;rw [run_callFunc_extern hf Cp hb hn he,bu];rfl
theorem aa.eO {b off n c k:Nat}:aa (.eO b off n c k) (.aQ b off n k):=by intro v u h;simp only [ae] at h ⊢;obtain ⟨p,h1,h2,h3,h4,h5,h6,h7,h8⟩:=h;exact ⟨p,c,off,h1,h2,h3,h4,h5,h6,h7,fun _=>rfl,h8⟩
theorem aw.NP {P:Program} {f:FuncId} {b off len k:Nat} {vs:List AV} {h:af} {R:AV->af->Prop} (hc:∀ Av c,(0<c->Av=off)->len<=c->aw P f (.eO b Av len c k::vs) h R):aw P f (.aQ b off len k::vs) h R:=by refine ⟨fun X g w us dH hr=>?_⟩;simp only [au] at hr;obtain ⟨u,r,hu,hx,hr⟩:=hr;simp only [ae] at hx;obtain ⟨p,cap,o',h1,h2,h3,h4,h5,h6,h7,h8,h9⟩:=hx;refine (hc o' cap h8 h4).1 X g w us dH ?_;simp only [au];exact ⟨u,r,hu,by simp only [ae];exact ⟨p,h1,h2,h3,h4,h5,h6,h7,h9⟩,hr⟩
def c156:av:=⟨[0,1,2,6,7,8,9,16,22,31,68],[],[],[],[(11,[0,1,2,3,4,5,6,7,8],[]),(15,[0,1,2,3,4,5,6,7,8],[])],[]⟩
theorem nJ (x:Wy) (vb:Nat):aw Tryz.prog 156 [.aS,.int .i64 0,.aQ vb 0 1 3] [(vb,.vec (al x))] (fun v h'=>∃ q,v=.aQ q 0 1 3/\h'=[(q,.vec (al x)),(vb,.vec (al x))]):=by
 refine aA (F:=Tryz.f156) c156 rfl rfl rfl mixed rfl fun X=>?_;(conv=>whnf);repeat (refine ⟨ag ⟨by omega,by omega⟩,?_⟩;conv=>whnf)
 refine cF rfl ?_;(conv=>whnf);skip;refine cT rfl ?_;(conv=>whnf);repeat ((refine ⟨_,[al x],.head _,⟨rfl,by simp [al],rfl⟩,⟨Nat.le_of_ble_eq_true rfl,Nat.le_of_ble_eq_true rfl⟩,fun q=>?_⟩);conv=>whnf)
 exact ⟨q,rfl,rfl⟩
theorem IB {A B X:List AV}:dn (A++B) A.length X=A++(X++B.drop X.length):=by unfold dn;rw [List.take_left,List.append_assoc,<- List.drop_drop,List.drop_left]
theorem NQ {A B X D:List AV} {n m:Nat} (hn:n=A.length) (hm:m=A.length+X.length) (hb:B.length=X.length+D.length):dn (dn (A++B) n X) m D=A++(X++D):=by subst hn;rw [IB,<- List.append_assoc,show m=(A++X).length by rw [List.length_append];omega,IB,List.drop_drop,List.drop_eq_nil_of_le (by omega),List.append_nil,List.append_assoc]
theorem NR {A X D:List AV} {n m:Nat} (hn:n=A.length) (hm:m=A.length+X.length) (hb:X.length<=D.length):dn (dn (A++D) m D) n X=A++(X++D):=by
 subst hn hm;have h1:dn (A++D) (A.length+X.length) D=A++(D.take X.length++D):=by unfold dn;rw [List.drop_eq_nil_of_le (by rw [List.length_append];omega),List.append_nil,List.take_append,List.take_of_length_le (by omega),Nat.add_sub_cancel_left,List.append_assoc]
 rw [h1,IB];congr 2;rw [List.drop_append,List.drop_eq_nil_of_le (by rw [List.length_take];omega),List.nil_append,List.length_take];have:X.length - min X.length D.length=0:=(by omega);rw [this];rfl
theorem nK:Extern.find Tryz.f194=some (Extern.SlicesOverlaps.overlaps #[227,227] #[4]):=by kernel_rfl
def nL (x:Wy) (Q:List Wy) (i vb:Nat) (v:AV) (h':af):Prop:=∃ b' fB,aa v (.aQ b' fB.length (Q.length+1) 3)/\∃ h2,h'.Perm ((b',.vec (fB++((Q.take i++x::Q.drop i).map al).flatten))::h2)
theorem nM (x:Wy) (Q:List Wy) (i:Nat) (hi:i<=Q.length) (b vb off c:Nat) (pre cs:List AV) (bT:cs=pre++(Q.map al).flatten) (ho:0<c->off=pre.length) (hc:Q.length<=c) (hl:Q.length<=65536) (aM:vb≠b) :
  aw Tryz.prog 156 [.eO b off Q.length c 3,.int .i64 i,.aQ vb 0 1 3] [(b,.vec cs),(vb,.vec (al x))] (nL x Q i vb):=by
 have bq:cs.length=pre.length+Q.length*3:=(by rw [bT,List.length_append,nC dA]);refine aA (F:=Tryz.f156) c156 rfl rfl rfl mixed rfl fun X=>?_;(conv=>whnf);repeat (refine ⟨ag ⟨by omega,by omega⟩,?_⟩;conv=>whnf)
 refine cF rfl ?_;(conv=>whnf);skip;refine ⟨fun he=>?_,fun he=>?_⟩<;>simp at he
 ·have he:i=Q.length:=(by omega);subst he;have cY:((Q.take Q.length++x::Q.drop Q.length).map al).flatten=(Q.map al).flatten++[al x].flatten:=by rw [List.take_length,List.drop_length,List.map_append,List.flatten_append];rfl
  by_cases jI:Q.length+1<=c
  ·have:=ho (by omega);subst this;(conv=>whnf);repeat ((refine ⟨_,[al x],.tail _ (.head _),⟨rfl,by simp [al],rfl⟩,by unfold aN;omega,cs,.head _,.inl ⟨jI,bq,_,.here _,?_⟩⟩);conv=>whnf)
   refine ⟨b,pre,aa.eO,[(vb,.vec (al x))],?_⟩;rw [bT,cY,<- List.append_assoc]
  have Cq:Q.length=0\/off+Q.length*3<=cs.length:=by
   by_cases h0:Q.length=0
   ·exact .inl h0
   have:=ho (by omega);exact .inr (by omega)
  have cd:(cs.drop off).take (Q.length*3)=(Q.map al).flatten:=by
   by_cases h0:Q.length=0
   ·have:Q=[]:=List.eq_nil_of_length_eq_zero h0;subst this;simp
   have:=ho (by omega);rw [bT,this,List.drop_left,List.take_of_length_le (by rw [nC dA];exact Nat.le_refl _)]
  (conv=>whnf);repeat ((refine ⟨_,[al x],.tail _ (.head _),⟨rfl,by simp [al],rfl⟩,by unfold aN;omega,cs,.head _,.inr ⟨by omega,Cq,fun q=>?_⟩⟩);conv=>whnf)
  refine ⟨q,[],aa.refl _,[(b,.vec cs),(vb,.vec (al x))],?_⟩;rw [cd,cY];exact .refl _
 have cH:i<Q.length:=(by omega);have sG:=ho (by omega);subst sG;have z1:(i:Int).toNat - Int.toNat 0=i:=(by simp);have z2:c - Int.toNat 0=c:=(by simp);have z3:pn pre.length (Int.toNat 0) c 3=pre.length:=by unfold pn;split<;>simp
 have z4:(Q.length:Int)+((1:Nat):Int) - (i:Int)=((Q.length+1 - i:Nat):Int):=(by omega);have z5:pn pre.length (i:Int).toNat c 3=pre.length+i*3:=by unfold pn;rw [if_neg (by simp;omega)];simp
 have Cr:cs.drop pre.length=(Q.map al).flatten:=(by rw [bT,List.drop_left]);have Cs:cs.drop (pre.length+i*3)=((Q.drop i).map al).flatten:=(by rw [bT,List.drop_append,List.drop_eq_nil_of_le (by omega),List.nil_append,Nat.add_sub_cancel_left,yu dA]);(conv=>whnf);repeat (refine ⟨ag ⟨by omega,by omega⟩,?_⟩;conv=>whnf)
 refine ⟨fun hz=>?_,fun hz=>?_⟩<;>simp at hz
 ·(conv=>whnf);repeat (refine ⟨ag ⟨by omega,by omega⟩,?_⟩;conv=>whnf)
  rw [z1,z2,z3,z4];refine ⟨cs,.head _,⟨by omega,by omega,by omega,by omega⟩,fun q=>?_⟩;rw [Cr,Ft dA,Int.toNat_natCast,show i+(Q.length+1 - i)=Q.length+1 by omega];(conv=>whnf);repeat (refine ⟨ag ⟨by omega,by omega⟩,?_⟩;conv=>whnf)
  have m1:min 1 (((Q.length+1:Nat):Int).toNat - (i:Int).toNat)=1:=by rw [Int.toNat_natCast,Int.toNat_natCast];omega
  have m2:0+(i:Int).toNat*3=i*3:=(by simp);have fH:((Q.take i).map al).flatten.length=i*3:=by rw [nC dA,List.length_take];omega
  have qz:((Q.drop i).map al).flatten.length=(Q.length - i)*3:=(by rw [nC dA,List.length_drop]);have nN:(gS (Q.length+1 - i) [AV.int .i64 0,AV.int .i64 0,AV.int .i64 0]).length=(Q.length+1 - i)*3:=by unfold gS;simp
  rw [m1,m2];refine ⟨_,[al x],.tail _ (.tail _ (.head _)),⟨rfl,by simp [al],rfl⟩,_,_,.here _,⟨by omega,?_⟩,?_⟩
  ·rw [List.length_append,fH,nN];show i*3+3<=_;omega
  (conv=>whnf);repeat ((first|refine ⟨ag ⟨by omega,by omega⟩,?_⟩|refine And.intro (by show aJ (aH Tryz.f156 _) _=true;decide +kernel) ?_);conv=>whnf)
  have m3:min ((Q.length:Int).toNat - (i:Int).toNat) (((Q.length+1:Nat):Int).toNat - ((i:Int)+((1:Nat):Int)).toNat)=Q.length - i:=by rw [show (i:Int)+((1:Nat):Int)=((i+1:Nat):Int) by omega];simp only [Int.toNat_natCast];omega
  have m4:0+((i:Int)+((1:Nat):Int)).toNat*3=(i+1)*3:=(by rw [show (i:Int)+((1:Nat):Int)=((i+1:Nat):Int) by omega,Int.toNat_natCast,Nat.zero_add]);rw [m3,m4,z5];have IC:=NQ (A:=((Q.take i).map al).flatten) (B:=gS (Q.length+1 - i) [AV.int .i64 0,AV.int .i64 0,AV.int .i64 0]) (X:=al x) (D:=((Q.drop i).map al).flatten) (n:=i*3) (m:=(i+1)*3) fH.symm (by rw [fH];show _=i*3+3;omega) (by rw [nN,qz];show _=3+_;omega);refine ⟨cs,(Q.drop i).map al,.tail _ (.head _),⟨?_,?_,by simp⟩,_,_,.here _,⟨by omega,?_⟩,?_⟩
  ·rw [Cs,List.take_of_length_le (by rw [qz];exact Nat.le_refl _)]
  ·intro z hz;obtain ⟨w,_,rfl⟩:=List.mem_map.1 hz;rfl
  ·have h1:(dn (((Q.take i).map al).flatten++gS (Q.length+1 - i) [AV.int .i64 0,AV.int .i64 0,AV.int .i64 0]) (i*3) [al x].flatten).length=(Q.length+1)*3:=by
    rw [ID _ _ _ (by rw [List.length_append,fH,nN];show i*3+3<=_;omega),List.length_append,fH,nN];omega
   rw [h1,qz];omega
  (conv=>whnf);skip;refine ⟨q,[],aa.refl _,[(b,.vec cs),(vb,.vec (al x))],?_⟩;rw [show [al x].flatten=al x from by simp,IC,List.map_append,List.flatten_append];exact .refl _
 (conv=>whnf);repeat (refine ⟨ag ⟨by omega,by omega⟩,?_⟩;conv=>whnf)
 rw [z2,z3];have z7:pn pre.length ((i:Int)+((1:Nat):Int)).toNat c 3=pre.length+(i+1)*3:=by rw [show (i:Int)+((1:Nat):Int)=((i+1:Nat):Int) by omega,Int.toNat_natCast];unfold pn;rw [if_neg (by omega)]
 have z9:((Q.length:Int)+((1:Nat):Int)).toNat - Int.toNat 0=Q.length+1:=by rw [show (Q.length:Int)+((1:Nat):Int)=((Q.length+1:Nat):Int) by omega];simp
 have z8:(((Q.length+1:Nat):Int)).toNat - ((i:Int)+((1:Nat):Int)).toNat=Q.length - i:=by rw [show (i:Int)+((1:Nat):Int)=((i+1:Nat):Int) by omega,Int.toNat_natCast,Int.toNat_natCast];omega
 rw [z7,z9,z8];refine NN (fn:=Tryz.f194) rfl rfl rfl (by kernel_rfl) nK rfl (by decide) (.tail _ (.head _)) (.head _) aM (by omega) (by omega) ?_;(conv=>whnf);skip;refine cT rfl ?_;(conv=>whnf);repeat ((first|refine ⟨ag ⟨by omega,by omega⟩,?_⟩|refine And.intro (by show aJ (aH Tryz.f156 _) _=true;decide +kernel) ?_);conv=>whnf)
 have fH:((Q.take i).map al).flatten.length=i*3:=by rw [nC dA,List.length_take];omega
 have qz:((Q.drop i).map al).flatten.length=(Q.length - i)*3:=(by rw [nC dA,List.length_drop]);have m3:min (((Q.length+1:Nat):Int).toNat - (i:Int).toNat) (((Q.length+1:Nat):Int).toNat - ((i:Int)+((1:Nat):Int)).toNat)=Q.length - i:=by rw [show (i:Int)+((1:Nat):Int)=((i+1:Nat):Int) by omega];simp only [Int.toNat_natCast];omega
 have IE:cs=(pre++((Q.take i).map al).flatten)++((Q.drop i).map al).flatten:=(by rw [bT,List.append_assoc,<- List.flatten_append,<- List.map_append,List.take_append_drop]);have il:(pre++((Q.take i).map al).flatten).length=pre.length+i*3:=(by rw [List.length_append,fH]);have yF:=NR (A:=pre++((Q.take i).map al).flatten) (X:=al x) (D:=((Q.drop i).map al).flatten) (n:=pre.length+i*3) (m:=pre.length+(i+1)*3) il.symm (by rw [il];show _=_+3;omega) (by rw [qz];show 3<=_;omega);rw [<- IE] at yF;rw [m3,z5,z7];refine ⟨cs,(Q.drop i).map al,.head _,⟨?_,?_,by simp⟩,_,_,.here _,⟨by omega,by omega⟩,?_⟩
 ·rw [Cs,List.take_of_length_le (by rw [qz];exact Nat.le_refl _)]
 ·intro z hz;obtain ⟨w,_,rfl⟩:=List.mem_map.1 hz;rfl
 (conv=>whnf);repeat (refine ⟨ag ⟨by omega,by omega⟩,?_⟩;conv=>whnf)
 have m1:min 1 (((Q.length+1:Nat):Int).toNat - (i:Int).toNat)=1:=by rw [Int.toNat_natCast,Int.toNat_natCast];omega
 rw [m1,z5];refine ⟨_,[al x],.tail _ (.head _),⟨rfl,by simp [al],rfl⟩,_,_,.here _,⟨by omega,?_⟩,?_⟩
 ·unfold dn;simp only [List.length_append,List.length_take,List.length_drop];omega
 (conv=>whnf);skip;refine ⟨b,pre,aa.eO,[(vb,.vec (al x))],?_⟩;rw [show [al x].flatten=al x from by simp,yF,show pre++((Q.take i++x::Q.drop i).map al).flatten=(pre++((Q.take i).map al).flatten)++(al x++((Q.drop i).map al).flatten) from by simp [List.append_assoc]]
theorem aw.re {f:FuncId} {vs:List AV} {h h2 H:af} {R R':AV->af->Prop} (hf:aw Tryz.prog f vs h R) (hp:(h++h2).Perm H)
  (hr:∀ v h1,R v h1->∃ H',(h1++h2).Perm H'/\R' v H'):aw Tryz.prog f vs H R':=by
 refine aw.post (aw.perm (aw.frame hf h2) hp) ?_;rintro v h3 ⟨h1,hR,rfl⟩;obtain ⟨H',aX,IF⟩:=hr v h1 hR;exact ⟨v,H',IF,aa.refl _,fun k o hm=>aX.mem_iff.2 hm,fun hn=>by unfold keys at hn ⊢;exact ((aX.map _).nodup_iff).1 hn⟩
def fj (Q:List Wy) (ov:AV) (oh:af):Prop:=(Q=[]/\ov=.aS/\oh=[])\/∃ b pre,ov=.aQ b pre.length Q.length 3/\oh=[(b,.vec (pre++(Q.map al).flatten))]
theorem nO (x:Wy) (Q:List Wy) (b vb:Nat) (pre:List AV) (hl:Q.length<=65536) :
  aw Tryz.prog 156 [.aQ b pre.length Q.length 3,.int .i64 (da x Q),.aQ vb 0 1 3] [(b,.vec (pre++(Q.map al).flatten)),(vb,.vec (al x))]
   (fun v h'=>∃ b' fB,v=.aQ b' fB.length (Q.length+1) 3/\h'=[(b',.vec (fB++((iF x Q).map al).flatten))]):=by
 by_cases aM:vb=b
 ·subst aM;refine ⟨fun X g w us hc hr=>?_⟩;have:=hc.nodup;simp [keys] at this
 refine aw.post (aw.NP fun Av c ho hc=>nM x Q (da x Q) (Au x Q) b vb Av c pre _ rfl ho hc hl aM) ?_;rintro v h1 ⟨b',fB,hv,h2,hp⟩;refine ⟨_,_,⟨b',fB,rfl,rfl⟩,hv,fun k o hm=>hp.mem_iff.2 (by cases List.mem_singleton.1 hm;exact List.mem_cons_self),fun _=>by simp [keys]⟩
def cm (fv ov:AV) (due:Bool):List AV:=[fv,ov,.fn 112 [],.bool due]
def c113:av:=⟨[0,1,3,4],[26],[],[],[(1,[0,1,2,3,4,5,6,7,8,9,10,11,12,13,14],[]),(2,[0,1,2,3,4,5,6,7,8,9,10,11],[])],[26,27]⟩
theorem nP (x:Wy) (Q:List Wy) (hs:Q.Pairwise dy) (nk:Nat) (fv:AV) (due:Bool) (ov:AV) (oh:af) (ho:fj Q ov oh) (hl:Q.length<=65536) :
  aw Tryz.prog 113 [.ba nk 1,.agg (al x)] ((nk,.vec (cm fv ov due))::oh)
   (fun v h'=>v=.aB []/\∃ iH iI,fj (iF x Q) iH iI/\h'=(nk,.vec (cm fv iH due))::iI):=by
 have jk:=wL x Q;refine aw.post (R:=fun v h'=>v=.aB []/\∃ iH iI g,fj (iF x Q) iH iI/\h'.Perm ((nk,.vec (cm fv iH due))::(iI++g))) ?_ ?_
 ·rcases ho with ⟨rfl,rfl,rfl⟩|⟨b,pre,rfl,rfl⟩
  ·have mH:ab Tryz.prog 155 [.aS,.agg (al x),.fn 112 []] [] (.aB [.int .i64 (da x []),.bool (ij x [])]):=
    ab.args (lY x) (.cons (aa.nil (by decide)) (cu.refl _))
   refine aA (F:=Tryz.f113) c113 rfl rfl rfl mixed rfl fun X=>?_;(conv=>whnf);repeat ((first|refine aY (mH) ?_|refine ⟨_,_,.head _,rfl,?_⟩|refine And.intro (by show aJ (aH Tryz.f113 _) _=true;decide +kernel) ?_|intro (nb:Nat));conv=>whnf)
   refine aw.mono ?_ (aw.frame (nJ x nb) _);rintro v h1 ⟨h2,⟨q,rfl,rfl⟩,rfl⟩;(conv=>whnf);repeat ((refine ⟨_,_,.there (.there (.here _)),aI,?_⟩);conv=>whnf)
   exact ⟨rfl,.aQ q 0 1 3,[(q,.vec (al x))],[(nb,.vec (al x))],.inr ⟨q,[],rfl,rfl⟩,List.perm_append_comm (l₁:=[(q,_),(nb,_)]) (l₂:=[(nk,_)])⟩
  have mH:ab Tryz.prog 155 [.aQ b pre.length Q.length 3,.agg (al x),.fn 112 []] [(nk,.vec (cm fv (.aQ b pre.length Q.length 3) due)),(b,.vec (pre++(Q.map al).flatten))] (.aB [.int .i64 (da x Q),.bool (ij x Q)]):=
   ab.perm (h2:=[(nk,.vec (cm fv (.aQ b pre.length Q.length 3) due))]) (nI x Q hs b pre (by omega)) (List.perm_append_comm (l₁:=[_]) (l₂:=[_]))
  refine aA (F:=Tryz.f113) c113 rfl rfl rfl mixed rfl fun X=>?_;(conv=>whnf);repeat ((first|(refine Fu mH ?_)|refine ⟨_,_,.head _,rfl,?_⟩|refine And.intro (by show aJ (aH Tryz.f113 _) _=true;decide +kernel) ?_|intro (nb:Nat));conv=>whnf)
  refine aw.mono (R:=fun v h1=>∃ b' fB g,v=.aQ b' fB.length (Q.length+1) 3/\h1=(b',.vec (fB++((iF x Q).map al).flatten))::(nk,.vec (cm fv (.aQ b pre.length Q.length 3) due))::g) ?_ (aw.re (nO x Q b nb pre hl) (h2:=[(nk,.vec (cm fv (.aQ b pre.length Q.length 3) due))]) ?_ ?_)
  ·rintro v h1 ⟨b',fB,g,rfl,rfl⟩;(conv=>whnf);repeat ((refine ⟨_,_,.there (.here _),aI,?_⟩);conv=>whnf)
   exact ⟨rfl,.aQ b' fB.length (Q.length+1) 3,[(b',.vec (fB++((iF x Q).map al).flatten))],g,.inr ⟨b',fB,by rw [jk],rfl⟩,List.Perm.swap _ _ _⟩
  ·exact (List.Perm.swap _ _ _).trans (List.Perm.cons _ (List.Perm.swap _ _ _))
  rintro v h1 ⟨b',fB,rfl,rfl⟩;exact ⟨_,.refl _,b',fB,[],rfl,rfl⟩
 rintro v h1 ⟨rfl,iH,iI,g,bF,hp⟩;refine ⟨_,_,⟨rfl,iH,iI,bF,rfl⟩,aa.refl _,fun k o hm=>hp.mem_iff.2 ?_,fun hn=>?_⟩
 ·rcases List.mem_cons.1 hm with h|h
  ·rw [h];exact List.mem_cons_self
  exact List.mem_cons_of_mem _ (List.mem_append_left _ h)
 have h1:=((hp.map (fun p:Nat × Ob=>p.1)).nodup_iff).1 hn;unfold keys;simp only [List.map_cons,List.map_append,List.nodup_cons,List.mem_append,not_or,List.nodup_append] at h1 ⊢;exact ⟨h1.1.1,h1.2.1⟩
end Go.Abs.Wall.Lst
