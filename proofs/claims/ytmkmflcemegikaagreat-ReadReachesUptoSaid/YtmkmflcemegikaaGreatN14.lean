/- What is proved: small laws for the walks of this seat, and contracts of its functions. No condition but those each theorem names. -/
import Derived.Test.YtmkmflcemegikaaGreatN13
import Derived.Test.YtmkmflcemegikaaGreatN1
import Derived.Test.YtmkmflcemegikaaGreatN8
import Derived.Test.YtmkmflcemegikaaGreatN7
import Derived.Lib.Overlaps
set_option maxRecDepth 100000
set_option maxHeartbeats 2000000
set_option linter.unusedVariables false
set_option linter.unusedSimpArgs false
namespace Go.Abs.Wall
open Go Go.Abs Go.Proofs
end Go.Abs.Wall
namespace Go.Abs.Wall
structure Wy where
 cost:Int
 edge:Nat
 rank:Nat
def wlt (x y:Wy):Prop:=x.cost<y.cost∨(x.cost=y.cost∧x.edge<y.edge)
theorem wlt.irr {x:Wy}:¬ wlt x x:=by unfold wlt;omega
theorem wlt.trans {x y z:Wy} (h1:wlt x y) (h2:wlt y z):wlt x z:=by unfold wlt at *;omega
theorem wlt.anti {x y:Wy} (h1:wlt x y) (h2:wlt y x):False:=wlt.irr (h1.trans h2)
def Cand (cls:List (List Int)) (rs:Nat→Nat) (x:Wy):Prop:=x.rank=rs x.edge∧∃ l,cls[x.edge]?=some l∧l[x.rank]?=some x.cost
theorem Cand.eq {cls:List (List Int)} {rs:Nat→Nat} {x y:Wy} (h1:Cand cls rs x) (h2:Cand cls rs y) (h:x.edge=y.edge):x=y:=by
 obtain ⟨a1,l,a2,a3⟩:=h1
 obtain ⟨b1,m,b2,b3⟩:=h2
 obtain ⟨c,e,r⟩:=x
 obtain ⟨c',e',r'⟩:=y
 simp only at h a1 a2 a3 b1 b2 b3
 subst h
 subst a1 b1
 rw [a2] at b2;cases b2
 rw [a3] at b3;cases b3
 rfl
def bestGo (rs:Nat→Nat):List (List Int)→Nat→Option Wy
 | [],_=>none
 | l::ls,k=>match l[rs k]? with
   | none=>bestGo rs ls (k+1)
   | some c=>match bestGo rs ls (k+1) with
     | none=>some ⟨c,k,rs k⟩
     | some y=>if c≤y.cost then some ⟨c,k,rs k⟩ else some y
theorem bestGo_none {rs:Nat→Nat}:∀ {ls:List (List Int)} {k:Nat},bestGo rs ls k=none→∀ (j:Nat) l,ls[j]?=some l→l[rs (k+j)]?=none
 | [],k,h,j,l,hj=>by simp at hj
 | l0::ls,k,h,j,l,hj=>by
   unfold bestGo at h
   cases hc:l0[rs k]? with
   | none=>
     simp only [hc] at h
     cases j with
     | zero=>simp at hj;subst hj;exact hc
     | succ j=>
       have:=bestGo_none h j l (by simpa using hj)
       rwa [show k+1+j=k+(j+1) by omega] at this
   | some c=>
     simp only [hc] at h
     cases hb:bestGo rs ls (k+1) with
     | none=>simp [hb] at h
     | some y=>simp only [hb] at h;split at h<;>cases h
theorem bestGo_some {rs:Nat→Nat}:∀ {ls:List (List Int)} {k:Nat} {x:Wy},bestGo rs ls k=some x →
  k≤x.edge∧x.rank=rs x.edge∧(∃ l,ls[x.edge - k]?=some l∧l[x.rank]?=some x.cost)∧∀ (j:Nat) l c,ls[j]?=some l→l[rs (k+j)]?=some c→k+j=x.edge∨x.cost<c∨(x.cost=c∧x.edge<k+j)
 | [],k,x,h=>by simp [bestGo] at h
 | l0::ls,k,x,h=>by
   unfold bestGo at h
   cases hc:l0[rs k]? with
   | none=>
     simp only [hc] at h
     obtain ⟨a1,a2,⟨l,a3,a4⟩,a5⟩:=bestGo_some h
     refine ⟨by omega,a2,⟨l,?_,a4⟩,fun j l c hj hl=>?_⟩
     ·rw [show x.edge - k=(x.edge - (k+1))+1 by omega];simpa using a3
     ·cases j with
      | zero=>simp at hj;subst hj;rw [Nat.add_zero,hc] at hl;cases hl
      | succ j=>
        have:=a5 j l c (by simpa using hj) (by rwa [show k+1+j=k+(j+1) by omega])
        rw [show k+1+j=k+(j+1) by omega] at this
        exact this
   | some c0=>
     simp only [hc] at h
     have own:∀ (y:Wy),y=⟨c0,k,rs k⟩→k≤y.edge∧y.rank=rs y.edge∧(∃ l,(l0::ls)[y.edge - k]?=some l∧l[y.rank]?=some y.cost):=by
      rintro y rfl
      exact ⟨Nat.le_refl _,rfl,l0,by simp,hc⟩
     cases hb:bestGo rs ls (k+1) with
     | none=>
       simp only [hb] at h
       cases h
       obtain ⟨o1,o2,o3⟩:=own _ rfl
       refine ⟨o1,o2,o3,fun j l c hj hl=>?_⟩
       cases j with
       | zero=>exact .inl rfl
       | succ j=>
         have:=bestGo_none hb j l (by simpa using hj)
         rw [show k+1+j=k+(j+1) by omega,hl] at this
         cases this
     | some y=>
       simp only [hb] at h
       obtain ⟨a1,a2,⟨l,a3,a4⟩,a5⟩:=bestGo_some hb
       split at h
       ·rename_i hle
        cases h
        obtain ⟨o1,o2,o3⟩:=own _ rfl
        refine ⟨o1,o2,o3,fun j l c hj hl=>?_⟩
        cases j with
        | zero=>exact .inl rfl
        | succ j=>
          have:=a5 j l c (by simpa using hj) (by rwa [show k+1+j=k+(j+1) by omega])
          have h3:(⟨c0,k,rs k⟩:Wy).cost=c0:=rfl
          have h4:(⟨c0,k,rs k⟩:Wy).edge=k:=rfl
          rw [h3,h4]
          by_cases hq:c0<c
          ·exact .inr (.inl hq)
          ·refine .inr (.inr ⟨?_,by omega⟩)
           rcases this with e|e|e
           ·have h5:l[y.rank]?=some c:=by rw [a2,← e,show k+1+j=k+(j+1) by omega];exact hl
            have h6:ls[j]?=some l:=by simpa using hj
            rw [show y.edge - (k+1)=j by omega,h6] at a3
            cases a3
            rw [h5] at a4;cases a4
            omega
           ·omega
           ·omega
       ·rename_i hle
        cases h
        refine ⟨by omega,a2,⟨l,?_,a4⟩,fun j l c hj hl=>?_⟩
        ·rw [show x.edge - k=(x.edge - (k+1))+1 by omega];simpa using a3
        ·cases j with
         | zero=>
           simp at hj;subst hj
           rw [Nat.add_zero,hc] at hl;cases hl
           exact .inr (.inl (by omega))
         | succ j=>
           have:=a5 j l c (by simpa using hj) (by rwa [show k+1+j=k+(j+1) by omega])
           rw [show k+1+j=k+(j+1) by omega] at this
           exact this
def best (cls:List (List Int)) (rs:Nat→Nat):Option Wy:=bestGo rs cls 0
theorem best_none {cls:List (List Int)} {rs:Nat→Nat} (h:best cls rs=none) (x:Wy):¬ Cand cls rs x:=by
 rintro ⟨h1,l,h2,h3⟩
 have:=bestGo_none h x.edge l h2
 rw [Nat.zero_add,← h1,h3] at this
 cases this
theorem best_some {cls:List (List Int)} {rs:Nat→Nat} {x:Wy} (h:best cls rs=some x):Cand cls rs x∧∀ y,Cand cls rs y→y=x∨wlt x y:=by
 obtain ⟨a1,a2,⟨l,a3,a4⟩,a5⟩:=bestGo_some h
 have hx:Cand cls rs x:=⟨a2,l,by simpa using a3,a4⟩
 refine ⟨hx,fun y hy=>?_⟩
 obtain ⟨b1,m,b2,b3⟩:=hy
 have:=a5 y.edge m y.cost b2 (by rw [Nat.zero_add,← b1];exact b3)
 rw [Nat.zero_add] at this
 rcases this with e|e|e
 ·exact .inl (Cand.eq ⟨b1,m,b2,b3⟩ hx e)
 ·exact .inr (.inl e)
 ·exact .inr (.inr e)
theorem best_of {cls:List (List Int)} {rs:Nat→Nat} {x:Wy} (h:Cand cls rs x) (hm:∀ y,Cand cls rs y→y=x∨wlt x y):best cls rs=some x:=by
 cases hb:best cls rs with
 | none=>exact absurd h (best_none hb x)
 | some y=>
   obtain ⟨h1,h2⟩:=best_some hb
   rcases hm y h1 with rfl|e
   ·rfl
   ·rcases h2 x h with rfl|e2
    ·rfl
    ·exact (e.anti e2).elim
theorem best_empty {cls:List (List Int)} {rs:Nat→Nat} (h:∀ x,¬ Cand cls rs x):best cls rs=none:=by
 cases hb:best cls rs with
 | none=>rfl
 | some y=>exact absurd (best_some hb).1 (h y)
def up (rs:Nat→Nat) (k:Nat):Nat→Nat:=fun j=>if j=k then rs k+1 else rs j
def zro:Nat→Nat:=fun _=>0
def gen (cls:List (List Int)):Nat→(Nat→Nat)→List Wy
 | 0,_=>[]
 | n+1,rs=>match best cls rs with
   | none=>[]
   | some x=>x::gen cls n (up rs x.edge)
def stF (cls:List (List Int)):Nat→(Nat→Nat)→Nat→Nat
 | 0,rs=>rs
 | t+1,rs=>match best cls rs with
   | none=>rs
   | some x=>stF cls t (up rs x.edge)
theorem gen_get {cls:List (List Int)}:∀ (n t:Nat) (rs:Nat→Nat),(gen cls n rs)[t]?=if t<n then best cls (stF cls t rs) else none
 | 0,t,rs=>by simp [gen]
 | n+1,t,rs=>by
   unfold gen
   cases hb:best cls rs with
   | none=>
     cases t with
     | zero=>simp [stF,hb]
     | succ t=>simp [stF,hb]
   | some x=>
     cases t with
     | zero=>simp [stF,hb]
     | succ t=>
       simp only [List.getElem?_cons_succ,stF,hb]
       rw [gen_get n t]
       by_cases h:t<n
       ·rw [if_pos h,if_pos (by omega)]
       ·rw [if_neg h,if_neg (by omega)]
theorem stF_succ {cls:List (List Int)}:∀ (t:Nat) (rs:Nat→Nat),stF cls (t+1) rs=match best cls (stF cls t rs) with
  | none=>stF cls t rs
  | some x=>up (stF cls t rs) x.edge
 | 0,rs=>by
   unfold stF
   cases best cls rs<;>rfl
 | t+1,rs=>by
   have h:stF cls (t+1+1) rs=match best cls rs with
     | none=>rs
     | some x=>stF cls (t+1) (up rs x.edge):=rfl
   have h2:stF cls (t+1) rs=match best cls rs with
     | none=>rs
     | some x=>stF cls t (up rs x.edge):=rfl
   rw [h,h2]
   cases hb:best cls rs with
   | none=>simp only [hb]
   | some x=>simp only;exact stF_succ t _
theorem stF_le {cls:List (List Int)}:∀ (t:Nat) (rs:Nat→Nat) (k:Nat),stF cls t rs k≤rs k+t
 | 0,rs,k=>by simp [stF]
 | t+1,rs,k=>by
   unfold stF
   cases hb:best cls rs with
   | none=>simp
   | some x=>
     simp only
     have:=stF_le (cls:=cls) t (up rs x.edge) k
     have h2:up rs x.edge k≤rs k+1:=by unfold up;split<;>(try subst_vars)<;>omega
     omega
def remGo (rs:Nat→Nat):List (List Int)→Nat→Nat
 | [],_=>0
 | l::ls,k=>(l.length - rs k)+remGo rs ls (k+1)
theorem remGo_zero {rs:Nat→Nat}:∀ {ls:List (List Int)} {k:Nat},remGo rs ls k=0→bestGo rs ls k=none
 | [],k,_=>rfl
 | l::ls,k,h=>by
   unfold remGo at h
   unfold bestGo
   have h1:l[rs k]?=none:=by rw [List.getElem?_eq_none_iff];omega
   rw [h1]
   exact remGo_zero (by omega)
theorem remGo_out {rs:Nat→Nat} {e:Nat}:∀ {ls:List (List Int)} {k:Nat},e<k→remGo (up rs e) ls k=remGo rs ls k
 | [],k,_=>rfl
 | l::ls,k,h=>by
   unfold remGo
   rw [remGo_out (by omega)]
   unfold up
   rw [if_neg (by omega)]
theorem remGo_up {rs:Nat→Nat} {e:Nat}:∀ {ls:List (List Int)} {k:Nat} {l:List Int},k≤e→ls[e - k]?=some l→rs e<l.length→remGo (up rs e) ls k+1=remGo rs ls k
 | [],k,l,_,h,_=>by simp at h
 | l0::ls,k,l,hk,h,hl=>by
   unfold remGo
   by_cases he:e=k
   ·subst he
    rw [remGo_out (by omega)]
    simp at h;subst h
    unfold up
    rw [if_pos rfl]
    omega
   ·have:=remGo_up (rs:=rs) (e:=e) (ls:=ls) (k:=k+1) (l:=l) (by omega) (by rw [show e - k=(e - (k+1))+1 by omega] at h;simpa using h) hl
    rw [show up rs e k=rs k by unfold up;rw [if_neg (by omega)]]
    omega
theorem rem_end {cls:List (List Int)}:∀ (t:Nat) (rs:Nat→Nat),remGo rs cls 0≤t→best cls (stF cls t rs)=none
 | 0,rs,h=>by
   show bestGo rs cls 0=none
   exact remGo_zero (by omega)
 | t+1,rs,h=>by
   unfold stF
   cases hb:best cls rs with
   | none=>simpa using hb
   | some x=>
     simp only
     obtain ⟨⟨h1,l,h2,h3⟩,_⟩:=best_some hb
     have hl:=(List.getElem?_eq_some_iff.1 h3).1
     have:=remGo_up (rs:=rs) (e:=x.edge) (ls:=cls) (k:=0) (l:=l) (Nat.zero_le _) (by simpa using h2) (by omega)
     exact rem_end t _ (by omega)
def mgW (cls:List (List Int)):List Wy:=gen cls (remGo zro cls 0) zro
def stS (cls:List (List Int)) (t:Nat):Nat→Nat:=stF cls t zro
theorem mgW_get (cls:List (List Int)) (t:Nat):(mgW cls)[t]?=best cls (stS cls t):=by
 unfold mgW stS
 rw [gen_get]
 by_cases h:t<remGo zro cls 0
 ·rw [if_pos h]
 ·rw [if_neg h,rem_end t zro (by omega)]
theorem stS_le (cls:List (List Int)) (t k:Nat):stS cls t k≤t:=by
 have:=stF_le (cls:=cls) t zro k
 unfold stS zro at *
 omega
theorem stS_succ {cls:List (List Int)} {t:Nat} {x:Wy} (h:(mgW cls)[t]?=some x):stS cls (t+1)=up (stS cls t) x.edge:=by
 rw [mgW_get] at h
 unfold stS at h ⊢
 rw [stF_succ,h]
theorem stS_stay {cls:List (List Int)} {t:Nat} (h:(mgW cls)[t]?=none):stS cls (t+1)=stS cls t:=by
 rw [mgW_get] at h
 unfold stS at h ⊢
 rw [stF_succ,h]
theorem mgW_cand {cls:List (List Int)} {t:Nat} {x:Wy} (h:(mgW cls)[t]?=some x):Cand cls (stS cls t) x:=by
 rw [mgW_get] at h
 exact (best_some h).1
theorem mgW_rank {cls:List (List Int)} {t:Nat} {x:Wy} (h:(mgW cls)[t]?=some x):x.rank≤t:=by
 have:=(mgW_cand h).1
 have:=stS_le cls t x.edge
 omega
structure NodeOK (cls:List (List Int)) (t:Nat) (due:Bool) (Q:List Wy):Prop where
 le:t≤(mgW cls).length
 sorted:Q.Pairwise wlt
 mem:∀ x,x∈Q↔Cand cls (stS cls t) x∧(due=true→∀ y,(mgW cls)[t - 1]?=some y→x.edge≠y.edge)
 pos:due=true→1≤t
theorem NodeOK.last {cls:List (List Int)} {t:Nat} {Q:List Wy} (h:NodeOK cls t true Q):∃ y,(mgW cls)[t - 1]?=some y:=by
 have h1:=h.le
 have h2:=h.pos rfl
 exact ⟨_,List.getElem?_eq_getElem (by omega)⟩
theorem NodeOK.empty {cls:List (List Int)} {t:Nat} (h:NodeOK cls t false []):(mgW cls)[t]?=none:=by
 rw [mgW_get]
 refine best_empty fun x hx=>?_
 have:=(h.mem x).2 ⟨hx,fun e=>by cases e⟩
 cases this
theorem NodeOK.pop {cls:List (List Int)} {t:Nat} {x:Wy} {Q:List Wy} (h:NodeOK cls t false (x::Q)):(mgW cls)[t]?=some x∧NodeOK cls (t+1) true Q:=by
 have hs:=List.pairwise_cons.1 h.sorted
 have hx:Cand cls (stS cls t) x:=((h.mem x).1 (by simp)).1
 have hg:(mgW cls)[t]?=some x:=by
  rw [mgW_get]
  refine best_of hx fun y hy=>?_
  have:=(h.mem y).2 ⟨hy,fun e=>by cases e⟩
  rcases List.mem_cons.1 this with rfl|hm
  ·exact .inl rfl
  ·exact .inr (hs.1 y hm)
 refine ⟨hg,?_,hs.2,fun y=>?_,fun _=>by omega⟩
 ·have:=(List.getElem?_eq_some_iff.1 hg).1
  omega
 ·rw [stS_succ hg,show t+1 - 1=t by omega,hg]
  constructor
  ·intro hy
   have hc:=((h.mem y).1 (List.mem_cons_of_mem _ hy)).1
   have hne:y.edge≠x.edge:=fun e=>by
    have:=Cand.eq hc hx e
    subst this
    exact wlt.irr (hs.1 _ hy)
   refine ⟨⟨?_,hc.2⟩,fun _ z hz=>by cases hz;exact hne⟩
   unfold up
   rw [if_neg hne]
   exact hc.1
  ·rintro ⟨⟨h1,h2⟩,h3⟩
   have hne:=h3 rfl x rfl
   unfold up at h1
   rw [if_neg hne] at h1
   have:=(h.mem y).2 ⟨⟨h1,h2⟩,fun e=>by cases e⟩
   rcases List.mem_cons.1 this with rfl|hm
   ·exact absurd rfl hne
   ·exact hm
def wltB (x y:Wy):Bool:=decide (x.cost<y.cost)||(decide (x.cost=y.cost)&&decide (x.edge<y.edge))
theorem wltB_iff {x y:Wy}:wltB x y=true↔wlt x y:=by unfold wltB wlt;simp
def idxW (x:Wy):List Wy→Nat
 | []=>0
 | y::Q=>if wltB y x=true then idxW x Q+1 else 0
def insW (x:Wy) (Q:List Wy):List Wy:=Q.take (idxW x Q)++x::Q.drop (idxW x Q)
theorem idxW_le (x:Wy):∀ Q,idxW x Q≤Q.length
 | []=>Nat.le_refl _
 | y::Q=>by
   unfold idxW
   split
   ·have:=idxW_le x Q;simp;omega
   ·omega
theorem insW_mem {x y:Wy} {Q:List Wy}:y∈insW x Q↔y=x∨y∈Q:=by
 unfold insW
 constructor
 ·intro h
  rcases List.mem_append.1 h with h|h
  ·exact .inr (List.mem_of_mem_take h)
  ·rcases List.mem_cons.1 h with h|h
   ·exact .inl h
   ·exact .inr (List.mem_of_mem_drop h)
 ·rintro (rfl|h)
  ·simp
  ·rw [← List.take_append_drop (idxW x Q) Q] at h
   rcases List.mem_append.1 h with h|h
   ·exact List.mem_append.2 (.inl h)
   ·exact List.mem_append.2 (.inr (List.mem_cons_of_mem _ h))
theorem insW_length (x:Wy) (Q:List Wy):(insW x Q).length=Q.length+1:=by
 have:=idxW_le x Q
 unfold insW
 simp
 omega
theorem idxW_before {x:Wy}:∀ {Q:List Wy} {j:Nat} {y:Wy},j<idxW x Q→Q[j]?=some y→wlt y x
 | [],j,y,h,_=>by simp [idxW] at h
 | z::Q,j,y,h,hy=>by
   unfold idxW at h
   split at h
   ·rename_i hz
    cases j with
    | zero=>simp at hy;subst hy;exact wltB_iff.1 hz
    | succ j=>exact idxW_before (x:=x) (Q:=Q) (j:=j) (by omega) (by simpa using hy)
   ·omega
theorem idxW_at {x:Wy}:∀ {Q:List Wy} {y:Wy},Q[idxW x Q]?=some y→¬ wlt y x
 | [],y,h=>by simp at h
 | z::Q,y,h=>by
   unfold idxW at h
   split at h
   ·exact idxW_at (by simpa using h)
   ·rename_i hz
    simp at h;subst h
    exact fun e=>hz (wltB_iff.2 e)
theorem idxW_after {x:Wy} {Q:List Wy} (hs:Q.Pairwise wlt) {j:Nat} {y:Wy} (hj:idxW x Q≤j) (hy:Q[j]?=some y):¬ wlt y x:=by
 have hjl:=(List.getElem?_eq_some_iff.1 hy).1
 have h1:Q[idxW x Q]?=some Q[idxW x Q]:=List.getElem?_eq_getElem (by omega)
 have h2:=idxW_at h1
 by_cases he:j=idxW x Q
 ·subst he
  rw [h1] at hy;cases hy
  exact h2
 ·have h3:=List.pairwise_iff_getElem.1 hs (idxW x Q) j (by omega) hjl (by omega)
  have h4:Q[j]=y:=(List.getElem?_eq_some_iff.1 hy).2
  rw [h4] at h3
  exact fun e=>h2 (h3.trans e)
theorem wlt.tri {x y:Wy} (h:x.edge≠y.edge) (hn:¬ wlt y x):wlt x y:=by unfold wlt at *;omega
theorem insW_sorted {x:Wy} {Q:List Wy} (hs:Q.Pairwise wlt) (hn:∀ y∈Q,y.edge≠x.edge):(insW x Q).Pairwise wlt:=by
 unfold insW
 rw [List.pairwise_append]
 refine ⟨List.Pairwise.sublist (List.take_sublist _ _) hs,?_,?_⟩
 ·rw [List.pairwise_cons]
  refine ⟨fun y hy=>?_,List.Pairwise.sublist (List.drop_sublist _ _) hs⟩
  obtain ⟨j,hj⟩:=List.mem_iff_getElem?.1 hy
  rw [List.getElem?_drop] at hj
  exact wlt.tri (fun e=>hn y (List.mem_of_mem_drop hy) e.symm) (idxW_after hs (by omega) hj)
 ·intro a ha b hb
  obtain ⟨i,hi⟩:=List.mem_iff_getElem?.1 ha
  have hil:=(List.getElem?_eq_some_iff.1 hi).1
  rw [List.length_take] at hil
  rw [List.getElem?_take_of_lt (by omega)] at hi
  have h1:=idxW_before (x:=x) (Q:=Q) (j:=i) (by omega) hi
  rcases List.mem_cons.1 hb with rfl|hb
  ·exact h1
  ·obtain ⟨j,hj⟩:=List.mem_iff_getElem?.1 hb
   rw [List.getElem?_drop] at hj
   exact h1.trans (wlt.tri (fun e=>hn b (List.mem_of_mem_drop hb) e.symm) (idxW_after hs (by omega) hj))
theorem NodeOK.skip {cls:List (List Int)} {t:Nat} {Q:List Wy} {y:Wy} (h:NodeOK cls t true Q) (hy:(mgW cls)[t - 1]?=some y) {l:List Int} (hl:cls[y.edge]?=some l) (hn:l[y.rank+1]?=none):NodeOK cls t false Q:=by
 have h2:=h.pos rfl
 have hst:=stS_succ hy
 rw [show t - 1+1=t by omega] at hst
 have hyr:=(mgW_cand hy).1
 refine ⟨h.le,h.sorted,fun x=>?_,fun e=>by cases e⟩
 rw [h.mem x]
 constructor
 ·rintro ⟨h3,h4⟩
  exact ⟨h3,fun e=>by cases e⟩
 ·rintro ⟨h3,_⟩
  refine ⟨h3,fun _ z hz=>?_⟩
  rw [hy] at hz;cases hz
  intro e
  obtain ⟨q1,m,q2,q3⟩:=h3
  rw [hst] at q1
  unfold up at q1
  rw [if_pos e,← hyr] at q1
  rw [e,hl] at q2;cases q2
  rw [q1,hn] at q3
  cases q3
theorem NodeOK.push {cls:List (List Int)} {t:Nat} {Q:List Wy} {y:Wy} (h:NodeOK cls t true Q) (hy:(mgW cls)[t - 1]?=some y) {l:List Int} (hl:cls[y.edge]?=some l) {c:Int} (hn:l[y.rank+1]?=some c):NodeOK cls t false (insW ⟨c,y.edge,y.rank+1⟩ Q):=by
 have h2:=h.pos rfl
 have hst:=stS_succ hy
 rw [show t - 1+1=t by omega] at hst
 have hyr:=(mgW_cand hy).1
 have hedge:∀ x∈Q,x.edge≠y.edge:=fun x hx=>((h.mem x).1 hx).2 rfl y hy
 have hnew:Cand cls (stS cls t) ⟨c,y.edge,y.rank+1⟩:=by
  refine ⟨?_,l,hl,hn⟩
  rw [hst]
  unfold up
  rw [if_pos rfl,← hyr]
 refine ⟨h.le,insW_sorted h.sorted hedge,fun x=>?_,fun e=>by cases e⟩
 rw [insW_mem,h.mem x]
 constructor
 ·rintro (rfl|⟨h3,_⟩)
  ·exact ⟨hnew,fun e=>by cases e⟩
  ·exact ⟨h3,fun e=>by cases e⟩
 ·rintro ⟨h3,_⟩
  by_cases e:x.edge=y.edge
  ·exact .inl (Cand.eq h3 hnew e)
  ·refine .inr ⟨h3,fun _ z hz=>?_⟩
   rw [hy] at hz;cases hz
   exact e
def begQ (cls:List (List Int)) (k:Nat) (Q:List Wy):Prop:=Q.Pairwise wlt∧∀ x,x∈Q↔Cand cls zro x∧x.edge<k
theorem begQ_zero (cls:List (List Int)):begQ cls 0 []:=⟨.nil,fun x=>by simp⟩
theorem begQ_skip {cls:List (List Int)} {k:Nat} {Q:List Wy} (h:begQ cls k Q) {l:List Int} (hl:cls[k]?=some l) (hn:l[0]?=none):begQ cls (k+1) Q:=by
 refine ⟨h.1,fun x=>?_⟩
 rw [h.2 x]
 constructor
 ·rintro ⟨h1,h2⟩;exact ⟨h1,by omega⟩
 ·rintro ⟨h1,h2⟩
  refine ⟨h1,?_⟩
  by_cases e:x.edge=k
  ·obtain ⟨q1,m,q2,q3⟩:=h1
   rw [e,hl] at q2;cases q2
   rw [q1,show zro x.edge=0 from rfl,hn] at q3
   cases q3
  ·omega
theorem begQ_put {cls:List (List Int)} {k:Nat} {Q:List Wy} (h:begQ cls k Q) {l:List Int} (hl:cls[k]?=some l) {c:Int} (hn:l[0]?=some c):begQ cls (k+1) (insW ⟨c,k,0⟩ Q):=by
 have hnew:Cand cls zro ⟨c,k,0⟩:=⟨rfl,l,hl,hn⟩
 refine ⟨insW_sorted h.1 (fun y hy=>?_),fun x=>?_⟩
 ·have:=((h.2 y).1 hy).2
  show y.edge≠k
  omega
 ·rw [insW_mem,h.2 x]
  constructor
  ·rintro (rfl|⟨h1,h2⟩)
   ·exact ⟨hnew,Nat.lt_succ_self _⟩
   ·exact ⟨h1,by omega⟩
  ·rintro ⟨h1,h2⟩
   by_cases e:x.edge=k
   ·exact .inl (Cand.eq h1 hnew e)
   ·exact .inr ⟨h1,by omega⟩
theorem begQ_end {cls:List (List Int)} {Q:List Wy} (h:begQ cls cls.length Q):NodeOK cls 0 false Q:=by
 refine ⟨Nat.zero_le _,h.1,fun x=>?_,fun e=>by cases e⟩
 rw [h.2 x]
 constructor
 ·rintro ⟨h1,_⟩;exact ⟨h1,fun e=>by cases e⟩
 ·rintro ⟨h1,_⟩
  refine ⟨h1,?_⟩
  obtain ⟨_,l,q,_⟩:=h1
  exact (List.getElem?_eq_some_iff.1 q).1
end Go.Abs.Wall
namespace Go.Abs.Wall.Lst
open Go Go.Abs Go.Proofs Go.Abs.Wall
def encWy (w:Wy):List AV:=[.int .i64 w.cost,.int .i64 w.edge,.int .i64 w.rank]
def wyCmp (x y:Wy):Int:=orI [cmpI x.cost y.cost,cmpI x.edge y.edge]
theorem wyCmp_lt {x y:Wy}:wyCmp x y<0↔wlt x y:=by
 unfold wyCmp orI orI orI cmpI wlt
 repeat' split
 all_goals first|omega|(simp at *;omega)
def c65:Cfg:=⟨[0,1,2,3,4],[],[],[],[(1,[0,1,2,3,4,5,6,7,8,9,10,11,12],[])],[]⟩
theorem wayCompare (x y:Wy):QCall Tryz.prog 65 [.agg (encWy x),.agg (encWy y)] [] (.int .i64 (wyCmp x y)):=by
 refine fcalls (F:=Tryz.f65) c65 rfl rfl rfl mixed rfl fun X=>?_
 conv=>whnf
 repeat ((first|refine gcall (compareI _ _) ?_|refine gcall (orW [cmpI x.cost y.cost,cmpI x.edge y.edge] (by simp [LMAX])) ?_|refine And.intro (by show drawOK (opsAt Tryz.f65 _) _=true;decide +kernel) ?_);conv=>whnf)
 exact ⟨rfl,rfl⟩
theorem ldP {α:Type} {k:Nat} {enc:α→List AV} {P:Program} {t:TypeId} {b o i:Nat} {h:Heap} {pre:List AV} {L:List α} {x:α} {K:AV→Prop} (hk:∀ a,(enc a).length=k) (hm:(b,Ob.vec (pre++(L.map enc).flatten))∈h) (ho:o=pre.length+i*k) (hx:L[i]?=some x)
  (hl:loadI P t (enc x++((L.drop (i+1)).map enc).flatten) K):∃ cs l,(b,Ob.vec cs)∈h∧dropN o cs=some l∧loadI P t l K:=by
 obtain ⟨hi,hx'⟩:=List.getElem?_eq_some_iff.1 hx
 refine ⟨_,_,hm,dropN_some ?_,?_⟩
 ·rw [List.length_append,flat_len hk,ho]
  have:=Nat.mul_le_mul_right k (show i≤L.length by omega)
  omega
 ·rw [ho,List.drop_append,List.drop_eq_nil_of_le (Nat.le_add_right _ _),List.nil_append,Nat.add_sub_cancel_left,flat_drop hk,List.drop_eq_getElem_cons hi,hx',List.map_cons,List.flatten_cons]
  exact hl
def fndW (x:Wy) (Q:List Wy):Bool:=match Q[idxW x Q]? with
 | none=>false
 | some y=>decide (wyCmp y x=0)
theorem encWy_len (w:Wy):(encWy w).length=3:=rfl
theorem idxW_iff {x:Wy} {Q:List Wy} (hs:Q.Pairwise wlt) {j:Nat} {y:Wy} (hy:Q[j]?=some y):wyCmp y x<0↔j<idxW x Q:=by
 rw [wyCmp_lt]
 constructor
 ·intro h
  by_cases hj:j<idxW x Q
  ·exact hj
  ·exact absurd h (idxW_after hs (by omega) hy)
 ·intro h;exact idxW_before h hy
def c102:Cfg:=⟨[0,1,2,4,6,7,8,9,10,11,17,31],[],[],[],[(5,[0,1,2,3,4,5,6,7],[]),(8,[0,1,2,3,4,5,6,7,8,9,10,11,12,13,14,15],[])],[]⟩
theorem VLe.osl0 {b off k:Nat}:VLe (.osl b off 0 k) (.sl k none []):=by
 intro c u h
 simp only [Rep] at h ⊢
 obtain ⟨p,cap,o',h1,h2,rfl,h3,h4,h5,h6,h7,h8⟩:=h
 exact ⟨_,cap,rfl,by simp,by simp,h5,by simp,by simp,by simp [RepEs],by simp⟩
theorem binNil (w:Wy):QCall Tryz.prog 102 [.sl 3 none [],.agg (encWy w),.fn 65 []] [] (.tup [.int .i64 (idxW w []),.bool (fndW w [])]):=by
 refine fcalls (F:=Tryz.f102) c102 rfl rfl rfl mixed rfl fun X=>?_
 conv=>whnf
 refine uloop 60 rfl mixed ?_
 conv=>whnf
 refine .inr ?_
 conv=>whnf
 refine cF rfl ?_
 conv=>whnf
 repeat ((first|(refine ⟨0,[.int .i64 0,.int .i64 0,.int .i64 0],?_,?_⟩;(focus (conv=>whnf;skip));(focus (intro hq;exact absurd hq (by decide))))|(refine ⟨.int .i64 0,?_,?_⟩;(focus (conv=>whnf;skip));(focus (intro hq;exact absurd hq (by decide))))|refine And.intro (by show drawOK (opsAt Tryz.f102 _) _=true;decide +kernel) ?_);conv=>whnf)
 exact ⟨rfl,rfl⟩
theorem binW (x:Wy) (Q:List Wy) (hs:Q.Pairwise wlt) (b:Nat) (pre:List AV) (hl:Q.length≤4294967296) :
  QCall Tryz.prog 102 [.osl b pre.length Q.length 3,.agg (encWy x),.fn 65 []] [(b,.vec (pre++(Q.map encWy).flatten))] (.tup [.int .i64 (idxW x Q),.bool (fndW x Q)]):=by
 have hile:=idxW_le x Q
 by_cases hne:0<Q.length
 rotate_left
 ·have hq:Q=[]:=List.eq_nil_of_length_eq_zero (by omega)
  subst hq
  exact QCall.args (QCall.wide (binNil x) _) (.cons VLe.osl0 (.cons (VLe.refl _) (.cons (VLe.refl _) .nil)))
 refine fcalls (F:=Tryz.f102) c102 rfl rfl rfl mixed rfl fun X=>?_
 conv=>whnf
 skip
 refine sloop rfl mixed [0,2,4,8,9,10] [] (fun m r h=>∃ (i j:Nat),r=[(0,[],.osl b pre.length Q.length 3),(2,[],.fn 65 []),(4,[],.iptr (encWy x)),(8,[],.int .i64 Q.length),(9,[],.int .i64 i),(10,[],.int .i64 j)]∧h=[(b,.vec (pre++(Q.map encWy).flatten))]∧m=j - i∧i≤idxW x Q∧idxW x Q≤j∧j≤Q.length) ?_ ?_
 ·conv=>whnf
  exact ⟨_,0,Q.length,rfl,rfl,rfl,by omega,by omega,by omega⟩
 ·rintro m r h ⟨i,j,rfl,rfl,rfl,hi,hj,hjl⟩
  conv=>whnf
  refine ⟨fun hz=>?_,fun hz=>?_⟩<;>simp at hz
  ·have hmid:((i:Int)+(j:Int)) / 2=(((i+j) / 2:Nat):Int):=by omega
   obtain ⟨y,hy⟩:=get_lt (l:=Q) (i:=(i+j) / 2) (by omega)
   have hcm:=idxW_iff (x:=x) hs hy
   have hw:IntKind.u64.wrap ((i:Int)+(j:Int))=(i:Int)+(j:Int):=by
    simp [IntKind.wrap,IntKind.signed,IntKind.bits];omega
   conv=>whnf
   repeat (refine ⟨gP_of ⟨by omega,by omega⟩,?_⟩;conv=>whnf)
   rw [hw]
   refine ⟨gP_of ⟨⟨rfl,rfl⟩,by omega,by omega⟩,?_⟩
   rw [hmid]
   conv=>whnf
   repeat ((first|refine ⟨gP_of ⟨by omega,by omega⟩,?_⟩|(refine ⟨(i+j) / 2,gP_of ⟨rfl,by omega⟩,?_⟩)|(refine ldP encWy_len (.head _) rfl hy ?_)|refine gcall (wayCompare y x) ?_|refine And.intro (by show drawOK (opsAt Tryz.f102 _) _=true;decide +kernel) ?_);conv=>whnf)
   refine ⟨fun hc=>?_,fun hc=>?_⟩<;>simp at hc
   ·conv=>whnf
    repeat (refine ⟨gP_of ⟨by omega,by omega⟩,?_⟩;conv=>whnf)
    exact ⟨_,by omega,(i+j) / 2+1,j,rfl,rfl,rfl,by have:=hcm.1 hc;omega,hj,hjl⟩
   ·conv=>whnf
    skip
    exact ⟨_,by omega,i,(i+j) / 2,rfl,rfl,rfl,hi,by have:=mt hcm.2 (by omega);omega,by omega⟩
  ·have hie:i=idxW x Q:=by omega
   subst hie
   by_cases hlt:idxW x Q<Q.length
   ·obtain ⟨y,hy⟩:=get_lt (l:=Q) (i:=idxW x Q) hlt
    conv=>whnf
    repeat ((first|(refine ⟨idxW x Q,gP_of ⟨rfl,by omega⟩,?_⟩)|(refine ldP encWy_len (.head _) rfl hy ?_)|refine gcall (wayCompare y x) ?_|refine And.intro (by show drawOK (opsAt Tryz.f102 _) _=true;decide +kernel) ?_);conv=>whnf)
    refine ⟨?_,rfl⟩
    unfold fndW
    rw [hy]
    simp [hlt]
   ·have hn:Q[idxW x Q]?=none:=List.getElem?_eq_none (by omega)
    obtain ⟨y,hy⟩:=get_lt (l:=Q) (i:=0) hne
    have hdf:decide (((idxW x Q:Nat):Int)<(Q.length:Int))=false:=by simp;omega
    conv=>whnf
    repeat (refine And.intro (by show drawOK (opsAt Tryz.f102 _) _=true;decide +kernel) ?_;conv=>whnf)
    rw [hdf]
    repeat ((first|(refine ⟨0,(fun hq=>by cases hq),?_⟩)|(refine ldP (i:=0) encWy_len (.head _) rfl hy ?_)|refine gcall (wayCompare y x) ?_);conv=>whnf)
    refine ⟨?_,rfl⟩
    unfold fndW
    rw [hn]
    rfl
theorem overOK {P:Program} {f:FuncId} {fn:Func} {tS tR e:TypeId} {vb b vo o n m c k k2:Nat} {cs1 cs2:List AV} {h:Heap} {K:AV→Heap→Prop} (hf:P.funcs[f]?=some fn) (hname:(fn.name == "runtime.NumGoroutine")=false)
  (hb:fn.body.isNone=true) (hn:Extern.findNext fn=none) (he:Extern.find fn=some (Extern.SlicesOverlaps.overlaps #[tS,tS] #[tR])) (ht:P.underlying tS=some (.slice e)) (hz:P.info? e≠none)
  (h1:(vb,Ob.vec cs1)∈h) (h2:(b,Ob.vec cs2)∈h) (hne:vb≠b) (hc:0<cs2.length) (hn1:0<n) (hK:K (.bool false) h) :
  ACalls P f [.osl vb vo n k,.oslc b o m c k2] h K:=by
 refine ⟨fun X g w us hc2 hr=>.inr ?_⟩
 simp only [RepVs] at hr
 obtain ⟨u1,r1,hu,hx1,u2,r2,hu2,hx2,hu3⟩:=hr
 subst hu2 hu3
 obtain ⟨p1,cap1,a1,a2,rfl,a3,a4,a5,a6,_⟩:=hx1.oslE hn1
 rw [Rep] at hx2
 obtain ⟨p2,b1,b2,rfl,b3,b4,b5,b6,b7⟩:=hx2
 obtain ⟨q1,cc1,t1,c1,c2,c3,c4,c5,c6⟩:=hc2.obj vb _ h1
 obtain ⟨q2,cc2,t2,d1,d2,d3,d4,d5,d6⟩:=hc2.obj b _ h2
 simp only at a1 b1 c1 c3 c4 d1 d3 d4
 rw [c1] at a1;cases a1
 rw [d1] at b1;cases b1
 have hbk:p1.block≠p2.block:=by
  intro e
  rw [e,d3] at c3
  cases c3
  exact hne rfl
 have hus:us=#[.slice (some ⟨p1.block,p1.off+vo,none⟩) n cap1,.slice (some ⟨p2.block,p2.off+o,none⟩) m c]:=by rw [← Array.toList_inj];exact hu
 subst hus
 obtain ⟨i,hi⟩:=Option.ne_none_iff_exists'.1 hz
 have hrun:=Go.Lib.run_overlaps_apart (P:=P) w tS tR e ht i.size (fun w=>by simp [Go.sizeOf,typeInfo,hi]) ⟨p1.block,p1.off+vo,none⟩ ⟨p2.block,p2.off+o,none⟩ n cap1 m c hbk t1 t2 cc1.size cc2.size
  (by simp [World.shape?,c4]) (by simp [World.shape?,d4]) (by omega) (frozen_of_row w p1.block _ cc1 t1 c4) (frozen_of_row w p1.block _ cc1 t1 c4)
 refine ⟨.bool false,w,?_,.bool false,.bool false,g,h,rfl,hK,hc2,by rw [Rep],Step.refl _ _ _ _⟩
 rw [run_callFunc_extern hf hname hb hn he,hrun]
 rfl
theorem VLe.oslc {b off n c k:Nat}:VLe (.oslc b off n c k) (.osl b off n k):=by
 intro v u h
 simp only [Rep] at h ⊢
 obtain ⟨p,h1,h2,h3,h4,h5,h6,h7,h8⟩:=h
 exact ⟨p,c,off,h1,h2,h3,h4,h5,h6,h7,fun _=>rfl,h8⟩
theorem ACalls.capOr {P:Program} {f:FuncId} {b off len k:Nat} {vs:List AV} {h:Heap} {R:AV→Heap→Prop} (hc:∀ off' c,(0<c→off'=off)→len≤c→ACalls P f (.oslc b off' len c k::vs) h R):ACalls P f (.osl b off len k::vs) h R:=by
 refine ⟨fun X g w us hcw hr=>?_⟩
 simp only [RepVs] at hr
 obtain ⟨u,r,hu,hx,hr⟩:=hr
 simp only [Rep] at hx
 obtain ⟨p,cap,o',h1,h2,h3,h4,h5,h6,h7,h8,h9⟩:=hx
 refine (hc o' cap h8 h4).1 X g w us hcw ?_
 simp only [RepVs]
 exact ⟨u,r,hu,by simp only [Rep];exact ⟨p,h1,h2,h3,h4,h5,h6,h7,h9⟩,hr⟩
def c103:Cfg:=⟨[0,1,2,6,7,8,9,16,22,31,68],[],[],[],[(11,[0,1,2,3,4,5,6,7,8],[]),(15,[0,1,2,3,4,5,6,7,8],[])],[]⟩
theorem insNilW (x:Wy) (vb:Nat):ACalls Tryz.prog 103 [.nilS,.int .i64 0,.osl vb 0 1 3] [(vb,.vec (encWy x))] (fun v h'=>∃ q,v=.osl q 0 1 3∧h'=[(q,.vec (encWy x)),(vb,.vec (encWy x))]):=by
 refine fcalls (F:=Tryz.f103) c103 rfl rfl rfl mixed rfl fun X=>?_
 conv=>whnf
 repeat (refine ⟨gP_of ⟨by omega,by omega⟩,?_⟩;conv=>whnf)
 refine cF rfl ?_
 conv=>whnf
 skip
 refine cT rfl ?_
 conv=>whnf
 repeat ((refine ⟨_,[encWy x],.head _,⟨rfl,by simp [encWy],rfl⟩,⟨Nat.le_of_ble_eq_true rfl,Nat.le_of_ble_eq_true rfl⟩,fun q=>?_⟩);conv=>whnf)
 exact ⟨q,rfl,rfl⟩
theorem setC_at {A B X:List AV}:setC (A++B) A.length X=A++(X++B.drop X.length):=by
 unfold setC
 rw [List.take_left,List.append_assoc,← List.drop_drop,List.drop_left]
theorem grow_eq {A B X D:List AV} {n m:Nat} (hn:n=A.length) (hm:m=A.length+X.length) (hb:B.length=X.length+D.length):setC (setC (A++B) n X) m D=A++(X++D):=by
 subst hn
 rw [setC_at,← List.append_assoc,show m=(A++X).length by rw [List.length_append];omega,setC_at,List.drop_drop,List.drop_eq_nil_of_le (by omega),List.append_nil,List.append_assoc]
theorem shift_eq {A X D:List AV} {n m:Nat} (hn:n=A.length) (hm:m=A.length+X.length) (hb:X.length≤D.length):setC (setC (A++D) m D) n X=A++(X++D):=by
 subst hn hm
 have h1:setC (A++D) (A.length+X.length) D=A++(D.take X.length++D):=by
  unfold setC
  rw [List.drop_eq_nil_of_le (by rw [List.length_append];omega),List.append_nil,List.take_append,List.take_of_length_le (by omega),Nat.add_sub_cancel_left,List.append_assoc]
 rw [h1,setC_at]
 congr 2
 rw [List.drop_append,List.drop_eq_nil_of_le (by rw [List.length_take];omega),List.nil_append,List.length_take]
 have:X.length - min X.length D.length=0:=by omega
 rw [this];rfl
theorem over224:Extern.find Tryz.f133=some (Extern.SlicesOverlaps.overlaps #[148,148] #[4]):=by kernel_rfl
def InsR (x:Wy) (Q:List Wy) (i vb:Nat) (v:AV) (h':Heap):Prop:=∃ b' pre',VLe v (.osl b' pre'.length (Q.length+1) 3)∧∃ h2,h'.Perm ((b',.vec (pre'++((Q.take i++x::Q.drop i).map encWy).flatten))::h2)
theorem insC (x:Wy) (Q:List Wy) (i:Nat) (hi:i≤Q.length) (b vb off c:Nat) (pre cs:List AV) (hcs:cs=pre++(Q.map encWy).flatten) (ho:0<c→off=pre.length) (hc:Q.length≤c) (hl:Q.length≤65536) (hne:vb≠b) :
  ACalls Tryz.prog 103 [.oslc b off Q.length c 3,.int .i64 i,.osl vb 0 1 3] [(b,.vec cs),(vb,.vec (encWy x))] (InsR x Q i vb):=by
 have hcl:cs.length=pre.length+Q.length*3:=by rw [hcs,List.length_append,flat_len encWy_len]
 refine fcalls (F:=Tryz.f103) c103 rfl rfl rfl mixed rfl fun X=>?_
 conv=>whnf
 repeat (refine ⟨gP_of ⟨by omega,by omega⟩,?_⟩;conv=>whnf)
 refine cF rfl ?_
 conv=>whnf
 skip
 refine ⟨fun he=>?_,fun he=>?_⟩<;>simp at he
 ·have he:i=Q.length:=by omega
  subst he
  have hfl:((Q.take Q.length++x::Q.drop Q.length).map encWy).flatten=(Q.map encWy).flatten++[encWy x].flatten:=by
   rw [List.take_length,List.drop_length,List.map_append,List.flatten_append];rfl
  by_cases hroom:Q.length+1≤c
  ·have:=ho (by omega)
   subst this
   conv=>whnf
   repeat ((refine ⟨_,[encWy x],.tail _ (.head _),⟨rfl,by simp [encWy],rfl⟩,by unfold AMAX;omega,cs,.head _,.inl ⟨hroom,hcl,_,.here _,?_⟩⟩);conv=>whnf)
   refine ⟨b,pre,VLe.oslc,[(vb,.vec (encWy x))],?_⟩
   rw [hcs,hfl,← List.append_assoc]
  ·have hcs2:Q.length=0∨off+Q.length*3≤cs.length:=by
    by_cases h0:Q.length=0
    ·exact .inl h0
    ·have:=ho (by omega)
     exact .inr (by omega)
   have htk:(cs.drop off).take (Q.length*3)=(Q.map encWy).flatten:=by
    by_cases h0:Q.length=0
    ·have:Q=[]:=List.eq_nil_of_length_eq_zero h0
     subst this;simp
    ·have:=ho (by omega)
     rw [hcs,this,List.drop_left,List.take_of_length_le (by rw [flat_len encWy_len];exact Nat.le_refl _)]
   conv=>whnf
   repeat ((refine ⟨_,[encWy x],.tail _ (.head _),⟨rfl,by simp [encWy],rfl⟩,by unfold AMAX;omega,cs,.head _,.inr ⟨by omega,hcs2,fun q=>?_⟩⟩);conv=>whnf)
   refine ⟨q,[],VLe.refl _,[(b,.vec cs),(vb,.vec (encWy x))],?_⟩
   rw [htk,hfl]
   exact .refl _
 ·have hin:i<Q.length:=by omega
  have hoff:=ho (by omega)
  subst hoff
  have z1:(i:Int).toNat - Int.toNat 0=i:=by simp
  have z2:c - Int.toNat 0=c:=by simp
  have z3:offC pre.length (Int.toNat 0) c 3=pre.length:=by unfold offC;split<;>simp
  have z4:(Q.length:Int)+((1:Nat):Int) - (i:Int)=((Q.length+1 - i:Nat):Int):=by omega
  have z5:offC pre.length (i:Int).toNat c 3=pre.length+i*3:=by unfold offC;rw [if_neg (by simp;omega)];simp
  have hd0:cs.drop pre.length=(Q.map encWy).flatten:=by rw [hcs,List.drop_left]
  have hdi:cs.drop (pre.length+i*3)=((Q.drop i).map encWy).flatten:=by rw [hcs,List.drop_append,List.drop_eq_nil_of_le (by omega),List.nil_append,Nat.add_sub_cancel_left,flat_drop encWy_len]
  conv=>whnf
  repeat (refine ⟨gP_of ⟨by omega,by omega⟩,?_⟩;conv=>whnf)
  refine ⟨fun hz=>?_,fun hz=>?_⟩<;>simp at hz
  ·conv=>whnf
   repeat (refine ⟨gP_of ⟨by omega,by omega⟩,?_⟩;conv=>whnf)
   rw [z1,z2,z3,z4]
   refine ⟨cs,.head _,⟨by omega,by omega,by omega,by omega⟩,fun q=>?_⟩
   rw [hd0,flat_take encWy_len,Int.toNat_natCast,show i+(Q.length+1 - i)=Q.length+1 by omega]
   conv=>whnf
   repeat (refine ⟨gP_of ⟨by omega,by omega⟩,?_⟩;conv=>whnf)
   have m1:min 1 (((Q.length+1:Nat):Int).toNat - (i:Int).toNat)=1:=by rw [Int.toNat_natCast,Int.toNat_natCast];omega
   have m2:0+(i:Int).toNat*3=i*3:=by simp
   have hTl:((Q.take i).map encWy).flatten.length=i*3:=by rw [flat_len encWy_len,List.length_take];omega
   have hDl:((Q.drop i).map encWy).flatten.length=(Q.length - i)*3:=by rw [flat_len encWy_len,List.length_drop]
   have hBl:(repC (Q.length+1 - i) [AV.int .i64 0,AV.int .i64 0,AV.int .i64 0]).length=(Q.length+1 - i)*3:=by unfold repC;simp
   rw [m1,m2]
   refine ⟨_,[encWy x],.tail _ (.tail _ (.head _)),⟨rfl,by simp [encWy],rfl⟩,_,_,.here _,⟨by omega,?_⟩,?_⟩
   ·rw [List.length_append,hTl,hBl]
    show i*3+3≤_
    omega
   conv=>whnf
   repeat ((first|refine ⟨gP_of ⟨by omega,by omega⟩,?_⟩|refine And.intro (by show drawOK (opsAt Tryz.f103 _) _=true;decide +kernel) ?_);conv=>whnf)
   have m3:min ((Q.length:Int).toNat - (i:Int).toNat) (((Q.length+1:Nat):Int).toNat - ((i:Int)+((1:Nat):Int)).toNat)=Q.length - i:=by
    rw [show (i:Int)+((1:Nat):Int)=((i+1:Nat):Int) by omega]
    simp only [Int.toNat_natCast]
    omega
   have m4:0+((i:Int)+((1:Nat):Int)).toNat*3=(i+1)*3:=by
    rw [show (i:Int)+((1:Nat):Int)=((i+1:Nat):Int) by omega,Int.toNat_natCast,Nat.zero_add]
   rw [m3,m4,z5]
   have hgr:=grow_eq (A:=((Q.take i).map encWy).flatten) (B:=repC (Q.length+1 - i) [AV.int .i64 0,AV.int .i64 0,AV.int .i64 0]) (X:=encWy x) (D:=((Q.drop i).map encWy).flatten) (n:=i*3) (m:=(i+1)*3) hTl.symm (by rw [hTl];show _=i*3+3;omega) (by rw [hBl,hDl];show _=3+_;omega)
   refine ⟨cs,(Q.drop i).map encWy,.tail _ (.head _),⟨?_,?_,by simp⟩,_,_,.here _,⟨by omega,?_⟩,?_⟩
   ·rw [hdi,List.take_of_length_le (by rw [hDl];exact Nat.le_refl _)]
   ·intro z hz
    obtain ⟨w,_,rfl⟩:=List.mem_map.1 hz
    rfl
   ·have h1:(setC (((Q.take i).map encWy).flatten++repC (Q.length+1 - i) [AV.int .i64 0,AV.int .i64 0,AV.int .i64 0]) (i*3) [encWy x].flatten).length=(Q.length+1)*3:=by
     rw [setC_length _ _ _ (by rw [List.length_append,hTl,hBl];show i*3+3≤_;omega),List.length_append,hTl,hBl]
     omega
    rw [h1,hDl]
    omega
   conv=>whnf
   skip
   refine ⟨q,[],VLe.refl _,[(b,.vec cs),(vb,.vec (encWy x))],?_⟩
   rw [show [encWy x].flatten=encWy x from by simp,hgr,List.map_append,List.flatten_append]
   exact .refl _
  ·conv=>whnf
   repeat (refine ⟨gP_of ⟨by omega,by omega⟩,?_⟩;conv=>whnf)
   rw [z2,z3]
   have z7:offC pre.length ((i:Int)+((1:Nat):Int)).toNat c 3=pre.length+(i+1)*3:=by
    rw [show (i:Int)+((1:Nat):Int)=((i+1:Nat):Int) by omega,Int.toNat_natCast]
    unfold offC;rw [if_neg (by omega)]
   have z9:((Q.length:Int)+((1:Nat):Int)).toNat - Int.toNat 0=Q.length+1:=by
    rw [show (Q.length:Int)+((1:Nat):Int)=((Q.length+1:Nat):Int) by omega];simp
   have z8:(((Q.length+1:Nat):Int)).toNat - ((i:Int)+((1:Nat):Int)).toNat=Q.length - i:=by
    rw [show (i:Int)+((1:Nat):Int)=((i+1:Nat):Int) by omega,Int.toNat_natCast,Int.toNat_natCast];omega
   rw [z7,z9,z8]
   refine overOK (fn:=Tryz.f133) rfl rfl rfl (by kernel_rfl) over224 rfl (by decide) (.tail _ (.head _)) (.head _) hne (by omega) (by omega) ?_
   conv=>whnf
   skip
   refine cT rfl ?_
   conv=>whnf
   repeat ((first|refine ⟨gP_of ⟨by omega,by omega⟩,?_⟩|refine And.intro (by show drawOK (opsAt Tryz.f103 _) _=true;decide +kernel) ?_);conv=>whnf)
   have hTl:((Q.take i).map encWy).flatten.length=i*3:=by rw [flat_len encWy_len,List.length_take];omega
   have hDl:((Q.drop i).map encWy).flatten.length=(Q.length - i)*3:=by rw [flat_len encWy_len,List.length_drop]
   have m3:min (((Q.length+1:Nat):Int).toNat - (i:Int).toNat) (((Q.length+1:Nat):Int).toNat - ((i:Int)+((1:Nat):Int)).toNat)=Q.length - i:=by
    rw [show (i:Int)+((1:Nat):Int)=((i+1:Nat):Int) by omega]
    simp only [Int.toNat_natCast]
    omega
   have hce:cs=(pre++((Q.take i).map encWy).flatten)++((Q.drop i).map encWy).flatten:=by
    rw [hcs,List.append_assoc,← List.flatten_append,← List.map_append,List.take_append_drop]
   have hal:(pre++((Q.take i).map encWy).flatten).length=pre.length+i*3:=by rw [List.length_append,hTl]
   have hsh:=shift_eq (A:=pre++((Q.take i).map encWy).flatten) (X:=encWy x) (D:=((Q.drop i).map encWy).flatten) (n:=pre.length+i*3) (m:=pre.length+(i+1)*3) hal.symm (by rw [hal];show _=_+3;omega) (by rw [hDl];show 3≤_;omega)
   rw [← hce] at hsh
   rw [m3,z5,z7]
   refine ⟨cs,(Q.drop i).map encWy,.head _,⟨?_,?_,by simp⟩,_,_,.here _,⟨by omega,by omega⟩,?_⟩
   ·rw [hdi,List.take_of_length_le (by rw [hDl];exact Nat.le_refl _)]
   ·intro z hz
    obtain ⟨w,_,rfl⟩:=List.mem_map.1 hz
    rfl
   conv=>whnf
   repeat (refine ⟨gP_of ⟨by omega,by omega⟩,?_⟩;conv=>whnf)
   have m1:min 1 (((Q.length+1:Nat):Int).toNat - (i:Int).toNat)=1:=by rw [Int.toNat_natCast,Int.toNat_natCast];omega
   rw [m1,z5]
   refine ⟨_,[encWy x],.tail _ (.head _),⟨rfl,by simp [encWy],rfl⟩,_,_,.here _,⟨by omega,?_⟩,?_⟩
   ·unfold setC
    simp only [List.length_append,List.length_take,List.length_drop]
    omega
   conv=>whnf
   skip
   refine ⟨b,pre,VLe.oslc,[(vb,.vec (encWy x))],?_⟩
   rw [show [encWy x].flatten=encWy x from by simp,hsh,show pre++((Q.take i++x::Q.drop i).map encWy).flatten=(pre++((Q.take i).map encWy).flatten)++(encWy x++((Q.drop i).map encWy).flatten) from by simp [List.append_assoc]]
theorem ACalls.re {f:FuncId} {vs:List AV} {h h2 H:Heap} {R R':AV→Heap→Prop} (hf:ACalls Tryz.prog f vs h R) (hp:(h++h2).Perm H)
  (hr:∀ v h1,R v h1→∃ H',(h1++h2).Perm H'∧R' v H'):ACalls Tryz.prog f vs H R':=by
 refine ACalls.post (ACalls.perm (ACalls.frame hf h2) hp) ?_
 rintro v h3 ⟨h1,hR,rfl⟩
 obtain ⟨H',hp',hR'⟩:=hr v h1 hR
 exact ⟨v,H',hR',VLe.refl _,fun k o hm=>hp'.mem_iff.2 hm,fun hn=>by unfold keys at hn ⊢;exact ((hp'.map _).nodup_iff).1 hn⟩
def OpenR (Q:List Wy) (ov:AV) (oh:Heap):Prop:=(Q=[]∧ov=.nilS∧oh=[])∨∃ b pre,ov=.osl b pre.length Q.length 3∧oh=[(b,.vec (pre++(Q.map encWy).flatten))]
theorem insW_acalls (x:Wy) (Q:List Wy) (b vb:Nat) (pre:List AV) (hl:Q.length≤65536) :
  ACalls Tryz.prog 103 [.osl b pre.length Q.length 3,.int .i64 (idxW x Q),.osl vb 0 1 3] [(b,.vec (pre++(Q.map encWy).flatten)),(vb,.vec (encWy x))]
   (fun v h'=>∃ b' pre',v=.osl b' pre'.length (Q.length+1) 3∧h'=[(b',.vec (pre'++((insW x Q).map encWy).flatten))]):=by
 by_cases hne:vb=b
 ·subst hne
  refine ⟨fun X g w us hc hr=>?_⟩
  have:=hc.nodup
  simp [keys] at this
 refine ACalls.post (ACalls.capOr fun off' c ho hc=>insC x Q (idxW x Q) (idxW_le x Q) b vb off' c pre _ rfl ho hc hl hne) ?_
 rintro v h1 ⟨b',pre',hv,h2,hp⟩
 refine ⟨_,_,⟨b',pre',rfl,rfl⟩,hv,fun k o hm=>hp.mem_iff.2 (by cases List.mem_singleton.1 hm;exact List.mem_cons_self),fun _=>by simp [keys]⟩
def ndC (fv ov:AV) (due:Bool):List AV:=[fv,ov,.fn 65 [],.bool due]
def c66:Cfg:=⟨[0,1,3,4],[26],[],[],[(1,[0,1,2,3,4,5,6,7,8,9,10,11,12,13,14],[]),(2,[0,1,2,3,4,5,6,7,8,9,10,11],[])],[26,27]⟩
theorem putW (x:Wy) (Q:List Wy) (hs:Q.Pairwise wlt) (nk:Nat) (fv:AV) (due:Bool) (ov:AV) (oh:Heap) (ho:OpenR Q ov oh) (hl:Q.length≤65536) :
  ACalls Tryz.prog 66 [.optr nk 1,.agg (encWy x)] ((nk,.vec (ndC fv ov due))::oh)
   (fun v h'=>v=.tup []∧∃ ov' oh',OpenR (insW x Q) ov' oh'∧h'=(nk,.vec (ndC fv ov' due))::oh'):=by
 have hil:=insW_length x Q
 refine ACalls.post (R:=fun v h'=>v=.tup []∧∃ ov' oh' g,OpenR (insW x Q) ov' oh'∧h'.Perm ((nk,.vec (ndC fv ov' due))::(oh'++g))) ?_ ?_
 ·rcases ho with ⟨rfl,rfl,rfl⟩|⟨b,pre,rfl,rfl⟩
  ·have hbn:QCall Tryz.prog 102 [.nilS,.agg (encWy x),.fn 65 []] [] (.tup [.int .i64 (idxW x []),.bool (fndW x [])]):=
    QCall.args (binNil x) (.cons (VLe.nil (by decide)) (VsLe.refl _))
   refine fcalls (F:=Tryz.f66) c66 rfl rfl rfl mixed rfl fun X=>?_
   conv=>whnf
   repeat ((first|refine gcall (hbn) ?_|refine ⟨_,_,.head _,rfl,?_⟩|refine And.intro (by show drawOK (opsAt Tryz.f66 _) _=true;decide +kernel) ?_|intro (nb:Nat));conv=>whnf)
   refine ACalls.mono ?_ (ACalls.frame (insNilW x nb) _)
   rintro v h1 ⟨h2,⟨q,rfl,rfl⟩,rfl⟩
   conv=>whnf
   repeat ((refine ⟨_,_,.there (.there (.here _)),leOK,?_⟩);conv=>whnf)
   exact ⟨rfl,.osl q 0 1 3,[(q,.vec (encWy x))],[(nb,.vec (encWy x))],.inr ⟨q,[],rfl,rfl⟩,List.perm_append_comm (l₁:=[(q,_),(nb,_)]) (l₂:=[(nk,_)])⟩
  ·have hbn:QCall Tryz.prog 102 [.osl b pre.length Q.length 3,.agg (encWy x),.fn 65 []] [(nk,.vec (ndC fv (.osl b pre.length Q.length 3) due)),(b,.vec (pre++(Q.map encWy).flatten))] (.tup [.int .i64 (idxW x Q),.bool (fndW x Q)]):=
    QCall.perm (h2:=[(nk,.vec (ndC fv (.osl b pre.length Q.length 3) due))]) (binW x Q hs b pre (by omega)) (List.perm_append_comm (l₁:=[_]) (l₂:=[_]))
   refine fcalls (F:=Tryz.f66) c66 rfl rfl rfl mixed rfl fun X=>?_
   conv=>whnf
   repeat ((first|(refine gcallH hbn ?_)|refine ⟨_,_,.head _,rfl,?_⟩|refine And.intro (by show drawOK (opsAt Tryz.f66 _) _=true;decide +kernel) ?_|intro (nb:Nat));conv=>whnf)
   refine ACalls.mono (R:=fun v h1=>∃ b' pre' g,v=.osl b' pre'.length (Q.length+1) 3∧h1=(b',.vec (pre'++((insW x Q).map encWy).flatten))::(nk,.vec (ndC fv (.osl b pre.length Q.length 3) due))::g) ?_ (ACalls.re (insW_acalls x Q b nb pre hl) (h2:=[(nk,.vec (ndC fv (.osl b pre.length Q.length 3) due))]) ?_ ?_)
   ·rintro v h1 ⟨b',pre',g,rfl,rfl⟩
    conv=>whnf
    repeat ((refine ⟨_,_,.there (.here _),leOK,?_⟩);conv=>whnf)
    exact ⟨rfl,.osl b' pre'.length (Q.length+1) 3,[(b',.vec (pre'++((insW x Q).map encWy).flatten))],g,.inr ⟨b',pre',by rw [hil],rfl⟩,List.Perm.swap _ _ _⟩
   ·exact (List.Perm.swap _ _ _).trans (List.Perm.cons _ (List.Perm.swap _ _ _))
   ·rintro v h1 ⟨b',pre',rfl,rfl⟩
    exact ⟨_,.refl _,b',pre',[],rfl,rfl⟩
 ·rintro v h1 ⟨rfl,ov',oh',g,ho',hp⟩
  refine ⟨_,_,⟨rfl,ov',oh',ho',rfl⟩,VLe.refl _,fun k o hm=>hp.mem_iff.2 ?_,fun hn=>?_⟩
  ·rcases List.mem_cons.1 hm with h|h
   ·rw [h];exact List.mem_cons_self
   ·exact List.mem_cons_of_mem _ (List.mem_append_left _ h)
  ·have h1:=((hp.map (fun p:Nat × Ob=>p.1)).nodup_iff).1 hn
   unfold keys
   simp only [List.map_cons,List.map_append,List.nodup_cons,List.mem_append,not_or,List.nodup_append] at h1 ⊢
   exact ⟨h1.1.1,h1.2.1⟩
end Go.Abs.Wall.Lst
