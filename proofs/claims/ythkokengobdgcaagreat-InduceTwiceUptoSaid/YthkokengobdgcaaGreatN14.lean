/- What is proved: small laws for the walks of this seat, and contracts of its functions. No condition but those each theorem names. -/
import Derived.Test.YthkokengobdgcaaGreatN13
import Derived.Test.YthkokengobdgcaaGreatN1
import Derived.Test.YthkokengobdgcaaGreatN8
import Derived.Test.YthkokengobdgcaaGreatN7
import Derived.Lib.Overlaps
set_option maxRecDepth 100000
set_option maxHeartbeats 2000000
set_option linter.unusedVariables false
set_option linter.unusedSimpArgs false
namespace Go.Abs.Wall
open Go Go.Abs Go.Proofs
end Go.Abs.Wall
namespace Go.Abs.Wall
structure Wy where
 cost:Int
 edge:Nat
 rank:Nat
def wlt (x y:Wy):Prop:=x.cost<y.cost∨(x.cost=y.cost∧x.edge<y.edge)
theorem wlt.irr {x:Wy}:¬ wlt x x:=by unfold wlt;omega
theorem wlt.trans {x y z:Wy} (h1:wlt x y) (h2:wlt y z):wlt x z:=by unfold wlt at *;omega
theorem wlt.anti {x y:Wy} (h1:wlt x y) (h2:wlt y x):False:=wlt.irr (h1.trans h2)
def Cand (cls:List (List Int)) (rs:Nat→Nat) (x:Wy):Prop:=x.rank=rs x.edge∧∃ l,cls[x.edge]?=some l∧l[x.rank]?=some x.cost
theorem Cand.eq {cls:List (List Int)} {rs:Nat→Nat} {x y:Wy} (h1:Cand cls rs x) (h2:Cand cls rs y) (h:x.edge=y.edge):x=y:=by
 obtain ⟨a1,l,a2,a3⟩:=h1
 obtain ⟨b1,m,b2,b3⟩:=h2
 obtain ⟨c,e,r⟩:=x
 obtain ⟨c',e',r'⟩:=y
 simp only at h a1 a2 a3 b1 b2 b3
 subst h
 subst a1 b1
 rw [a2] at b2;cases b2
 rw [a3] at b3;cases b3
 rfl
def bestGo (rs:Nat→Nat):List (List Int)→Nat→Option Wy
 | [],_=>none
 | l::ls,k=>match l[rs k]? with
   | none=>bestGo rs ls (k+1)
   | some c=>match bestGo rs ls (k+1) with
     | none=>some ⟨c,k,rs k⟩
     | some y=>if c≤y.cost then some ⟨c,k,rs k⟩ else some y
theorem bestGo_none {rs:Nat→Nat}:∀ {ls:List (List Int)} {k:Nat},bestGo rs ls k=none→∀ (j:Nat) l,ls[j]?=some l→l[rs (k+j)]?=none
 | [],k,h,j,l,hj=>by simp at hj
 | l0::ls,k,h,j,l,hj=>by
   unfold bestGo at h
   cases hc:l0[rs k]? with
   | none=>
     simp only [hc] at h
     cases j with
     | zero=>simp at hj;subst hj;exact hc
     | succ j=>
       have:=bestGo_none h j l (by simpa using hj)
       rwa [show k+1+j=k+(j+1) by omega] at this
   | some c=>
     simp only [hc] at h
     cases hb:bestGo rs ls (k+1) with
     | none=>simp [hb] at h
     | some y=>simp only [hb] at h;split at h<;>cases h
theorem bestGo_some {rs:Nat→Nat}:∀ {ls:List (List Int)} {k:Nat} {x:Wy},bestGo rs ls k=some x →
  k≤x.edge∧x.rank=rs x.edge∧(∃ l,ls[x.edge - k]?=some l∧l[x.rank]?=some x.cost)∧∀ (j:Nat) l c,ls[j]?=some l→l[rs (k+j)]?=some c→k+j=x.edge∨x.cost<c∨(x.cost=c∧x.edge<k+j)
 | [],k,x,h=>by simp [bestGo] at h
 | l0::ls,k,x,h=>by
   unfold bestGo at h
   cases hc:l0[rs k]? with
   | none=>
     simp only [hc] at h
     obtain ⟨a1,a2,⟨l,a3,a4⟩,a5⟩:=bestGo_some h
     refine ⟨by omega,a2,⟨l,?_,a4⟩,fun j l c hj hl=>?_⟩
     ·rw [show x.edge - k=(x.edge - (k+1))+1 by omega];simpa using a3
     ·cases j with
      | zero=>simp at hj;subst hj;rw [Nat.add_zero,hc] at hl;cases hl
      | succ j=>
        have:=a5 j l c (by simpa using hj) (by rwa [show k+1+j=k+(j+1) by omega])
        rw [show k+1+j=k+(j+1) by omega] at this
        exact this
   | some c0=>
     simp only [hc] at h
     have own:∀ (y:Wy),y=⟨c0,k,rs k⟩→k≤y.edge∧y.rank=rs y.edge∧(∃ l,(l0::ls)[y.edge - k]?=some l∧l[y.rank]?=some y.cost):=by
      rintro y rfl
      exact ⟨Nat.le_refl _,rfl,l0,by simp,hc⟩
     cases hb:bestGo rs ls (k+1) with
     | none=>
       simp only [hb] at h
       cases h
       obtain ⟨o1,o2,o3⟩:=own _ rfl
       refine ⟨o1,o2,o3,fun j l c hj hl=>?_⟩
       cases j with
       | zero=>exact .inl rfl
       | succ j=>
         have:=bestGo_none hb j l (by simpa using hj)
         rw [show k+1+j=k+(j+1) by omega,hl] at this
         cases this
     | some y=>
       simp only [hb] at h
       obtain ⟨a1,a2,⟨l,a3,a4⟩,a5⟩:=bestGo_some hb
       split at h
       ·rename_i hle
        cases h
        obtain ⟨o1,o2,o3⟩:=own _ rfl
        refine ⟨o1,o2,o3,fun j l c hj hl=>?_⟩
        cases j with
        | zero=>exact .inl rfl
        | succ j=>
          have:=a5 j l c (by simpa using hj) (by rwa [show k+1+j=k+(j+1) by omega])
          have h3:(⟨c0,k,rs k⟩:Wy).cost=c0:=rfl
          have h4:(⟨c0,k,rs k⟩:Wy).edge=k:=rfl
          rw [h3,h4]
          by_cases hq:c0<c
          ·exact .inr (.inl hq)
          ·refine .inr (.inr ⟨?_,by omega⟩)
           rcases this with e|e|e
           ·have h5:l[y.rank]?=some c:=by rw [a2,← e,show k+1+j=k+(j+1) by omega];exact hl
            have h6:ls[j]?=some l:=by simpa using hj
            rw [show y.edge - (k+1)=j by omega,h6] at a3
            cases a3
            rw [h5] at a4;cases a4
            omega
           ·omega
           ·omega
       ·rename_i hle
        cases h
        refine ⟨by omega,a2,⟨l,?_,a4⟩,fun j l c hj hl=>?_⟩
        ·rw [show x.edge - k=(x.edge - (k+1))+1 by omega];simpa using a3
        ·cases j with
         | zero=>
           simp at hj;subst hj
           rw [Nat.add_zero,hc] at hl;cases hl
           exact .inr (.inl (by omega))
         | succ j=>
           have:=a5 j l c (by simpa using hj) (by rwa [show k+1+j=k+(j+1) by omega])
           rw [show k+1+j=k+(j+1) by omega] at this
           exact this
def best (cls:List (List Int)) (rs:Nat→Nat):Option Wy:=bestGo rs cls 0
theorem best_none {cls:List (List Int)} {rs:Nat→Nat} (h:best cls rs=none) (x:Wy):¬ Cand cls rs x:=by
 rintro ⟨h1,l,h2,h3⟩
 have:=bestGo_none h x.edge l h2
 rw [Nat.zero_add,← h1,h3] at this
 cases this
theorem best_some {cls:List (List Int)} {rs:Nat→Nat} {x:Wy} (h:best cls rs=some x):Cand cls rs x∧∀ y,Cand cls rs y→y=x∨wlt x y:=by
 obtain ⟨a1,a2,⟨l,a3,a4⟩,a5⟩:=bestGo_some h
 have hx:Cand cls rs x:=⟨a2,l,by simpa using a3,a4⟩
 refine ⟨hx,fun y hy=>?_⟩
 obtain ⟨b1,m,b2,b3⟩:=hy
 have:=a5 y.edge m y.cost b2 (by rw [Nat.zero_add,← b1];exact b3)
 rw [Nat.zero_add] at this
 rcases this with e|e|e
 ·exact .inl (Cand.eq ⟨b1,m,b2,b3⟩ hx e)
 ·exact .inr (.inl e)
 ·exact .inr (.inr e)
theorem best_of {cls:List (List Int)} {rs:Nat→Nat} {x:Wy} (h:Cand cls rs x) (hm:∀ y,Cand cls rs y→y=x∨wlt x y):best cls rs=some x:=by
 cases hb:best cls rs with
 | none=>exact absurd h (best_none hb x)
 | some y=>
   obtain ⟨h1,h2⟩:=best_some hb
   rcases hm y h1 with rfl|e
   ·rfl
   ·rcases h2 x h with rfl|e2
    ·rfl
    ·exact (e.anti e2).elim
theorem best_empty {cls:List (List Int)} {rs:Nat→Nat} (h:∀ x,¬ Cand cls rs x):best cls rs=none:=by
 cases hb:best cls rs with
 | none=>rfl
 | some y=>exact absurd (best_some hb).1 (h y)
def up (rs:Nat→Nat) (k:Nat):Nat→Nat:=fun j=>if j=k then rs k+1 else rs j
def zro:Nat→Nat:=fun _=>0
def gen (cls:List (List Int)):Nat→(Nat→Nat)→List Wy
 | 0,_=>[]
 | n+1,rs=>match best cls rs with
   | none=>[]
   | some x=>x::gen cls n (up rs x.edge)
def stF (cls:List (List Int)):Nat→(Nat→Nat)→Nat→Nat
 | 0,rs=>rs
 | t+1,rs=>match best cls rs with
   | none=>rs
   | some x=>stF cls t (up rs x.edge)
theorem gen_get {cls:List (List Int)}:∀ (n t:Nat) (rs:Nat→Nat),(gen cls n rs)[t]?=if t<n then best cls (stF cls t rs) else none
 | 0,t,rs=>by simp [gen]
 | n+1,t,rs=>by
   unfold gen
   cases hb:best cls rs with
   | none=>
     cases t with
     | zero=>simp [stF,hb]
     | succ t=>simp [stF,hb]
   | some x=>
     cases t with
     | zero=>simp [stF,hb]
     | succ t=>
       simp only [List.getElem?_cons_succ,stF,hb]
       rw [gen_get n t]
       by_cases h:t<n
       ·rw [if_pos h,if_pos (by omega)]
       ·rw [if_neg h,if_neg (by omega)]
theorem stF_succ {cls:List (List Int)}:∀ (t:Nat) (rs:Nat→Nat),stF cls (t+1) rs=match best cls (stF cls t rs) with
  | none=>stF cls t rs
  | some x=>up (stF cls t rs) x.edge
 | 0,rs=>by
   unfold stF
   cases best cls rs<;>rfl
 | t+1,rs=>by
   have h:stF cls (t+1+1) rs=match best cls rs with
     | none=>rs
     | some x=>stF cls (t+1) (up rs x.edge):=rfl
   have h2:stF cls (t+1) rs=match best cls rs with
     | none=>rs
     | some x=>stF cls t (up rs x.edge):=rfl
   rw [h,h2]
   cases hb:best cls rs with
   | none=>simp only [hb]
   | some x=>simp only;exact stF_succ t _
def remGo (rs:Nat→Nat):List (List Int)→Nat→Nat
 | [],_=>0
 | l::ls,k=>(l.length - rs k)+remGo rs ls (k+1)
theorem remGo_zero {rs:Nat→Nat}:∀ {ls:List (List Int)} {k:Nat},remGo rs ls k=0→bestGo rs ls k=none
 | [],k,_=>rfl
 | l::ls,k,h=>by
   unfold remGo at h
   unfold bestGo
   have h1:l[rs k]?=none:=by rw [List.getElem?_eq_none_iff];omega
   rw [h1]
   exact remGo_zero (by omega)
theorem remGo_out {rs:Nat→Nat} {e:Nat}:∀ {ls:List (List Int)} {k:Nat},e<k→remGo (up rs e) ls k=remGo rs ls k
 | [],k,_=>rfl
 | l::ls,k,h=>by
   unfold remGo
   rw [remGo_out (by omega)]
   unfold up
   rw [if_neg (by omega)]
theorem remGo_up {rs:Nat→Nat} {e:Nat}:∀ {ls:List (List Int)} {k:Nat} {l:List Int},k≤e→ls[e - k]?=some l→rs e<l.length→remGo (up rs e) ls k+1=remGo rs ls k
 | [],k,l,_,h,_=>by simp at h
 | l0::ls,k,l,hk,h,hl=>by
   unfold remGo
   by_cases he:e=k
   ·subst he
    rw [remGo_out (by omega)]
    simp at h;subst h
    unfold up
    rw [if_pos rfl]
    omega
   ·have:=remGo_up (rs:=rs) (e:=e) (ls:=ls) (k:=k+1) (l:=l) (by omega) (by rw [show e - k=(e - (k+1))+1 by omega] at h;simpa using h) hl
    rw [show up rs e k=rs k by unfold up;rw [if_neg (by omega)]]
    omega
theorem rem_end {cls:List (List Int)}:∀ (t:Nat) (rs:Nat→Nat),remGo rs cls 0≤t→best cls (stF cls t rs)=none
 | 0,rs,h=>by
   show bestGo rs cls 0=none
   exact remGo_zero (by omega)
 | t+1,rs,h=>by
   unfold stF
   cases hb:best cls rs with
   | none=>simpa using hb
   | some x=>
     simp only
     obtain ⟨⟨h1,l,h2,h3⟩,_⟩:=best_some hb
     have hl:=(List.getElem?_eq_some_iff.1 h3).1
     have:=remGo_up (rs:=rs) (e:=x.edge) (ls:=cls) (k:=0) (l:=l) (Nat.zero_le _) (by simpa using h2) (by omega)
     exact rem_end t _ (by omega)
def mgW (cls:List (List Int)):List Wy:=gen cls (remGo zro cls 0) zro
def stS (cls:List (List Int)) (t:Nat):Nat→Nat:=stF cls t zro
theorem mgW_get (cls:List (List Int)) (t:Nat):(mgW cls)[t]?=best cls (stS cls t):=by
 unfold mgW stS
 rw [gen_get]
 by_cases h:t<remGo zro cls 0
 ·rw [if_pos h]
 ·rw [if_neg h,rem_end t zro (by omega)]
theorem stS_succ {cls:List (List Int)} {t:Nat} {x:Wy} (h:(mgW cls)[t]?=some x):stS cls (t+1)=up (stS cls t) x.edge:=by
 rw [mgW_get] at h
 unfold stS at h ⊢
 rw [stF_succ,h]
theorem mgW_cand {cls:List (List Int)} {t:Nat} {x:Wy} (h:(mgW cls)[t]?=some x):Cand cls (stS cls t) x:=by
 rw [mgW_get] at h
 exact (best_some h).1
structure NodeOK (cls:List (List Int)) (t:Nat) (due:Bool) (Q:List Wy):Prop where
 le:t≤(mgW cls).length
 sorted:Q.Pairwise wlt
 mem:∀ x,x∈Q↔Cand cls (stS cls t) x∧(due=true→∀ y,(mgW cls)[t - 1]?=some y→x.edge≠y.edge)
 pos:due=true→1≤t
theorem NodeOK.last {cls:List (List Int)} {t:Nat} {Q:List Wy} (h:NodeOK cls t true Q):∃ y,(mgW cls)[t - 1]?=some y:=by
 have h1:=h.le
 have h2:=h.pos rfl
 exact ⟨_,List.getElem?_eq_getElem (by omega)⟩
def wltB (x y:Wy):Bool:=decide (x.cost<y.cost)||(decide (x.cost=y.cost)&&decide (x.edge<y.edge))
theorem wltB_iff {x y:Wy}:wltB x y=true↔wlt x y:=by unfold wltB wlt;simp
def idxW (x:Wy):List Wy→Nat
 | []=>0
 | y::Q=>if wltB y x=true then idxW x Q+1 else 0
def insW (x:Wy) (Q:List Wy):List Wy:=Q.take (idxW x Q)++x::Q.drop (idxW x Q)
theorem insW_mem {x y:Wy} {Q:List Wy}:y∈insW x Q↔y=x∨y∈Q:=by
 unfold insW
 constructor
 ·intro h
  rcases List.mem_append.1 h with h|h
  ·exact .inr (List.mem_of_mem_take h)
  ·rcases List.mem_cons.1 h with h|h
   ·exact .inl h
   ·exact .inr (List.mem_of_mem_drop h)
 ·rintro (rfl|h)
  ·simp
  ·rw [← List.take_append_drop (idxW x Q) Q] at h
   rcases List.mem_append.1 h with h|h
   ·exact List.mem_append.2 (.inl h)
   ·exact List.mem_append.2 (.inr (List.mem_cons_of_mem _ h))
theorem idxW_before {x:Wy}:∀ {Q:List Wy} {j:Nat} {y:Wy},j<idxW x Q→Q[j]?=some y→wlt y x
 | [],j,y,h,_=>by simp [idxW] at h
 | z::Q,j,y,h,hy=>by
   unfold idxW at h
   split at h
   ·rename_i hz
    cases j with
    | zero=>simp at hy;subst hy;exact wltB_iff.1 hz
    | succ j=>exact idxW_before (x:=x) (Q:=Q) (j:=j) (by omega) (by simpa using hy)
   ·omega
theorem idxW_at {x:Wy}:∀ {Q:List Wy} {y:Wy},Q[idxW x Q]?=some y→¬ wlt y x
 | [],y,h=>by simp at h
 | z::Q,y,h=>by
   unfold idxW at h
   split at h
   ·exact idxW_at (by simpa using h)
   ·rename_i hz
    simp at h;subst h
    exact fun e=>hz (wltB_iff.2 e)
theorem idxW_after {x:Wy} {Q:List Wy} (hs:Q.Pairwise wlt) {j:Nat} {y:Wy} (hj:idxW x Q≤j) (hy:Q[j]?=some y):¬ wlt y x:=by
 have hjl:=(List.getElem?_eq_some_iff.1 hy).1
 have h1:Q[idxW x Q]?=some Q[idxW x Q]:=List.getElem?_eq_getElem (by omega)
 have h2:=idxW_at h1
 by_cases he:j=idxW x Q
 ·subst he
  rw [h1] at hy;cases hy
  exact h2
 ·have h3:=List.pairwise_iff_getElem.1 hs (idxW x Q) j (by omega) hjl (by omega)
  have h4:Q[j]=y:=(List.getElem?_eq_some_iff.1 hy).2
  rw [h4] at h3
  exact fun e=>h2 (h3.trans e)
theorem wlt.tri {x y:Wy} (h:x.edge≠y.edge) (hn:¬ wlt y x):wlt x y:=by unfold wlt at *;omega
theorem insW_sorted {x:Wy} {Q:List Wy} (hs:Q.Pairwise wlt) (hn:∀ y∈Q,y.edge≠x.edge):(insW x Q).Pairwise wlt:=by
 unfold insW
 rw [List.pairwise_append]
 refine ⟨List.Pairwise.sublist (List.take_sublist _ _) hs,?_,?_⟩
 ·rw [List.pairwise_cons]
  refine ⟨fun y hy=>?_,List.Pairwise.sublist (List.drop_sublist _ _) hs⟩
  obtain ⟨j,hj⟩:=List.mem_iff_getElem?.1 hy
  rw [List.getElem?_drop] at hj
  exact wlt.tri (fun e=>hn y (List.mem_of_mem_drop hy) e.symm) (idxW_after hs (by omega) hj)
 ·intro a ha b hb
  obtain ⟨i,hi⟩:=List.mem_iff_getElem?.1 ha
  have hil:=(List.getElem?_eq_some_iff.1 hi).1
  rw [List.length_take] at hil
  rw [List.getElem?_take_of_lt (by omega)] at hi
  have h1:=idxW_before (x:=x) (Q:=Q) (j:=i) (by omega) hi
  rcases List.mem_cons.1 hb with rfl|hb
  ·exact h1
  ·obtain ⟨j,hj⟩:=List.mem_iff_getElem?.1 hb
   rw [List.getElem?_drop] at hj
   exact h1.trans (wlt.tri (fun e=>hn b (List.mem_of_mem_drop hb) e.symm) (idxW_after hs (by omega) hj))
theorem NodeOK.skip {cls:List (List Int)} {t:Nat} {Q:List Wy} {y:Wy} (h:NodeOK cls t true Q) (hy:(mgW cls)[t - 1]?=some y) {l:List Int} (hl:cls[y.edge]?=some l) (hn:l[y.rank+1]?=none):NodeOK cls t false Q:=by
 have h2:=h.pos rfl
 have hst:=stS_succ hy
 rw [show t - 1+1=t by omega] at hst
 have hyr:=(mgW_cand hy).1
 refine ⟨h.le,h.sorted,fun x=>?_,fun e=>by cases e⟩
 rw [h.mem x]
 constructor
 ·rintro ⟨h3,h4⟩
  exact ⟨h3,fun e=>by cases e⟩
 ·rintro ⟨h3,_⟩
  refine ⟨h3,fun _ z hz=>?_⟩
  rw [hy] at hz;cases hz
  intro e
  obtain ⟨q1,m,q2,q3⟩:=h3
  rw [hst] at q1
  unfold up at q1
  rw [if_pos e,← hyr] at q1
  rw [e,hl] at q2;cases q2
  rw [q1,hn] at q3
  cases q3
theorem NodeOK.push {cls:List (List Int)} {t:Nat} {Q:List Wy} {y:Wy} (h:NodeOK cls t true Q) (hy:(mgW cls)[t - 1]?=some y) {l:List Int} (hl:cls[y.edge]?=some l) {c:Int} (hn:l[y.rank+1]?=some c):NodeOK cls t false (insW ⟨c,y.edge,y.rank+1⟩ Q):=by
 have h2:=h.pos rfl
 have hst:=stS_succ hy
 rw [show t - 1+1=t by omega] at hst
 have hyr:=(mgW_cand hy).1
 have hedge:∀ x∈Q,x.edge≠y.edge:=fun x hx=>((h.mem x).1 hx).2 rfl y hy
 have hnew:Cand cls (stS cls t) ⟨c,y.edge,y.rank+1⟩:=by
  refine ⟨?_,l,hl,hn⟩
  rw [hst]
  unfold up
  rw [if_pos rfl,← hyr]
 refine ⟨h.le,insW_sorted h.sorted hedge,fun x=>?_,fun e=>by cases e⟩
 rw [insW_mem,h.mem x]
 constructor
 ·rintro (rfl|⟨h3,_⟩)
  ·exact ⟨hnew,fun e=>by cases e⟩
  ·exact ⟨h3,fun e=>by cases e⟩
 ·rintro ⟨h3,_⟩
  by_cases e:x.edge=y.edge
  ·exact .inl (Cand.eq h3 hnew e)
  ·refine .inr ⟨h3,fun _ z hz=>?_⟩
   rw [hy] at hz;cases hz
   exact e
end Go.Abs.Wall
namespace Go.Abs.Wall.Lst
open Go Go.Abs Go.Proofs Go.Abs.Wall
def encWy (w:Wy):List AV:=[.int .i64 w.cost,.int .i64 w.edge,.int .i64 w.rank]
theorem VLe.oslc {b off n c k:Nat}:VLe (.oslc b off n c k) (.osl b off n k):=by
 intro v u h
 simp only [Rep] at h ⊢
 obtain ⟨p,h1,h2,h3,h4,h5,h6,h7,h8⟩:=h
 exact ⟨p,c,off,h1,h2,h3,h4,h5,h6,h7,fun _=>rfl,h8⟩
def OpenR (Q:List Wy) (ov:AV) (oh:Heap):Prop:=(Q=[]∧ov=.nilS∧oh=[])∨∃ b pre,ov=.osl b pre.length Q.length 3∧oh=[(b,.vec (pre++(Q.map encWy).flatten))]
def ndC (fv ov:AV) (due:Bool):List AV:=[fv,ov,.fn 166 [],.bool due]
end Go.Abs.Wall.Lst
