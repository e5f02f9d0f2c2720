/- What is proved: small laws for the walks of this seat, and contracts of its functions. No condition but those each theorem names. -/
import Derived.Test.YthkokengobdgcaaGreatN15
set_option maxRecDepth 100000
set_option maxHeartbeats 2000000
set_option linter.unusedVariables false
set_option linter.unusedSimpArgs false
namespace Go.Abs.Wall.Lst
open Go Go.Abs Go.Proofs Go.Abs.Wall
end Go.Abs.Wall.Lst
namespace Go.Abs.Wall.Lst
open Go Go.Abs Go.Proofs Go.Abs.Wall
def sumC (p:List Edg):Int:=(p.map (·.cost)).sum
def clsS (ls:List (List (List Edg))):List (List Int):=ls.map fun l=>l.map sumC
def curL (ls:List (List (List Edg))) (rs:Nat→Nat):List (List (List Edg)):=ls.mapIdx fun k l=>l.drop (rs k)
theorem curL_len (ls:List (List (List Edg))) (rs:Nat→Nat):(curL ls rs).length=ls.length:=by simp [curL]
theorem curL_get {ls:List (List (List Edg))} {rs:Nat→Nat} {k:Nat} {l:List (List Edg)} (h:ls[k]?=some l):(curL ls rs)[k]?=some (l.drop (rs k)):=by
 unfold curL
 rw [List.getElem?_mapIdx,h];rfl
def BestTo (cur:List (List (List Edg))) (i:Nat) (b:Int):Prop:=
 (b = -1∧∀ j l,j<i→cur[j]?=some l→l=[]) ∨
 ∃ (k:Nat) (p:List Edg) (r:List (List Edg)),b=(k:Int)∧k<i∧cur[k]?=some (p::r)∧∀ (j:Nat) q s,j<i→cur[j]?=some (q::s)→sumC p<sumC q∨(sumC p=sumC q∧k≤j)
theorem BestTo.lt {cur:List (List (List Edg))} {i:Nat} {b:Int} {n:Nat} (h:BestTo cur i b) (hi:i≤n):-1≤b∧b<n:=by
 rcases h with ⟨rfl,_⟩|⟨k,p,r,rfl,hk,_⟩<;>omega
theorem BestTo.full {cur:List (List (List Edg))} {i:Nat} {b:Int} {lb:List (List Edg)} (h:BestTo cur i b) (hb:0≤b) (hlb:cur[b.toNat]?=some lb):0<lb.length:=by
 rcases h with ⟨rfl,_⟩|⟨k,p,r,rfl,hk,hc,_⟩
 ·omega
 ·rw [Int.toNat_natCast,hc] at hlb
  cases hlb
  simp
theorem BestTo.step {cur:List (List (List Edg))} {i:Nat} {b:Int} {li lb:List (List Edg)} (h:BestTo cur i b) (hli:cur[i]?=some li) (hlb:cur[b.toNat]?=some lb) :
  (0<li.length→(b<0∨sumC (li.getD 0 [])<sumC (lb.getD 0 []))→BestTo cur (i+1) i)∧(¬ (0<li.length∧(b<0∨sumC (li.getD 0 [])<sumC (lb.getD 0 [])))→BestTo cur (i+1) b):=by
 have cases1:∀ (j:Nat),j<i+1→j<i∨j=i:=fun j hj=>by omega
 constructor
 ·intro h1 h2
  cases li with
  | nil=>simp at h1
  | cons p r=>
    refine .inr ⟨i,p,r,rfl,by omega,hli,fun j q s hj hq=>?_⟩
    rcases cases1 j hj with hj|rfl
    ·left
     rcases h with ⟨rfl,he⟩|⟨k,p',r',rfl,hk,hc,hm⟩
     ·have:=he j _ hj hq
      cases this
     ·rw [Int.toNat_natCast,hc] at hlb
      cases hlb
      have h3:sumC p<sumC p':=by
       rcases h2 with h2|h2
       ·omega
       ·simpa using h2
      rcases hm j q s hj hq with e|⟨e,_⟩<;>omega
    ·rw [hli] at hq
     cases hq
     exact .inr ⟨rfl,Nat.le_refl _⟩
 ·intro hn
  rcases h with ⟨rfl,he⟩|⟨k,p,r,rfl,hk,hc,hm⟩
  ·refine .inl ⟨rfl,fun j l hj hl=>?_⟩
   rcases cases1 j hj with hj|rfl
   ·exact he j l hj hl
   ·rw [hli] at hl
    cases hl
    refine Classical.byContradiction fun hne=>hn ⟨List.length_pos_iff.2 hne,.inl (by omega)⟩
  ·refine .inr ⟨k,p,r,rfl,by omega,hc,fun j q s hj hq=>?_⟩
   rcases cases1 j hj with hj|rfl
   ·exact hm j q s hj hq
   ·rw [hli] at hq
    cases hq
    rw [Int.toNat_natCast,hc] at hlb
    cases hlb
    have:¬ sumC q<sumC p:=fun e=>hn ⟨by simp,.inr (by simpa using e)⟩
    by_cases e:sumC p<sumC q
    ·exact .inl e
    ·exact .inr ⟨by omega,by omega⟩
theorem BestTo.end {ls:List (List (List Edg))} {rs:Nat→Nat} {b:Int} (h:BestTo (curL ls rs) ls.length b) :
  (b = -1∧best (clsS ls) rs=none)∨∃ (k:Nat) (p:List Edg) (r:List (List Edg)) (l:List (List Edg)),b=(k:Int)∧ls[k]?=some l∧(curL ls rs)[k]?=some (p::r)∧l.drop (rs k)=p::r∧best (clsS ls) rs=some ⟨sumC p,k,rs k⟩:=by
 have hcand:∀ x,Cand (clsS ls) rs x→∃ q s,(curL ls rs)[x.edge]?=some (q::s)∧sumC q=x.cost:=by
  rintro x ⟨h1,l,h2,h3⟩
  unfold clsS at h2
  rw [List.getElem?_map] at h2
  cases hl:ls[x.edge]? with
  | none=>rw [hl] at h2;cases h2
  | some l0=>
    rw [hl] at h2;cases h2
    rw [List.getElem?_map,h1] at h3
    cases hq:l0[rs x.edge]? with
    | none=>rw [hq] at h3;cases h3
    | some q=>
      rw [hq] at h3
      refine ⟨q,l0.drop (rs x.edge+1),?_,by simpa using h3⟩
      rw [curL_get hl,drop_cons hq]
 rcases h with ⟨rfl,he⟩|⟨k,p,r,rfl,hk,hc,hm⟩
 ·left
  refine ⟨rfl,best_empty fun x hx=>?_⟩
  obtain ⟨q,s,h1,_⟩:=hcand x hx
  have hlt:=(List.getElem?_eq_some_iff.1 h1).1
  rw [curL_len] at hlt
  have:=he x.edge _ hlt h1
  cases this
 ·right
  obtain ⟨l,hl⟩:=get_lt (l:=ls) hk
  have hd:l.drop (rs k)=p::r:=by
   have:=curL_get (rs:=rs) hl
   rw [hc] at this
   exact (Option.some.inj this).symm
  have hp:l[rs k]?=some p:=by
   have:=congrArg (fun z=>z[0]?) hd
   simpa [List.getElem?_drop] using this
  refine ⟨k,p,r,l,rfl,hl,hc,hd,best_of ⟨rfl,l.map sumC,?_,?_⟩ fun y hy=>?_⟩
  ·unfold clsS;rw [List.getElem?_map,hl];rfl
  ·show (l.map sumC)[rs k]?=some (sumC p)
   rw [List.getElem?_map,hp];rfl
  ·obtain ⟨q,s,h1,h2⟩:=hcand y hy
   have hlt:=(List.getElem?_eq_some_iff.1 h1).1
   rw [curL_len] at hlt
   rcases hm y.edge q s hlt h1 with e|⟨e1,e2⟩
   ·exact .inr (.inl (by show sumC p<y.cost;omega))
   ·by_cases e3:y.edge=k
    ·left
     refine Cand.eq hy ⟨rfl,l.map sumC,?_,?_⟩ e3
     ·unfold clsS;rw [List.getElem?_map,hl];rfl
     ·show (l.map sumC)[rs k]?=some (sumC p)
      rw [List.getElem?_map,hp];rfl
    ·exact .inr (.inr ⟨by show sumC p=y.cost;omega,by show k<y.edge;omega⟩)
end Go.Abs.Wall.Lst
