/- What is proved: small laws for the walks of this seat, and contracts of its functions. No condition but those each theorem names. -/
import Derived.Test.YtmkmflcemegikaaGreatN20
import Derived.Test.YtmkmflcemegikaaGreatN12
import Derived.Test.YtmkmflcemegikaaGreatN14
set_option maxRecDepth 100000
set_option maxHeartbeats 2000000
set_option linter.unusedVariables false
set_option linter.unusedSimpArgs false
namespace Go.Abs.Wall.Lst
open Go Go.Abs Go.Proofs Go.Abs.Wall
inductive RP (g:List (List Edg)) (want:Nat→Nat→Bool):Nat→Prop
 | zero:RP g want 0
 | step {i k:Nat} {es:List Edg} {x:Edg}:RP g want i→g[i]?=some es→es[k]?=some x→want i k=true→RP g want x.to.toNat
theorem getD_set {l:List Bool} {a j:Nat}:(l.set a true).getD j false=true↔l.getD j false=true∨(a=j∧j<l.length):=by
 rw [List.getD_eq_getElem?_getD,List.getD_eq_getElem?_getD,List.getElem?_set]
 by_cases h:a=j
 ·subst h
  by_cases h2:a<l.length
  ·simp [h2]
  ·simp [h2]
 ·simp [h]
theorem markK_iff {want:Nat→Nat→Bool} {a j:Nat}:∀ {es:List Edg} {k:Nat} {l:List Bool},(∀ x∈es,a<x.to.toNat) →
  ((markK want a es k l).getD j false=true↔l.getD j false=true∨(l.getD a false=true∧j<l.length∧∃ m x,es[m]?=some x∧want a (k+m)=true∧x.to.toNat=j))
 | [],k,l,_=>by
   unfold markK
   constructor
   ·exact .inl
   ·rintro (h|⟨_,_,m,x,h,_⟩)
    ·exact h
    ·simp at h
 | x::t,k,l,hx=>by
   have hxa:=hx x (by simp)
   unfold markK
   rw [markK_iff fun y hy=>hx y (by simp [hy])]
   have ha:∀ {b:Bool},(if b=true then l.set x.to.toNat true else l).getD a false=l.getD a false:=by
    intro b
    split
    ·rw [List.getD_eq_getElem?_getD,List.getD_eq_getElem?_getD,List.getElem?_set_ne (by omega)]
    ·rfl
   have hlen:∀ {b:Bool},(if b=true then l.set x.to.toNat true else l).length=l.length:=by
    intro b
    split
    ·rw [List.length_set]
    ·rfl
   rw [ha,hlen]
   constructor
   ·rintro (h|⟨h1,h2,m,y,h3,h4,h5⟩)
    ·split at h
     ·rename_i hb
      rw [Bool.and_eq_true] at hb
      rw [getD_set] at h
      rcases h with h|⟨h,h2⟩
      ·exact .inl h
      ·exact .inr ⟨hb.1,h2,0,x,rfl,hb.2,h⟩
     ·exact .inl h
    ·exact .inr ⟨h1,h2,m+1,y,by simpa using h3,by rwa [show k+(m+1)=k+1+m by omega],h5⟩
   ·rintro (h|⟨h1,h2,m,y,h3,h4,h5⟩)
    ·left
     split
     ·rw [getD_set];exact .inl h
     ·exact h
    ·cases m with
     | zero=>
       left
       simp at h3
       subst h3
       rw [if_pos (by rw [h1];simpa using h4),getD_set]
       exact .inr ⟨h5,h2⟩
     | succ m=>exact .inr ⟨h1,h2,m,y,by simpa using h3,by rwa [show k+1+m=k+(m+1) by omega],h5⟩
def RI (g:List (List Edg)) (want:Nat→Nat→Bool) (i j:Nat):Prop:=j=0∨∃ a k es x,a<i∧RP g want a∧g[a]?=some es∧es[k]?=some x∧want a k=true∧x.to.toNat=j
theorem RI.rp {g:List (List Edg)} {want:Nat→Nat→Bool} {i j:Nat} (h:RI g want i j):RP g want j:=by
 rcases h with rfl|⟨a,k,es,x,_,h1,h2,h3,h4,rfl⟩
 ·exact .zero
 ·exact .step h1 h2 h3 h4
theorem RP.ri {g:List (List Edg)} (hg:GOK g) {want:Nat→Nat→Bool} {i j:Nat} (hj:j≤i) (h:RP g want j):RI g want i j:=by
 cases h with
 | zero=>exact .inl rfl
 | @step a k es x h1 h2 h3 h4=>
   have:=(hg.edge a es h2 x (List.mem_of_getElem? h3)).lo
   exact .inr ⟨a,k,es,x,by omega,h1,h2,h3,h4,rfl⟩
theorem reachGo_iff {g:List (List Edg)} (hg:GOK g) {want:Nat→Nat→Bool}:∀ (d i:Nat) (l:List Bool),i+d=g.length→l.length=g.length+1→(∀ j,j≤g.length→(l.getD j false=true↔RI g want i j)) →
  ∀ j,j≤g.length→((reachGo want (g.drop i) i l).getD j false=true↔RP g want j)
 | 0,i,l,hi,hl,h,j,hj=>by
   rw [List.drop_of_length_le (by omega)]
   unfold reachGo
   rw [h j hj]
   exact ⟨RI.rp,RP.ri hg (by omega)⟩
 | d+1,i,l,hi,hl,h,j,hj=>by
   obtain ⟨es,hes⟩:=get_lt (l:=g) (i:=i) (by omega)
   rw [drop_cons hes]
   unfold reachGo
   refine reachGo_iff hg d (i+1) _ (by omega) (by rw [markK_len];exact hl) (fun j hj=>?_) j hj
   rw [markK_iff fun x hx=>by have:=(hg.edge i es hes x hx).lo;omega]
   rw [h j hj,h i (by omega)]
   constructor
   ·rintro (h1|⟨h1,h2,m,x,h3,h4,h5⟩)
    ·rcases h1 with h1|⟨a,k,es',x,ha,h1⟩
     ·exact .inl h1
     ·exact .inr ⟨a,k,es',x,by omega,h1⟩
    ·exact .inr ⟨i,m,es,x,by omega,h1.rp,hes,h3,by rwa [Nat.zero_add] at h4,h5⟩
   ·rintro (h1|⟨a,k,es',x,ha,h1,h2,h3,h4,h5⟩)
    ·exact .inl (.inl h1)
    ·by_cases hai:a=i
     ·subst hai
      rw [hes] at h2
      cases h2
      exact .inr ⟨RP.ri hg (Nat.le_refl _) h1,by omega,k,x,h3,by rwa [Nat.zero_add],h5⟩
     ·exact .inl (.inr ⟨a,k,es',x,by omega,h1,h2,h3,h4,h5⟩)
theorem reachM_iff {g:List (List Edg)} (hg:GOK g) (want:Nat→Nat→Bool) {j:Nat} (hj:j≤g.length):(reachM g want).getD j false=true↔RP g want j:=by
 unfold reachM
 have:=reachGo_iff hg (want:=want) g.length 0 ((List.replicate (g.length+1) false).set 0 true) (by omega) (by simp) (fun j hj=>?_) j hj
 ·simpa using this
 ·rw [getD_set,List.getD_eq_getElem?_getD,List.getElem?_replicate]
  constructor
  ·rintro (h|⟨h,_⟩)
   ·split at h<;>simp at h
   ·exact .inl h.symm
  ·rintro (h|⟨a,_,_,_,h,_⟩)
   ·exact .inr ⟨h.symm,by simp;omega⟩
   ·omega
end Go.Abs.Wall.Lst
namespace Go.Abs.Wall.Lst
open Go Go.Abs Go.Proofs Go.Abs.Wall
theorem path_rp {g:List (List Edg)} {want:Nat→Nat→Bool}:∀ {l:List Edg} {a:Nat},RP g want a→PathG g a l→(∀ (b:Nat) es (m:Nat) y,g[b]?=some es→es[m]?=some y→y∈l→want b m=true)→RP g want g.length
 | [],a,h,hp,_=>by
   have hp:a=g.length:=hp
   rw [← hp];exact h
 | x::l,a,h,⟨es,hes,hx,hp⟩,hw=>by
   obtain ⟨m,hm⟩:=List.mem_iff_getElem?.1 hx
   exact path_rp (.step h hes hm (hw a es m x hes hm (by simp))) hp fun b es m y h1 h2 h3=>hw b es m y h1 h2 (by simp [h3])
theorem rp_path {g:List (List Edg)} {want:Nat→Nat→Bool} {j:Nat} (h:RP g want j):∀ l,PathG g j l→∃ l0,PathG g 0 (l0++l)∧∀ y∈l0,∃ (b:Nat) (es:List Edg) (m:Nat),g[b]?=some es∧es[m]?=some y∧want b m=true:=by
 induction h with
 | zero=>intro l hl;exact ⟨[],hl,fun y hy=>by cases hy⟩
 | @step i k es x h1 h2 h3 h4 ih=>
   intro l hl
   obtain ⟨l0,h5,h6⟩:=ih (x::l) ⟨es,h2,List.mem_of_getElem? h3,hl⟩
   refine ⟨l0++[x],by rw [List.append_assoc];exact h5,fun y hy=>?_⟩
   rcases List.mem_append.1 hy with hy|hy
   ·exact h6 y hy
   ·rw [List.mem_singleton] at hy
    subst hy
    exact ⟨i,es,k,h2,h3,h4⟩
end Go.Abs.Wall.Lst
