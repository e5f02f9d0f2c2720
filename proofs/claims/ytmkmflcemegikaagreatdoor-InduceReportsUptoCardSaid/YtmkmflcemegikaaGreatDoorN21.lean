/- What is proved: small laws for the walks of this seat, and contracts of its functions. No condition but those each theorem names. -/
import Derived.Test.YtmkmflcemegikaaGreatDoorN19
import Derived.Test.YtmkmflcemegikaaGreatDoorN11
import Derived.Test.YtmkmflcemegikaaGreatDoorN20
set_option maxRecDepth 100000
set_option maxHeartbeats 2000000
set_option linter.unusedVariables false
set_option linter.unusedSimpArgs false
namespace Go.Abs.Wall
open Go Go.Abs Go.Proofs
structure Lnk where
 entry:Int
 to:Int
deriving DecidableEq
def lnkOf (x:Edg):Lnk:=⟨x.word.form.entry,x.to⟩
def mkL (want:Int→Bool) (a:Nat):List Lnk→List Bool→List Bool
 | [],l=>l
 | x::t,l=>mkL want a t (if (l.getD a false&&want x.entry)=true then l.set x.to.toNat true else l)
def rdGo (want:Int→Bool):List (List Lnk)→Nat→List Bool→List Bool
 | [],_,l=>l
 | es::g,i,l=>rdGo want g (i+1) (mkL want i es l)
def rdL (want:Int→Bool) (g:List (List Lnk)):List Bool:=rdGo want g 0 ((List.replicate (g.length+1) false).set 0 true)
def rdM (want:Int→Bool) (g:List (List Lnk)):Bool:=(rdL want g).getD g.length false
theorem mkL_len (want:Int→Bool) (a:Nat):∀ (es:List Lnk) (l:List Bool),(mkL want a es l).length=l.length
 | [],l=>rfl
 | x::t,l=>by
   unfold mkL
   rw [mkL_len want a t]
   split<;>simp
def LOK (g:List (List Lnk)):Prop:=∀ (i:Nat) es,g[i]?=some es→∀ x∈es,(i:Int)<x.to∧x.to≤g.length
inductive Rch (g:List (List Lnk)) (want:Int→Bool):Nat→Prop
 | zero:Rch g want 0
 | step {i:Nat} {es:List Lnk} {x:Lnk}:Rch g want i→g[i]?=some es→x∈es→want x.entry=true→Rch g want x.to.toNat
theorem gdSet {l:List Bool} {i j:Nat}:(l.set i true).getD j false=(decide (i=j∧j<l.length)||l.getD j false):=by
 rw [List.getD_eq_getElem?_getD,List.getD_eq_getElem?_getD,List.getElem?_set]
 by_cases h:i=j
 ·subst h
  by_cases h2:i<l.length
  ·simp [h2]
  ·simp [h2]
 ·simp [h]
theorem mkL_sound {g:List (List Lnk)} {want:Int→Bool} {a:Nat} {all:List Lnk} (ha:g[a]?=some all):∀ (es:List Lnk) (l:List Bool),(∀ x∈es,x∈all) →
  (∀ j,l.getD j false=true→Rch g want j)→∀ j,(mkL want a es l).getD j false=true→Rch g want j
 | [],l,_,h,j,hj=>h j hj
 | x::t,l,hs,h,j,hj=>by
   unfold mkL at hj
   refine mkL_sound ha t _ (fun y hy=>hs y (List.mem_cons_of_mem _ hy)) ?_ j hj
   intro k hk
   split at hk
   ·rename_i hc
    rw [Bool.and_eq_true] at hc
    rw [gdSet,Bool.or_eq_true,decide_eq_true_eq] at hk
    rcases hk with ⟨rfl,_⟩|hk
    ·exact .step (h a hc.1) ha (hs x (List.mem_cons_self ..)) hc.2
    ·exact h k hk
   ·exact h k hk
theorem rdGo_sound {g:List (List Lnk)} {want:Int→Bool}:∀ (d i:Nat) (l:List Bool),i+d=g.length →
  (∀ j,l.getD j false=true→Rch g want j)→∀ j,(rdGo want (g.drop i) i l).getD j false=true→Rch g want j
 | 0,i,l,hi,h,j,hj=>by
   rw [drop_nil (by omega)] at hj
   exact h j hj
 | d+1,i,l,hi,h,j,hj=>by
   obtain ⟨es,hes⟩:=get_lt (l:=g) (i:=i) (by omega)
   rw [drop_cons hes,rdGo] at hj
   exact rdGo_sound d (i+1) _ (by omega) (mkL_sound hes es l (fun _ h=>h) h) j hj
theorem mkL_keep {want:Int→Bool} {a:Nat}:∀ (es:List Lnk) (l:List Bool) (j:Nat),l.getD j false=true→(mkL want a es l).getD j false=true
 | [],l,j,h=>h
 | x::t,l,j,h=>by
   unfold mkL
   refine mkL_keep t _ j ?_
   split
   ·rw [gdSet,h,Bool.or_true]
   ·exact h
theorem mkL_all {want:Int→Bool} {a:Nat}:∀ (es:List Lnk) (l:List Bool),l.getD a false=true→∀ x∈es,want x.entry=true→x.to.toNat<l.length→(mkL want a es l).getD x.to.toNat false=true
 | [],l,h,x,hx,_,_=>by cases hx
 | y::t,l,h,x,hx,hw,hl=>by
   unfold mkL
   rcases List.mem_cons.1 hx with rfl|hx
   ·refine mkL_keep t _ _ ?_
    rw [if_pos (by rw [h,hw];rfl),gdSet]
    simp [hl]
   ·refine mkL_all t _ ?_ x hx hw ?_
    ·split
     ·rw [gdSet,h,Bool.or_true]
     ·exact h
    ·split
     ·rw [List.length_set];exact hl
     ·exact hl
theorem rdGo_full {g:List (List Lnk)} {want:Int→Bool} (hg:LOK g):∀ (d i:Nat) (l:List Bool),i+d=g.length→l.length=g.length+1→l.getD 0 false=true →
  (∀ (i':Nat) es x,i'<i→Rch g want i'→g[i']?=some es→x∈es→want x.entry=true→l.getD x.to.toNat false=true) →
  ∀ j,Rch g want j→(rdGo want (g.drop i) i l).getD j false=true
 | 0,i,l,hi,hl,h0,h,j,hj=>by
   rw [drop_nil (by omega)]
   cases hj with
   | zero=>exact h0
   | step h1 h2 h3 h4=>exact h _ _ _ (by have:=(List.getElem?_eq_some_iff.1 h2).1;omega) h1 h2 h3 h4
 | d+1,i,l,hi,hl,h0,h,j,hj=>by
   obtain ⟨es,hes⟩:=get_lt (l:=g) (i:=i) (by omega)
   rw [drop_cons hes,rdGo]
   refine rdGo_full hg d (i+1) _ (by omega) (by rw [mkL_len];exact hl) (mkL_keep es l 0 h0) ?_ j hj
   intro i' es' x hi' hr he hx hw
   by_cases hlt:i'<i
   ·exact mkL_keep es l _ (h i' es' x hlt hr he hx hw)
   ·have:i'=i:=by omega
    subst this
    rw [hes] at he
    cases he
    have hto:=hg i' es hes x hx
    refine mkL_all es l ?_ x hx hw (by omega)
    have hri:=hr
    generalize hk:i'=k at hr
    cases hr with
    | zero=>subst hk;exact h0
    | step h1 h2 h3 h4=>
      rename_i a esA y
      have:=hg a esA h2 y h3
      exact h a esA y (by omega) h1 h2 h3 h4
theorem rdM_iff {g:List (List Lnk)} {want:Int→Bool} (hg:LOK g):rdM want g=true↔Rch g want g.length:=by
 have h0:((List.replicate (g.length+1) false).set 0 true).getD 0 false=true:=by rw [gdSet];simp
 constructor
 ·intro h
  refine rdGo_sound g.length 0 _ (by omega) ?_ _ h
  intro j hj
  rw [gdSet,Bool.or_eq_true,decide_eq_true_eq] at hj
  rcases hj with ⟨rfl,_⟩|hj
  ·exact .zero
  ·rw [List.getD_eq_getElem?_getD,List.getElem?_replicate] at hj
   split at hj<;>cases hj
 ·intro h
  exact rdGo_full hg g.length 0 _ (by omega) (by simp) h0 (fun i' es x hi'=>absurd hi' (by omega)) _ h
theorem Rch.mono {g g':List (List Lnk)} {w w':Int→Bool} (h:∀ (i:Nat) es x,g[i]?=some es→x∈es→w x.entry=true→∃ es',g'[i]?=some es'∧∃ y∈es',y.to=x.to∧w' y.entry=true) {j:Nat} (hr:Rch g w j):Rch g' w' j:=by
 induction hr with
 | zero=>exact .zero
 | step h1 h2 h3 h4 ih=>
   obtain ⟨es',e1,y,e2,e3,e4⟩:=h _ _ _ h2 h3 h4
   rw [← e3]
   exact .step ih e1 e2 e4
def cpt {α:Type} [DecidableEq α]:List α→List α
 | []=>[]
 | [x]=>[x]
 | x::y::r=>if x=y then cpt (y::r) else x::cpt (y::r)
theorem cpt_mem {α:Type} [DecidableEq α] {x:α}:∀ {l:List α},x∈cpt l↔x∈l
 | []=>by simp [cpt]
 | [y]=>by simp [cpt]
 | y::z::r=>by
   unfold cpt
   have ih:=cpt_mem (x:=x) (l:=z::r)
   split
   ·rename_i h
    subst h
    rw [ih]
    simp
   ·rw [List.mem_cons,ih,List.mem_cons (a:=x) (b:=y)]
theorem LOK.cpt {g:List (List Lnk)} (hg:LOK g):LOK (g.map cpt):=by
 intro i es hes x hx
 rw [List.getElem?_map] at hes
 obtain ⟨fs,hf,rfl⟩:=Option.map_eq_some_iff.1 hes
 rw [List.length_map]
 exact hg i fs hf x (cpt_mem.1 hx)
theorem rdM_cpt {g:List (List Lnk)} {w:Int→Bool} (hg:LOK g):rdM w (g.map cpt)=rdM w g:=by
 rw [Bool.eq_iff_iff,rdM_iff hg.cpt,rdM_iff hg,List.length_map]
 constructor
 ·refine Rch.mono fun i es x h1 h2 h3=>?_
  rw [List.getElem?_map] at h1
  obtain ⟨fs,hf,rfl⟩:=Option.map_eq_some_iff.1 h1
  exact ⟨fs,hf,x,cpt_mem.1 h2,rfl,h3⟩
 ·refine Rch.mono fun i es x h1 h2 h3=>?_
  exact ⟨_,by rw [List.getElem?_map,h1];rfl,x,cpt_mem.2 h2,rfl,h3⟩
end Go.Abs.Wall
namespace Go.Abs.Wall
open Go Go.Abs Go.Proofs
abbrev Cor:=List (List (List Lnk))
def allB (C:Cor) (w:Int→Bool):Bool:=C.all (rdM w)
def but (w:Int→Bool) (e:Int):Int→Bool:=fun x=>!decide (x=e)&&w x
def everyW:Int→Bool:=fun _=>true
def needsF (C:Cor) (w:Int→Bool) (e:Int) (i:Nat):Bool:=rdM w (C.getD i [])&&!rdM (but w e) (C.getD i [])
def needsM (C:Cor) (w:Int→Bool) (e:Int):List Int:=((List.range C.length).filter (needsF C w e)).map fun i:Nat=>(i:Int)
structure Nd where
 entry:Int
 lines:List Int
deriving DecidableEq
def indGo (C:Cor):Nat→(Int→Bool)→(Int→Bool)
 | 0,w=>w
 | e+1,w=>indGo C e (if allB C (but w e)=true then but w e else w)
def indW (C:Cor) (N:Nat):Int→Bool:=indGo C N everyW
def keepF (w:Int→Bool) (i:Nat):Bool:=w (i:Int)
def keepL (N:Nat) (w:Int→Bool):List Int:=((List.range N).filter (keepF w)).map fun i:Nat=>(i:Int)
def ndOf (C:Cor) (w:Int→Bool) (e:Int):Nd:=⟨e,needsM C w e⟩
def indL (C:Cor) (N:Nat):List Nd:=(keepL N (indW C N)).map (ndOf C (indW C N))
structure COK (N:Nat) (C:Cor):Prop where
 links:∀ g∈C,LOK g
 ents:∀ g∈C,∀ es∈g,∀ x∈es,0≤x.entry∧x.entry<N
end Go.Abs.Wall
namespace Go.Abs.Wall
open Go Go.Abs Go.Proofs
end Go.Abs.Wall
namespace Go.Abs.Wall
open Go Go.Abs Go.Proofs
end Go.Abs.Wall
namespace Go.Abs.Wall.Lst
end Go.Abs.Wall.Lst
