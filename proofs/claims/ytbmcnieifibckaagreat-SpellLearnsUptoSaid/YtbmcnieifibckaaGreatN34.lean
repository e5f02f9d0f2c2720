/- What is proved: small laws for the walks of this seat, and contracts of its functions. No condition but those each theorem names. -/
import Derived.Test.YtbmcnieifibckaaGreatN20
import Derived.Test.YtbmcnieifibckaaGreatN12
import Derived.Test.YtbmcnieifibckaaGreatN14
import Derived.Test.YtbmcnieifibckaaGreatN10
import Derived.Test.YtbmcnieifibckaaGreatN9
set_option maxRecDepth 100000
set_option maxHeartbeats 2000000
set_option linter.unusedVariables false
set_option linter.unusedSimpArgs false
namespace Go.Abs.Wall.Lst
open Go Go.Abs Go.Proofs Go.Abs.Wall
inductive RP (g:List (List Edg)) (want:Nat→Nat→Bool):Nat→Prop
 | zero:RP g want 0
 | step {i k:Nat} {es:List Edg} {x:Edg}:RP g want i→g[i]?=some es→es[k]?=some x→want i k=true→RP g want x.to.toNat
theorem getD_set {l:List Bool} {a j:Nat}:(l.set a true).getD j false=true↔l.getD j false=true∨(a=j∧j<l.length):=by
 rw [List.getD_eq_getElem?_getD,List.getD_eq_getElem?_getD,List.getElem?_set]
 by_cases h:a=j
 ·subst h
  by_cases h2:a<l.length
  ·simp [h2]
  ·simp [h2]
 ·simp [h]
end Go.Abs.Wall.Lst
namespace Go.Abs.Wall.Lst
open Go Go.Abs Go.Proofs Go.Abs.Wall
structure GP (g:List (List Edg)):Prop where
 ok:GOK g
 rows:Rows g
 frm:∀ (i:Nat) es,g[i]?=some es→∀ x∈es,x.frm=(i:Int)
theorem GP.same {g:List (List Edg)} (h:GP g) {i j k m:Nat} {es es':List Edg} {x:Edg} (h1:g[i]?=some es) (h2:g[j]?=some es') (h3:es[k]?=some x) (h4:es'[m]?=some x):i=j∧k=m:=by
 have a:=h.frm i es h1 x (List.mem_of_getElem? h3)
 have b:=h.frm j es' h2 x (List.mem_of_getElem? h4)
 have hij:i=j:=by omega
 subst hij
 rw [h1] at h2
 cases h2
 refine ⟨rfl,?_⟩
 rcases Nat.lt_trichotomy k m with hk|hk|hk
 ·exact absurd (h.rows i es h1 k m x x hk h3 h4) (zW.c.irr _)
 ·exact hk
 ·exact absurd (h.rows i es h1 m k x x hk h4 h3) (zW.c.irr _)
end Go.Abs.Wall.Lst
namespace Go.Abs.Wall.Lst
open Go Go.Abs Go.Proofs Go.Abs.Wall
structure LastT (l:List Bool) (n last:Nat):Prop where
 lt:last≤n
 on:l.getD last false=true
 off:∀ j,last<j→j≤n→l.getD j false=false
theorem lastT_spec:∀ (l:List Bool) (i far:Nat),lastT l i far=far∧(∀ j,l.getD j false=false)∨∃ k,lastT l i far=i+k∧l.getD k false=true∧∀ j,k<j→l.getD j false=false
 | [],i,far=>.inl ⟨rfl,fun j=>by simp⟩
 | b::t,i,far=>by
   unfold lastT
   rcases lastT_spec t (i+1) (if b=true then i else far) with ⟨h1,h2⟩|⟨k,h1,h2,h3⟩
   ·cases b with
    | true=>
      right
      refine ⟨0,by rw [h1];simp,rfl,fun j hj=>?_⟩
      cases j with
      | zero=>omega
      | succ j=>simpa using h2 j
    | false=>
      left
      refine ⟨by rw [h1];simp,fun j=>?_⟩
      cases j with
      | zero=>rfl
      | succ j=>simpa using h2 j
   ·right
    refine ⟨k+1,by rw [h1];omega,by simpa using h2,fun j hj=>?_⟩
    cases j with
    | zero=>omega
    | succ j=>simpa using h3 j (by omega)
theorem LastT.eq {l:List Bool} {n last:Nat} (h:LastT l n last) (hl:l.length=n+1):lastT l 0 0=last:=by
 rcases lastT_spec l 0 0 with ⟨h1,h2⟩|⟨k,h1,h2,h3⟩
 ·have:=h.on
  rw [h2] at this
  cases this
 ·rw [h1,Nat.zero_add]
  have hk:k≤n:=by
   refine Classical.byContradiction fun hn=>?_
   rw [List.getD_eq_getElem?_getD,List.getElem?_eq_none (by omega)] at h2
   cases h2
  rcases Nat.lt_trichotomy k last with e|e|e
  ·have:=h3 last e
   rw [h.on] at this
   cases this
  ·exact e
  ·have:=h.off k e hk
   rw [h2] at this
   cases this
theorem LastT.set {l:List Bool} {n last t:Nat} (h:LastT l n last) (ht:t≤n) (hl:l.length=n+1):LastT (l.set t true) n (max last t):=by
 refine ⟨by have:=h.lt;omega,?_,fun j hj hn=>?_⟩
 ·rw [getD_set]
  by_cases e:last≤t
  ·exact .inr ⟨by omega,by omega⟩
  ·left
   rw [show max last t=last by omega]
   exact h.on
 ·have h1:=h.off j (by omega) hn
  rw [List.getD_eq_getElem?_getD,List.getElem?_set_ne (by omega),← List.getD_eq_getElem?_getD]
  exact h1
theorem line_sub {H:Hou} {line:List Int} (h:lineErr H line=0) (a b:Nat):lineErr H ((line.drop a).take b)=0:=by
 unfold lineErr at h ⊢
 split at h
 ·rename_i h1;exact absurd h h1
 rename_i h1
 split at h
 ·cases h
 rename_i h2
 split at h
 ·cases h
 rename_i h3
 rw [if_neg h1,if_neg (by rw [List.length_take,List.length_drop];omega),if_neg]
 rw [Bool.not_eq_true,List.any_eq_false] at h3 ⊢
 exact fun x hx=>h3 x (List.mem_of_mem_drop (List.mem_of_mem_take hx))
theorem price_edge {H:Hou} {line:List Int} (h:growErr H line=0) {i:Nat} {es:List Edg} (hi:(graphM H line)[i]?=some es) {x:Edg} (hx:x∈es) :
  priceE H ((line.drop i).take (x.to.toNat - i)) x.word=0∧priceL H ((line.drop i).take (x.to.toNat - i)) x.word=x.cost∧Good x.word:=by
 have hl:=grow_line h
 have hlt:=(List.getElem?_eq_some_iff.1 hi).1
 rw [graphM_len] at hlt
 rw [graphM_get hlt] at hi
 cases hi
 obtain ⟨⟨h1,h2,h3⟩,h4⟩:=(edgsAt_iff (lineOK hl) (line_lex hl) (by omega)).1 hx
 have hto:x.to.toNat - i=x.word.uses.length:=by
  have:x.to.toNat=i+x.word.uses.length:=(congrArg (fun e:Edg=>e.to.toNat) h4).trans (by show ((i:Int)+x.word.uses.length).toNat=_;omega)
  omega
 rw [hto]
 have he:priceE H ((line.drop i).take x.word.uses.length) x.word=0:=by
  unfold priceE
  rw [if_neg (by rw [line_sub hl];simp),if_neg (by rw [h1];simp),if_pos h3]
 refine ⟨he,?_,edg_good (lineOK hl) (line_lex hl) (by omega) hx⟩
 unfold priceL
 rw [if_pos he]
 exact (congrArg Edg.cost h4).symm
end Go.Abs.Wall.Lst
