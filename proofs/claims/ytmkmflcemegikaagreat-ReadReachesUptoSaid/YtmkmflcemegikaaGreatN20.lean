/- What is proved: small laws for the walks of this seat, and contracts of its functions. No condition but those each theorem names. -/
import Derived.Test.YtmkmflcemegikaaGreatN19
import Derived.Test.YtmkmflcemegikaaGreatN9
import Derived.Test.YtmkmflcemegikaaGreatN10
import Derived.Test.YtmkmflcemegikaaGreatN11
set_option maxRecDepth 100000
set_option maxHeartbeats 2000000
set_option linter.unusedVariables false
set_option linter.unusedSimpArgs false
namespace Go.Abs.Wall.Lst
open Go Go.Abs Go.Proofs Go.Abs.Wall
end Go.Abs.Wall.Lst
namespace Go.Abs.Wall.Lst
open Go Go.Abs Go.Proofs Go.Abs.Wall
theorem line_lex {H:Hou} {line:List Int} (h:lineErr H line=0):lexErr H.lex=0:=by
 unfold lineErr at h
 split at h
 ·rename_i h1;exact absurd h h1
 rename_i h1
 have h1:houErr H=0:=by simpa using h1
 unfold houErr at h1
 split at h1
 ·rename_i h2;exact absurd h1 h2
 split at h1
 ·rename_i h2;exact absurd h1 h2
 rename_i h2
 simpa using h2
theorem grow_line {H:Hou} {line:List Int} (h:growErr H line=0):lineErr H line=0:=by
 unfold growErr at h
 split at h
 ·rename_i h1;exact absurd h h1
 ·rename_i h1;simpa using h1
theorem list_ok {H:Hou} {line:List Int} {most:Int} (h:listErr H line most=0):growErr H line=0∧1≤most∧most≤64∧rdV (graphM H line) 0≠[]∧listL H line most=rdsOf (graphM H line) most.toNat:=by
 have h':=h
 unfold listErr at h
 split at h
 ·rename_i h1;exact absurd h h1
 rename_i h1
 split at h
 ·rename_i h2
  split at h
  ·cases h
  rename_i h3
  exact ⟨by simpa using h1,h2.1,h2.2,h3,by unfold listL;rw [if_pos h']⟩
 ·cases h
theorem mem_list {H:Hou} {line:List Int} {most:Int} (h:listErr H line most=0) {i:Nat} {r:Rdg} (hr:(listL H line most)[i]?=some r) :
  (i:Int)<most∧∃ p,(rdV (graphM H line) 0)[i]?=some p∧r=pthR p∧PathG (graphM H line) 0 p.2∧p.1=sumC p.2:=by
 obtain ⟨h0,h1,h2,h3,h4⟩:=list_ok h
 obtain ⟨-,-,hg⟩:=growOK h0
 rw [h4] at hr
 unfold rdsOf at hr
 rw [List.getElem?_map] at hr
 cases hp:((rdV (graphM H line) 0).take most.toNat)[i]? with
 | none=>rw [hp] at hr;cases hr
 | some p=>
   rw [hp] at hr
   have hi:i<most.toNat:=by
    have:=(List.getElem?_eq_some_iff.1 hp).1
    rw [List.length_take] at this
    omega
   rw [List.getElem?_take_of_lt hi] at hp
   have:=(rdV_path hg (graphM H line).length 0 (by omega) p).1 (List.mem_of_getElem? hp)
   exact ⟨by omega,p,hp,(Option.some.inj hr).symm,this.1,this.2⟩
end Go.Abs.Wall.Lst
namespace Go.Abs.Wall.Lst
open Go Go.Abs Go.Proofs Go.Abs.Wall
theorem grow_hou {H:Hou} {line:List Int} (h:growErr H line=0):houErr H=0:=by
 have h:=grow_line h
 unfold lineErr at h
 split at h
 ·rename_i h1;exact absurd h h1
 ·rename_i h1;simpa using h1
end Go.Abs.Wall.Lst
