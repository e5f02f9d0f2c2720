/- What is proved: small laws for the walks of this seat, and contracts of its functions. No condition but those each theorem names. -/
import Derived.Test.YtbmcnieifibckaaGreatN19
import Derived.Test.YtbmcnieifibckaaGreatN9
import Derived.Test.YtbmcnieifibckaaGreatN10
import Derived.Test.YtbmcnieifibckaaGreatN11
import Derived.Test.YtbmcnieifibckaaGreatN8
set_option maxRecDepth 100000
set_option maxHeartbeats 2000000
set_option linter.unusedVariables false
set_option linter.unusedSimpArgs false
namespace Go.Abs.Wall.Lst
open Go Go.Abs Go.Proofs Go.Abs.Wall
end Go.Abs.Wall.Lst
namespace Go.Abs.Wall.Lst
open Go Go.Abs Go.Proofs Go.Abs.Wall
theorem line_lex {H:Hou} {line:List Int} (h:lineErr H line=0):lexErr H.lex=0:=by
 unfold lineErr at h
 split at h
 ·rename_i h1;exact absurd h h1
 rename_i h1
 have h1:houErr H=0:=by simpa using h1
 unfold houErr at h1
 split at h1
 ·rename_i h2;exact absurd h1 h2
 split at h1
 ·rename_i h2;exact absurd h1 h2
 rename_i h2
 simpa using h2
structure Good (w:Wrd):Prop where
 fit:WrdFit w
 small:WrdSmall w
 text:∀ u∈w.uses,u.text.length≤8
theorem edg_good {H:Hou} {line:List Int} (hL:LineOK H line) (hle:lexErr H.lex=0) {i:Nat} (hi:i≤line.length) {x:Edg} (hx:x∈edgsAt H line i):Good x.word:=by
 obtain ⟨⟨h1,h2,h3⟩,h4⟩:=(edgsAt_iff hL hle hi).1 hx
 have hf:=frmOK h1
 have hm:=hf.lex.many
 have hlen:=spells_len h3
 have hcf:=hf.few
 refine ⟨⟨by omega,by omega⟩,⟨⟨?_,?_,?_,by omega⟩,by omega⟩,?_⟩
 ·have:=hf.entry;omega
 ·rcases hf.ending with h|h<;>omega
 ·intro c hc
  have:=hf.cli c hc
  omega
 ·unfold spellsM at h3
  rw [Bool.and_eq_true,Bool.and_eq_true,wthn_iff,decide_eq_true_eq] at h3
  obtain ⟨⟨h5,h6⟩,h7⟩:=h3
  rw [spGo_iff _ _ _ h6] at h7
  intro u hu
  exact (usesIn_ok hL.hou (fun s hs=>hL.signs s (List.mem_of_mem_drop (List.mem_of_mem_take hs))) h7.1 u hu).2.2.2
theorem path_good {H:Hou} {line:List Int} (hL:LineOK H line) (hle:lexErr H.lex=0):∀ (l:List Edg) (i:Nat),i≤line.length→PathG (graphM H line) i l→∀ x∈l,Good x.word
 | [],_,_,_,x,hx=>by cases hx
 | y::l,i,hi,⟨es,hes,hy,hp⟩,x,hx=>by
   have hlt:=(List.getElem?_eq_some_iff.1 hes).1
   rw [graphM_len] at hlt
   rw [graphM_get hlt] at hes
   cases hes
   rcases List.mem_cons.1 hx with rfl|hx
   ·exact edg_good hL hle hi hy
   ·obtain ⟨⟨_,h2,_⟩,h4⟩:=(edgsAt_iff hL hle hi).1 hy
    have hto:y.to.toNat=i+y.word.uses.length:=(congrArg (fun e:Edg=>e.to.toNat) h4).trans (by show ((i:Int)+y.word.uses.length).toNat=_;omega)
    rw [hto] at hp
    exact path_good hL hle l _ h2 hp x hx
theorem valid_iff {H:Hou} {line:List Int} (h0:lineErr H line=0) (ws:List Wrd) :
  ((validM H line ws).err=0↔PathG (graphM H line) 0 (edgesOf H 0 ws))∧((validM H line ws).err=0→(validM H line ws).cost=sumC (edgesOf H 0 ws)):=by
 have:=validGo_path (lineOK h0) (line_lex h0) ws 0 0 0 (Nat.zero_le _)
 unfold validM
 rw [if_neg (by rw [h0];simp)]
 rw [List.drop_zero] at this
 exact ⟨this.1,fun h=>by rw [this.2 h];omega⟩
theorem grow_line {H:Hou} {line:List Int} (h:growErr H line=0):lineErr H line=0:=by
 unfold growErr at h
 split at h
 ·rename_i h1;exact absurd h h1
 ·rename_i h1;simpa using h1
theorem list_ok {H:Hou} {line:List Int} {most:Int} (h:listErr H line most=0):growErr H line=0∧1≤most∧most≤64∧rdV (graphM H line) 0≠[]∧listL H line most=rdsOf (graphM H line) most.toNat:=by
 have h':=h
 unfold listErr at h
 split at h
 ·rename_i h1;exact absurd h h1
 rename_i h1
 split at h
 ·rename_i h2
  split at h
  ·cases h
  rename_i h3
  exact ⟨by simpa using h1,h2.1,h2.2,h3,by unfold listL;rw [if_pos h']⟩
 ·cases h
theorem mem_list {H:Hou} {line:List Int} {most:Int} (h:listErr H line most=0) {i:Nat} {r:Rdg} (hr:(listL H line most)[i]?=some r) :
  (i:Int)<most∧∃ p,(rdV (graphM H line) 0)[i]?=some p∧r=pthR p∧PathG (graphM H line) 0 p.2∧p.1=sumC p.2:=by
 obtain ⟨h0,h1,h2,h3,h4⟩:=list_ok h
 obtain ⟨-,-,hg⟩:=growOK h0
 rw [h4] at hr
 unfold rdsOf at hr
 rw [List.getElem?_map] at hr
 cases hp:((rdV (graphM H line) 0).take most.toNat)[i]? with
 | none=>rw [hp] at hr;cases hr
 | some p=>
   rw [hp] at hr
   have hi:i<most.toNat:=by
    have:=(List.getElem?_eq_some_iff.1 hp).1
    rw [List.length_take] at this
    omega
   rw [List.getElem?_take_of_lt hi] at hp
   have:=(rdV_path hg (graphM H line).length 0 (by omega) p).1 (List.mem_of_getElem? hp)
   exact ⟨by omega,p,hp,(Option.some.inj hr).symm,this.1,this.2⟩
theorem listed_valid {H:Hou} {line:List Int} {most:Int} (h:listErr H line most=0) {i:Nat} {r:Rdg} (hr:(listL H line most)[i]?=some r) :
  (validM H line r.words).err=0∧(validM H line r.words).cost=r.cost∧∀ w∈r.words,Good w:=by
 obtain ⟨h0,-⟩:=list_ok h
 have hl:=grow_line h0
 obtain ⟨-,p,hp,rfl,h2,h3⟩:=mem_list h hr
 have he:=path_edgesOf (lineOK hl) (line_lex hl) p.2 0 (Nat.zero_le _) h2
 have hv:=valid_iff hl (pthR p).words
 have he:edgesOf H 0 (pthR p).words=p.2:=he.symm
 rw [he] at hv
 have h5:=hv.1.2 h2
 refine ⟨h5,(hv.2 h5).trans h3.symm,fun w hw=>?_⟩
 obtain ⟨x,hx,rfl⟩:=List.mem_map.1 hw
 exact path_good (lineOK hl) (line_lex hl) p.2 0 (Nat.zero_le _) h2 x hx
theorem valid_in {H:Hou} {line:List Int} {ws:List Wrd} (h0:growErr H line=0) (h:(validM H line ws).err=0):((validM H line ws).cost,edgesOf H 0 ws)∈rdV (graphM H line) 0:=by
 obtain ⟨-,-,hg⟩:=growOK h0
 have hv:=valid_iff (grow_line h0) ws
 exact (rdV_path hg (graphM H line).length 0 (by omega) _).2 ⟨hv.1.1 h,hv.2 h⟩
end Go.Abs.Wall.Lst
namespace Go.Abs.Wall.Lst
open Go Go.Abs Go.Proofs Go.Abs.Wall
end Go.Abs.Wall.Lst
