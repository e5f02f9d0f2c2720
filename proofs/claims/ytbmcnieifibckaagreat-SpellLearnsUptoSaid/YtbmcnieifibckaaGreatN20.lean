/- What is proved: small laws for the walks of this seat, and contracts of its functions. No condition but those each theorem names. -/
import Derived.Test.YtbmcnieifibckaaGreatN19
import Derived.Test.YtbmcnieifibckaaGreatN9
import Derived.Test.YtbmcnieifibckaaGreatN10
import Derived.Test.YtbmcnieifibckaaGreatN11
import Derived.Test.YtbmcnieifibckaaGreatN8
set_option maxRecDepth 100000
set_option maxHeartbeats 2000000
set_option linter.unusedVariables false
set_option linter.unusedSimpArgs false
namespace Go.Abs.Wall.Lst
open Go Go.Abs Go.Proofs Go.Abs.Wall
end Go.Abs.Wall.Lst
namespace Go.Abs.Wall.Lst
open Go Go.Abs Go.Proofs Go.Abs.Wall
theorem line_lex {H:Hou} {line:List Int} (h:lineErr H line=0):lexErr H.lex=0:=by
 unfold lineErr at h
 split at h
 ·rename_i h1;exact absurd h h1
 rename_i h1
 have h1:houErr H=0:=by simpa using h1
 unfold houErr at h1
 split at h1
 ·rename_i h2;exact absurd h1 h2
 split at h1
 ·rename_i h2;exact absurd h1 h2
 rename_i h2
 simpa using h2
structure Good (w:Wrd):Prop where
 fit:WrdFit w
 small:WrdSmall w
 text:∀ u∈w.uses,u.text.length≤8
theorem edg_good {H:Hou} {line:List Int} (hL:LineOK H line) (hle:lexErr H.lex=0) {i:Nat} (hi:i≤line.length) {x:Edg} (hx:x∈edgsAt H line i):Good x.word:=by
 obtain ⟨⟨h1,h2,h3⟩,h4⟩:=(edgsAt_iff hL hle hi).1 hx
 have hf:=frmOK h1
 have hm:=hf.lex.many
 have hlen:=spells_len h3
 have hcf:=hf.few
 refine ⟨⟨by omega,by omega⟩,⟨⟨?_,?_,?_,by omega⟩,by omega⟩,?_⟩
 ·have:=hf.entry;omega
 ·rcases hf.ending with h|h<;>omega
 ·intro c hc
  have:=hf.cli c hc
  omega
 ·unfold spellsM at h3
  rw [Bool.and_eq_true,Bool.and_eq_true,wthn_iff,decide_eq_true_eq] at h3
  obtain ⟨⟨h5,h6⟩,h7⟩:=h3
  rw [spGo_iff _ _ _ h6] at h7
  intro u hu
  exact (usesIn_ok hL.hou (fun s hs=>hL.signs s (List.mem_of_mem_drop (List.mem_of_mem_take hs))) h7.1 u hu).2.2.2
theorem grow_line {H:Hou} {line:List Int} (h:growErr H line=0):lineErr H line=0:=by
 unfold growErr at h
 split at h
 ·rename_i h1;exact absurd h h1
 ·rename_i h1;simpa using h1
end Go.Abs.Wall.Lst
namespace Go.Abs.Wall.Lst
open Go Go.Abs Go.Proofs Go.Abs.Wall
end Go.Abs.Wall.Lst
