/- What is proved: small laws for the walks of this seat, and contracts of its functions. No condition but those each theorem names. -/
import Derived.Test.YtbmcnieifibckaaGreatN25
import Derived.Test.YtbmcnieifibckaaGreatN9
import Derived.Test.YtbmcnieifibckaaGreatN24
set_option maxRecDepth 100000
set_option maxHeartbeats 2000000
set_option linter.unusedVariables false
set_option linter.unusedSimpArgs false
namespace Go.Abs.Wall.Spl
open Go Go.Abs Go.Proofs Go.Abs.Wall
theorem price_line {H:Hou} {line:List Int} {w:Wrd} (h:priceE H line w=0):lineErr H line=0∧frmErr H.lex w.form=0∧spellsM H line w=true:=by
 unfold priceE at h
 split at h
 ·rename_i h1;exact absurd h h1
 rename_i h1
 split at h
 ·rename_i h2;exact absurd h h2
 rename_i h2
 split at h
 ·rename_i h3;exact ⟨by omega,by omega,h3⟩
 ·cases h
theorem spells_len {H:Hou} {line:List Int} {w:Wrd} (h:spellsM H line w=true):(1≤line.length∧line.length≤12)∧line.length=w.uses.length:=by
 unfold spellsM at h
 rw [Bool.and_eq_true,Bool.and_eq_true,wthn_iff,decide_eq_true_eq] at h
 omega
theorem priceM_bound {H:Hou} (h0:houErr H=0) {line:List Int} {w:Wrd} (h:priceE H line w=0):0≤priceM H w∧priceM H w≤100000:=by
 have hH:=houOK h0
 obtain ⟨_,hfe,hsp⟩:=price_line h
 have hl:=spells_len hsp
 have hw:=(frmOK hfe).wgt
 have hu:=usesCost_bound hH w.uses
 have ho:=hH.costs H.costs.opn (by simp [costL])
 unfold priceM frmW
 rw [if_pos hfe]
 split<;>omega
structure WrdFit (w:Wrd):Prop where
 cl:w.form.clitics.length≤1048576
 text:∀ u∈w.uses,u.text.length≤1048576
 us:w.uses.length≤1048576
end Go.Abs.Wall.Spl
namespace Go.Abs.Wall.Spl
open Go Go.Abs Go.Proofs Go.Abs.Wall
end Go.Abs.Wall.Spl
