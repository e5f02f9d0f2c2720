/- What is proved: small laws for the walks of this seat, and contracts of its functions. No condition but those each theorem names. -/
import Derived.Test.YtmkmflcemegikaaGreatDoorN19
import Derived.Test.YtmkmflcemegikaaGreatDoorN9
import Derived.Test.YtmkmflcemegikaaGreatDoorN10
set_option maxRecDepth 100000
set_option maxHeartbeats 2000000
set_option linter.unusedVariables false
set_option linter.unusedSimpArgs false
namespace Go.Abs.Wall.Lst
open Go Go.Abs Go.Proofs Go.Abs.Wall
end Go.Abs.Wall.Lst
namespace Go.Abs.Wall.Lst
open Go Go.Abs Go.Proofs Go.Abs.Wall
theorem line_lex {H:Hou} {line:List Int} (h:lineErr H line=0):lexErr H.lex=0:=by
 unfold lineErr at h
 split at h
 ·rename_i h1;exact absurd h h1
 rename_i h1
 have h1:houErr H=0:=by simpa using h1
 unfold houErr at h1
 split at h1
 ·rename_i h2;exact absurd h1 h2
 split at h1
 ·rename_i h2;exact absurd h1 h2
 rename_i h2
 simpa using h2
theorem grow_line {H:Hou} {line:List Int} (h:growErr H line=0):lineErr H line=0:=by
 unfold growErr at h
 split at h
 ·rename_i h1;exact absurd h h1
 ·rename_i h1;simpa using h1
end Go.Abs.Wall.Lst
