/- What is proved: small laws for the walks of this seat, and contracts of its functions. No condition but those each theorem names. -/
import Derived.Test.YthkokengobdgcaaGreatN23
import Derived.Test.YthkokengobdgcaaGreatN17
set_option maxRecDepth 100000
set_option maxHeartbeats 2000000
set_option linter.unusedVariables false
set_option linter.unusedSimpArgs false
namespace Go.Abs.Wall.Lst
open Go Go.Abs Go.Proofs Go.Abs.Wall
/-! ### the specification's corpus -/
def lnks (g : List (List Edg)) : List (List Lnk) := g.map fun es => es.map lnkOf
structure EFit (g : List (List Edg)) : Prop where
  ok : LOK (lnks g)
  few : g.length ≤ 1048576
  row : ∀ es ∈ g, es.length ≤ 1048576
end Go.Abs.Wall.Lst
set_option maxRecDepth 100000
set_option maxHeartbeats 2000000
set_option linter.unusedVariables false
set_option linter.unusedSimpArgs false
namespace Go.Abs.Wall.Lst
open Go Go.Abs Go.Proofs Go.Abs.Wall
/-! ### the specification's Readable, Needs, Induce -/
end Go.Abs.Wall.Lst

