/- What is proved: small laws for the walks of this seat, and contracts of its functions. No condition but those each theorem names. -/
import Derived.Test.YtmkmflcemegikaaGreatDoorN16
import Derived.Test.YtmkmflcemegikaaGreatDoorN14
set_option maxRecDepth 100000
set_option maxHeartbeats 2000000
set_option linter.unusedVariables false
set_option linter.unusedSimpArgs false
namespace Go.Abs.Wall.Lst
open Go Go.Abs Go.Proofs Go.Abs.Wall
end Go.Abs.Wall.Lst
namespace Go.Abs.Wall.Lst
open Go Go.Abs Go.Proofs Go.Abs.Wall
theorem _root_.Go.Abs.VsLe.pre {a b:List AV} (h:VsLe a b):∀ xs:List AV,VsLe (xs++a) (xs++b)
 | []=>h
 | x::xs=>.cons (VLe.refl x) (VsLe.pre h xs)
theorem VssLe.pre {a b:List (List AV)} (h:VssLe a b):∀ xs:List (List AV),VssLe (xs++a) (xs++b)
 | []=>h
 | x::xs=>.cons (VsLe.refl x) (VssLe.pre h xs)
theorem Turn.left {r:Regs} {A Z:Heap}:Turn r (A++Z) r A:=
 Turn.sub (fun k o hm=>List.mem_append_left _ hm) fun hn=>by
  unfold keys at hn ⊢
  rw [List.map_append] at hn
  exact (List.nodup_append.1 hn).1
end Go.Abs.Wall.Lst
namespace Go.Abs.Wall.Lst
open Go Go.Abs Go.Proofs Go.Abs.Wall
end Go.Abs.Wall.Lst
