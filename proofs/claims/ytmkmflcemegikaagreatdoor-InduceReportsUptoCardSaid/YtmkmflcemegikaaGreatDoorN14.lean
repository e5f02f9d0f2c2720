/- What is proved: small laws for the walks of this seat, and contracts of its functions. No condition but those each theorem names. -/
import Derived.Test.YtmkmflcemegikaaGreatDoorN13
import Derived.Test.YtmkmflcemegikaaGreatDoorN1
import Derived.Test.YtmkmflcemegikaaGreatDoorN8
import Derived.Test.YtmkmflcemegikaaGreatDoorN7
import Derived.Lib.Overlaps
set_option maxRecDepth 100000
set_option maxHeartbeats 2000000
set_option linter.unusedVariables false
set_option linter.unusedSimpArgs false
namespace Go.Abs.Wall
open Go Go.Abs Go.Proofs
end Go.Abs.Wall
namespace Go.Abs.Wall
def up (rs:Nat→Nat) (k:Nat):Nat→Nat:=fun j=>if j=k then rs k+1 else rs j
end Go.Abs.Wall
namespace Go.Abs.Wall.Lst
open Go Go.Abs Go.Proofs Go.Abs.Wall
theorem VLe.oslc {b off n c k:Nat}:VLe (.oslc b off n c k) (.osl b off n k):=by
 intro v u h
 simp only [Rep] at h ⊢
 obtain ⟨p,h1,h2,h3,h4,h5,h6,h7,h8⟩:=h
 exact ⟨p,c,off,h1,h2,h3,h4,h5,h6,h7,fun _=>rfl,h8⟩
theorem ACalls.re {f:FuncId} {vs:List AV} {h h2 H:Heap} {R R':AV→Heap→Prop} (hf:ACalls Tryz.prog f vs h R) (hp:(h++h2).Perm H)
  (hr:∀ v h1,R v h1→∃ H',(h1++h2).Perm H'∧R' v H'):ACalls Tryz.prog f vs H R':=by
 refine ACalls.post (ACalls.perm (ACalls.frame hf h2) hp) ?_
 rintro v h3 ⟨h1,hR,rfl⟩
 obtain ⟨H',hp',hR'⟩:=hr v h1 hR
 exact ⟨v,H',hR',VLe.refl _,fun k o hm=>hp'.mem_iff.2 hm,fun hn=>by unfold keys at hn ⊢;exact ((hp'.map _).nodup_iff).1 hn⟩
end Go.Abs.Wall.Lst
