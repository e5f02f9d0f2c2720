/- What is proved: small laws for the walks of this seat, and contracts of its functions. No condition but those each theorem names. -/
import Derived.Test.YtbmcnieifibckaaGreatN39
import Derived.Test.YtbmcnieifibckaaGreatN33
import Derived.Test.YtbmcnieifibckaaGreatN11
import Derived.Test.YtbmcnieifibckaaGreatN38
set_option maxRecDepth 100000
set_option maxHeartbeats 2000000
set_option linter.unusedVariables false
set_option linter.unusedSimpArgs false
namespace Go.Abs.Wall.Spl
open Go Go.Abs Go.Proofs Go.Abs.Wall
theorem Ax {H:ax} {B:bX} {f:bc} {most:Int} (h:iT H B f most=0):gD H B f=0/\(1<=most/\most<=64)/\df (bC H B f) dR≠[]:=by
 unfold iT at h;split at h
 ·rename_i h1;exact absurd h h1
 rename_i h1;split at h
 ·rename_i h2;split at h
  ·cases h
  rename_i h3;exact ⟨by simpa using h1,h2,h3⟩
 cases h
theorem c7 {H:ax} {B:bX} {line:List Int} {w:cO} (h:kQ H B line w=0):oA H B=0/\jN H line w=0/\sC H B line w=true:=by
 unfold kQ at h;split at h
 ·rename_i e;exact absurd h e
 rename_i e1;split at h
 ·rename_i e;exact absurd h e
 rename_i e2;split at h
 ·rename_i hk;exact ⟨by omega,by omega,hk⟩
 exact absurd h (by decide)
theorem RI {E:Env} (hE:gO E):∀ (p:List Mv) (x:br),wH E x p->∀ m∈p,m.use.text.length<=8
 | [],_,_,m,hm=>by cases hm
 | n::p,x,⟨h1,h2⟩,m,hm=>by
   rcases List.mem_cons.1 hm with rfl|hm
   ·obtain ⟨_,i,us,u,h3,h4,_,_,rfl⟩:=Qm h1;exact hE.text us (List.mem_of_getElem? h3) u h4
   exact RI hE p n.to h2 m hm
theorem c8 {H:ax} {B:bX} {f:bc} (hb:gD H B f=0) {ρ:Nat} {w:Wy} (hw:(df (bC H B f) dR)[ρ]?=some w):∀ u∈(jn (bC H B f) w).aj,u.text.length<=8:=by obtain ⟨h0,hr,hf⟩:=CR hb;have hE:=yq h0 hr (mG hf);obtain ⟨h1,_⟩:=Fp hE 12 dR sy rfl ρ w hw;intro u hu;obtain ⟨m,hm,rfl⟩:=List.mem_map.1 (show u∈(kH (bC H B f) dR w).map (·.use) from hu);exact RI hE _ _ h1 m hm
end Go.Abs.Wall.Spl
namespace Go.Abs.Wall.Spl
open Go Go.Abs Go.Proofs Go.Abs.Wall
open Go.Abs.Wall.Lst (lK ew fx jk gA jH pk rZ xY Er Es xX zw)
end Go.Abs.Wall.Spl
