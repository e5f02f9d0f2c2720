/- What is proved: small laws for the walks of this seat, and contracts of its functions. No condition but those each theorem names. -/
import Derived.Test.YtbmcnieifibckaaGreatN8
import Derived.Test.YtbmcnieifibckaaGreatN24
import Derived.Test.YtbmcnieifibckaaGreatN25
import Derived.Test.YtbmcnieifibckaaGreatN10
import Derived.Test.YtbmcnieifibckaaGreatN30
set_option maxRecDepth 100000
set_option maxHeartbeats 2000000
set_option linter.unusedVariables false
set_option linter.unusedSimpArgs false
namespace Go.Abs.Wall.Spl
open Go Go.Abs Go.Proofs Go.Abs.Wall Go.Proofs.YtbmcnieifibckaaGreat.Br
def FA (H:ax) (line:List Int):Bool:=(decide (24<(H.list.aB.length:Int))&&decide ((H.list.aB.length:Int)<=200))||Bn H line
def c17:aw:=⟨[0,1,2,4],[],[],[],[],[]⟩
def c21:aw:=⟨[0,1,2,3,4],[],[],[],[],[]⟩
theorem XH (H:ax) (line:List Int):ae Tryz.prog 17 [.agg (bJ H),.sl 1 none (ints line)] [] (.bool (FA H line)):=by
 have he:FA H line=((decide (24<((H.list.aB.map jo).length:Int))&&decide (((H.list.aB.map jo).length:Int)<=200))||Bn H line):=by unfold FA;rw [List.length_map]
 rw [he];refine aG (F:=Tryz.f17) c17 rfl rfl rfl mixed rfl fun X=>?_;(conv=>whnf);repeat (refine aX (TX H line) ?_;conv=>whnf)
 exact ⟨rfl,rfl⟩
theorem Qa (H:ax):ae Tryz.prog 17 [.agg (bJ H),.aW] [] (.bool (FA H [])):=ae.args (XH H []) (.cons (ag.refl _) (.cons (ag.nil (by decide)) .nil))
def Aj (a b:Spl):Bool:=(decide (a.cost=b.cost)&&decide (a.aB=b.aB))&&decide (a.aj=b.aj)
theorem XI (a b:Spl) (h1:a.aB.length<=aq) (h2:b.aB.length<=aq) (h3:a.aj.length<=aq) (h4:b.aj.length<=aq):ae Tryz.prog 21 [.agg (kJ a),.agg (kJ b)] [] (.bool (Aj a b)):=by
 refine aG (F:=Tryz.f21) c21 rfl rfl rfl mixed rfl fun X=>?_;(conv=>whnf);repeat ((first|refine aX (Ha a.aB b.aB h1 h2) ?_|refine aX (XJ a.aj b.aj h3 h4) ?_);conv=>whnf)
 exact ⟨rfl,rfl⟩
end Go.Abs.Wall.Spl
namespace Go.Abs.Wall.Spl
open Go Go.Abs Go.Proofs Go.Abs.Wall Go.Proofs.YtbmcnieifibckaaGreat.Br
def c3:aw:=⟨[0,1,2,3,4,5,6,7,8,9,10,11,12,13,15,46,50,62],[],[12,13],[],[(10,[0,1,2,3,4,5,6,7,8,9],[])],[]⟩
theorem CR {H:ax} {B:bX} {f:bc} (hb:gD H B f=0):eG H=0/\nG H B=true/\dT H.lex f=0:=by
 unfold gD at hb;split at hb
 ·rename_i h1;exact absurd hb h1
 rename_i h1;obtain ⟨h2,h3⟩:=Ck (H:=H) (B:=B) (by omega);exact ⟨h2,h3,hb⟩
theorem XK {E:Env} (hE:gO E) {n:Nat} {s:Spl} (h:s∈gS E n):s.aB.length<=12/\s.aj.length<=12:=by unfold gS at h;obtain ⟨w,hw,rfl⟩:=List.mem_map.1 h;obtain ⟨ρ,hρ⟩:=List.mem_iff_getElem?.1 (List.mem_of_mem_take hw);have h5:=Fq hE _ dR sy (Fp hE _ dR sy rfl ρ w hρ).1;have h6:dR.n=0:=rfl;unfold jn;simp only [List.length_map];omega
theorem XL {H:ax} {B:bX} {f:bc} {most:Int}:∀ s∈gE H B f most,s.aB.length<=12/\s.aj.length<=12:=by
 intro s hs;unfold gE at hs;split at hs
 ·rename_i h;unfold iT at h;split at h
  ·rename_i h1;exact absurd h h1
  rename_i h1;obtain ⟨h2,h3,h4⟩:=CR (H:=H) (B:=B) (f:=f) (by omega);exact XK (yq h2 h3 (mG h4)) hs
 cases hs
theorem XM {H:ax} {B:bX} {f:bc} {most:Int}:(gE H B f most).length<=64:=by
 unfold gE;split
 ·rename_i h;unfold iT at h;split at h
  ·rename_i h1;exact absurd h h1
  split at h
  ·unfold gS;rw [List.length_map,List.length_take];omega
  cases h
 simp
end Go.Abs.Wall.Spl
