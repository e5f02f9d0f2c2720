/- What is proved: small laws for the walks of this seat, and contracts of its functions. No condition but those each theorem names. -/
import Derived.Test.YtbmcnieifibckaaGreatN8
import Derived.Test.YtbmcnieifibckaaGreatN24
import Derived.Test.YtbmcnieifibckaaGreatN25
import Derived.Test.YtbmcnieifibckaaGreatN10
import Derived.Test.YtbmcnieifibckaaGreatN30
set_option maxRecDepth 100000
set_option maxHeartbeats 2000000
set_option linter.unusedVariables false
set_option linter.unusedSimpArgs false
namespace Go.Abs.Wall.Spl
open Go Go.Abs Go.Proofs Go.Abs.Wall Go.Proofs.YtbmcnieifibckaaGreat.Br
def DT (H:aj) (line:List Int):Bool:=(decide (24<(H.list.aA.length:Int))&&decide ((H.list.aA.length:Int)<=200))||Co H line
def c17:az:=⟨[0,1,2,4],[],[],[],[],[]⟩
theorem RG (H:aj) (line:List Int):ae Tryz.prog 17 [.agg (bu H),.sl 1 none (ints line)] [] (.bool (DT H line)):=by
 have he:DT H line=((decide (24<((H.list.aA.map iX).length:Int))&&decide (((H.list.aA.map iX).length:Int)<=200))||Co H line):=by unfold DT;rw [List.length_map]
 rw [he];refine aG (F:=Tryz.f17) c17 rfl rfl rfl mixed rfl fun X=>?_;(conv=>whnf);repeat (refine ba (Oc H line) ?_;conv=>whnf)
 exact ⟨rfl,rfl⟩
theorem Zs (H:aj):ae Tryz.prog 17 [.agg (bu H),.aT] [] (.bool (DT H [])):=ae.args (RG H []) (.cons (ag.refl _) (.cons (ag.nil (by decide)) .nil))
end Go.Abs.Wall.Spl
namespace Go.Abs.Wall.Spl
open Go Go.Abs Go.Proofs Go.Abs.Wall Go.Proofs.YtbmcnieifibckaaGreat.Br
def c3:az:=⟨[0,1,2,3,4,5,6,7,8,9,10,11,12,13,15,46,50,62],[],[12,13],[],[(10,[0,1,2,3,4,5,6,7,8,9],[])],[]⟩
theorem Hf {H:aj} {B:bl} {f:aZ} (hb:iY H B f=0):eo H=0/\nj H B=true/\dZ H.lex f=0:=by
 unfold iY at hb;split at hb
 ·rename_i h1;exact absurd hb h1
 rename_i h1;obtain ⟨h2,h3⟩:=vQ (H:=H) (B:=B) (by omega);exact ⟨h2,h3,hb⟩
theorem Zt {E:Env} (hE:jE E) {n:Nat} {s:Spl} (h:s∈iC E n):s.aA.length<=12/\s.ai.length<=12:=by unfold iC at h;obtain ⟨w,hw,rfl⟩:=List.mem_map.1 h;obtain ⟨ρ,hρ⟩:=List.mem_iff_getElem?.1 (List.mem_of_mem_take hw);have h5:=KP hE _ eK xk (KO hE _ eK xk rfl ρ w hρ).1;have h6:eK.n=0:=rfl;unfold nW;simp only [List.length_map];omega
theorem Zu {H:aj} {B:bl} {f:aZ} {most:Int}:∀ s∈ma H B f most,s.aA.length<=12/\s.ai.length<=12:=by
 intro s hs;unfold ma at hs;split at hs
 ·rename_i h;unfold gX at h;split at h
  ·rename_i h1;exact absurd h h1
  rename_i h1;obtain ⟨h2,h3,h4⟩:=Hf (H:=H) (B:=B) (f:=f) (by omega);exact Zt (Du h2 h3 (mn h4)) hs
 cases hs
theorem DU (H:aj) (B:bl) (f:aZ):(dz H B f).aA.length<=12/\(dz H B f).ai.length<=12:=by
 unfold dz;cases hl:ma H B f 1 with
 | nil=>exact ⟨Nat.zero_le _,Nat.zero_le _⟩
 | cons x t=>exact Zu x (by rw [hl];exact List.mem_cons_self ..)
end Go.Abs.Wall.Spl
