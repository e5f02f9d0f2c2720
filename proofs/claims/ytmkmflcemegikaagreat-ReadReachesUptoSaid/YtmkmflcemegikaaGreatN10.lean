/- What is proved: small laws for the walks of this seat, and contracts of its functions. No condition but those each theorem names. -/
import Derived.Test.YtmkmflcemegikaaGreatN9
import Derived.Test.YtmkmflcemegikaaGreatN8
set_option maxRecDepth 100000
set_option maxHeartbeats 2000000
set_option linter.unusedVariables false
set_option linter.unusedSimpArgs false
namespace Go.Abs.Wall
open Go Go.Abs Go.Proofs
end Go.Abs.Wall
namespace Go.Abs.Wall
open Go Go.Abs Go.Proofs
end Go.Abs.Wall
namespace Go.Abs.Wall
open Go Go.Abs Go.Proofs
def c10:Cfg:=⟨[0,1,2,4,5,41],[],[5],[],[],[]⟩
end Go.Abs.Wall
namespace Go.Abs.Wall
open Go Go.Abs Go.Proofs
def largeM (H:Hou) (line:List Int):Bool:=
 if ((decide (60<(H.lex.entries.length:Int))&&decide ((H.lex.entries.length:Int)≤200))||(decide (12<(H.lex.endings.length:Int))&&decide ((H.lex.endings.length:Int)≤40))||(decide (6<(H.lex.clitics.length:Int))&&decide ((H.lex.clitics.length:Int)≤10)))=true then true
 else decide (16<(line.length:Int))&&decide ((line.length:Int)≤60)
theorem largeW (H:Hou) (line:List Int):QCall Tryz.prog 10 [.agg (encHou H),.sl 1 none (ints line)] [] (.bool (largeM H line)):=by
 obtain ⟨b,hb⟩:∃ b,b=largeM H line:=⟨_,rfl⟩
 rw [← hb]
 unfold largeM at hb
 rw [← List.length_map (f:=encEnt),← List.length_map (f:=encEdn),← List.length_map (f:=encCli),← ints_length] at hb
 refine fcalls (F:=Tryz.f10) c10 rfl rfl rfl mixed rfl fun X=>?_
 conv=>whnf
 intro b5
 conv=>whnf
 repeat (refine ⟨_,_,Rem.here _,⟨Nat.le_of_ble_eq_true rfl,rfl⟩,?_⟩;conv=>whnf)
 refine ⟨fun hq=>?_,fun hq=>?_⟩
 ·rw [if_pos hq] at hb
  conv=>whnf
  exact ⟨by rw [hb],rfl⟩
 ·rw [if_neg (by rw [show _=false from hq];decide)] at hb
  conv=>whnf
  skip
  exact ⟨by rw [hb],rfl⟩
end Go.Abs.Wall
