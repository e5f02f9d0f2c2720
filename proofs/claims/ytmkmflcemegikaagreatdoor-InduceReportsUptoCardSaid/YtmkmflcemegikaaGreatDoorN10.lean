/- What is proved: small laws for the walks of this seat, and contracts of its functions. No condition but those each theorem names. -/
import Derived.Test.YtmkmflcemegikaaGreatDoorN9
import Derived.Test.YtmkmflcemegikaaGreatDoorN8
set_option maxRecDepth 100000
set_option maxHeartbeats 2000000
set_option linter.unusedVariables false
set_option linter.unusedSimpArgs false
namespace Go.Abs.Wall
open Go Go.Abs Go.Proofs
end Go.Abs.Wall
namespace Go.Abs.Wall
open Go Go.Abs Go.Proofs
end Go.Abs.Wall
namespace Go.Abs.Wall
open Go Go.Abs Go.Proofs
def c37:Cfg:=⟨[0,1,2,3,6,7,8,9,14,20,27],[],[],[],[],[]⟩
def c4:Cfg:=⟨[0,1,2,4,5,41],[],[5],[],[],[]⟩
def wordsE (H:Hou) (line:List Int) (a:Int):Int:=
 if lineErr H line≠0 then lineErr H line else if wthn a 0 line.length=false then 1 else if 2000<(edgsAt H line a.toNat).length then 2 else 0
def wordsLs (H:Hou) (line:List Int) (a:Int):List Edg:=if wordsE H line a=0 then edgsAt H line a.toNat else []
theorem wordsX (H:Hou) (line:List Int) (a:Int) (hf:HouFit H) (hl:line.length≤1048576) :
  QCall Tryz.prog 37 [.agg (encHou H),.sl 1 none (ints line),.int .i64 a] [] (.tup [.sl 7 none ((wordsLs H line a).map encEdg),.int .i64 (wordsE H line a)]):=by
 refine QCall.of ?_
 refine fcalls (F:=Tryz.f37) c37 rfl rfl rfl mixed rfl fun X=>?_
 conv=>whnf
 repeat (refine QCall.k0 (checkW H line hf (by unfold LMAX;omega)) ?_;conv=>whnf)
 refine ⟨fun h1=>?_,fun h1=>?_⟩<;>simp at h1
 ·have he:wordsE H line a=lineErr H line:=by rw [wordsE,if_pos h1]
  conv=>whnf
  skip
  rw [wordsLs,he,if_neg h1]
  exact VLe.tup (.cons (VLe.nil (by decide)) (.cons (VLe.refl _) .nil))
 have hL:=lineOK h1
 conv=>whnf
 repeat (refine QCall.k0 (within _ _ _) ?_;conv=>whnf)
 refine ⟨fun h2=>?_,fun h2=>?_⟩
 ·have h2:(!wthn a 0 ((ints line).length:Int))=true:=h2
  rw [ints_length,Bool.not_eq_true'] at h2
  have he:wordsE H line a=1:=by rw [wordsE,if_neg (by omega),if_pos h2]
  conv=>whnf
  skip
  rw [wordsLs,he,if_neg (by decide)]
  exact VLe.tup (.cons (VLe.nil (by decide)) (.cons (VLe.refl _) .nil))
 have h2:(!wthn a 0 ((ints line).length:Int))=false:=h2
 rw [ints_length,Bool.not_eq_false',wthn_iff] at h2
 obtain ⟨n,rfl⟩:∃ n:Nat,a=(n:Int):=⟨a.toNat,by omega⟩
 have h0':wordsE H line n=if 2000<(edgsAt H line n).length then 2 else 0:=by rw [wordsE,if_neg (by omega),if_neg (by rw [Bool.not_eq_false,wthn_iff];omega)];rfl
 conv=>whnf
 repeat (refine QCall.k0 (wordsW H line n 2000 hL.hou hf hL.signs hl (by omega) (by decide)) ?_;conv=>whnf)
 by_cases hb:(edgsAt H line n).length≤2000
 ·rw [if_neg (by omega)] at h0'
  rw [wordsM_fits hb]
  refine cF (by simp;omega) ?_
  conv=>whnf
  skip
  rw [wordsLs,h0',if_pos rfl]
  exact VLe.refl _
 ·rw [if_pos (by omega)] at h0'
  have hlg:=wordsM_long (H:=H) (line:=line) (at_:=n) (most:=2000) (by omega)
  refine cT (by rw [List.length_map,hlg];decide) ?_
  conv=>whnf
  skip
  rw [wordsLs,h0',if_neg (by decide)]
  exact VLe.tup (.cons (VLe.nil (by decide)) (.cons (VLe.refl _) .nil))
end Go.Abs.Wall
namespace Go.Abs.Wall
open Go Go.Abs Go.Proofs
def largeM (H:Hou) (line:List Int):Bool:=
 if ((decide (60<(H.lex.entries.length:Int))&&decide ((H.lex.entries.length:Int)≤200))||(decide (12<(H.lex.endings.length:Int))&&decide ((H.lex.endings.length:Int)≤40))||(decide (6<(H.lex.clitics.length:Int))&&decide ((H.lex.clitics.length:Int)≤10)))=true then true
 else decide (16<(line.length:Int))&&decide ((line.length:Int)≤60)
theorem largeW (H:Hou) (line:List Int):QCall Tryz.prog 4 [.agg (encHou H),.sl 1 none (ints line)] [] (.bool (largeM H line)):=by
 obtain ⟨b,hb⟩:∃ b,b=largeM H line:=⟨_,rfl⟩
 rw [← hb]
 unfold largeM at hb
 rw [← List.length_map (f:=encEnt),← List.length_map (f:=encEdn),← List.length_map (f:=encCli),← ints_length] at hb
 refine fcalls (F:=Tryz.f4) c4 rfl rfl rfl mixed rfl fun X=>?_
 conv=>whnf
 intro b5
 conv=>whnf
 repeat (refine ⟨_,_,Rem.here _,⟨Nat.le_of_ble_eq_true rfl,rfl⟩,?_⟩;conv=>whnf)
 refine ⟨fun hq=>?_,fun hq=>?_⟩
 ·rw [if_pos hq] at hb
  conv=>whnf
  exact ⟨by rw [hb],rfl⟩
 ·rw [if_neg (by rw [show _=false from hq];decide)] at hb
  conv=>whnf
  skip
  exact ⟨by rw [hb],rfl⟩
end Go.Abs.Wall
