/- What is proved: small laws for the walks of this seat, and contracts of its functions. No condition but those each theorem names. -/
import Derived.Test.YtbmcnieifibckaaGreatN9
import Derived.Test.YtbmcnieifibckaaGreatN8
set_option maxRecDepth 100000
set_option maxHeartbeats 2000000
set_option linter.unusedVariables false
set_option linter.unusedSimpArgs false
namespace Go.Abs.Wall
open Go Go.Abs Go.Proofs
structure TabOK (H:Hou) (tbl:List (List Use)) (a:Nat) (f:Frm):Prop where
 hou:HouOK H
 fit:HouFit H
 entry:0≤f.entry∧f.entry<H.lex.entries.length
 ending:-1≤f.ending∧f.ending<H.lex.endings.length
 uses:∀ us∈tbl,us.length≤1048576∧∀ u∈us,UseOK u
 len:tbl.length≤1048576
 at_:a≤tbl.length
theorem TabOK.sp {H:Hou} {tbl:List (List Use)} {a:Nat} {f:Frm} (h:TabOK H tbl a f):SpOK (spOf H f):=spAt (at_:=0) h.hou h.entry.1 h.entry.2 h.ending.2
end Go.Abs.Wall
namespace Go.Abs.Wall
open Go Go.Abs Go.Proofs
structure TabW (H:Hou) (tbl:List (List Use)) (a:Nat):Prop where
 hou:HouOK H
 fit:HouFit H
 uses:∀ us∈tbl,us.length≤1048576∧∀ u∈us,UseOK u
 len:tbl.length≤1048576
 at_:a≤tbl.length
theorem TabW.ok {H:Hou} {tbl:List (List Use)} {a:Nat} (h:TabW H tbl a) {e n:Int} (he:0≤e∧e<H.lex.entries.length) (hn:-1≤n∧n<H.lex.endings.length):TabOK H tbl a ⟨e,n,[]⟩:=⟨h.hou,h.fit,he,hn,h.uses,h.len,h.at_⟩
theorem TabW.all {H:Hou} {tbl:List (List Use)} {a:Nat} (h:TabW H tbl a):((tbl.drop a).take 12).length≤12∧∀ us∈(tbl.drop a).take 12,us.length≤1048576∧∀ u∈us,UseOK u:=
 ⟨by rw [List.length_take];omega,fun us hus=>h.uses us (List.mem_of_mem_drop (List.mem_of_mem_take hus))⟩
end Go.Abs.Wall
namespace Go.Abs.Wall
open Go Go.Abs Go.Proofs
def c37:Cfg:=⟨[0,1,2,4,5,41],[],[5],[],[],[]⟩
end Go.Abs.Wall
namespace Go.Abs.Wall
open Go Go.Abs Go.Proofs
def largeM (H:Hou) (line:List Int):Bool:=
 if ((decide (60<(H.lex.entries.length:Int))&&decide ((H.lex.entries.length:Int)≤200))||(decide (12<(H.lex.endings.length:Int))&&decide ((H.lex.endings.length:Int)≤40))||(decide (6<(H.lex.clitics.length:Int))&&decide ((H.lex.clitics.length:Int)≤10)))=true then true
 else decide (16<(line.length:Int))&&decide ((line.length:Int)≤60)
theorem largeW (H:Hou) (line:List Int):QCall Tryz.prog 37 [.agg (encHou H),.sl 1 none (ints line)] [] (.bool (largeM H line)):=by
 obtain ⟨b,hb⟩:∃ b,b=largeM H line:=⟨_,rfl⟩
 rw [← hb]
 unfold largeM at hb
 rw [← List.length_map (f:=encEnt),← List.length_map (f:=encEdn),← List.length_map (f:=encCli),← ints_length] at hb
 refine fcalls (F:=Tryz.f37) c37 rfl rfl rfl mixed rfl fun X=>?_
 conv=>whnf
 intro b5
 conv=>whnf
 repeat (refine ⟨_,_,Rem.here _,⟨Nat.le_of_ble_eq_true rfl,rfl⟩,?_⟩;conv=>whnf)
 refine ⟨fun hq=>?_,fun hq=>?_⟩
 ·rw [if_pos hq] at hb
  conv=>whnf
  exact ⟨by rw [hb],rfl⟩
 ·rw [if_neg (by rw [show _=false from hq];decide)] at hb
  conv=>whnf
  skip
  exact ⟨by rw [hb],rfl⟩
end Go.Abs.Wall
