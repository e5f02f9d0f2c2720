/- Small laws for the walks and contracts of functions; each theorem names its conditions. -/
import Derived.Test.YthmcbjcgdfmmaaaGreatN19
import Derived.Test.YthmcbjcgdfmmaaaGreatN9
import Derived.Test.YthmcbjcgdfmmaaaGreatN10
set_option maxRecDepth 100000
set_option maxHeartbeats 2000000
namespace Go.Abs.Wall.Lst
open Go Go.Abs Go.Proofs Go.Abs.Wall
end Go.Abs.Wall.Lst
namespace Go.Abs.Wall.Lst
open Go Go.Abs Go.Proofs Go.Abs.Wall
theorem JL {H:aD} {line:List Int} (h:gN H line=0):js H.lex=0:=by
 unfold gN at h;split at h
 ·rename_i h1;exact absurd h h1
 rename_i h1;have h1:fA H=0:=(by simpa using h1);unfold fA at h1;split at h1
 ·rename_i h2;exact absurd h1 h2
 split at h1
 ·rename_i h2;exact absurd h1 h2
 rename_i h2;simpa using h2
structure Good (w:eJ):Prop where
 fit:nE w
 small:BZ w
 text:∀ u∈w.ay,u.text.length<=8
theorem Wo {H:aD} {line:List Int} (hL:Aq H line) (hle:js H.lex=0) {i:Nat} (hi:i<=line.length) {x:ar} (hx:x∈ei H line i):Good x.word:=by
 obtain ⟨⟨h1,h2,h3⟩,h4⟩:=(Jm hL hle hi).1 hx;have hf:=qF h1;have hm:=hf.lex.many;have hlen:=Io h3;have FU:=hf.bB;refine ⟨⟨by omega,by omega⟩,⟨⟨?_,?_,?_,by omega⟩,by omega⟩,?_⟩
 ·have:=hf.entry;omega
 ·rcases hf.ending with h|h<;>omega
 ·intro c hc;have:=hf.eh c hc;omega
 unfold tY at h3;rw [Bool.and_eq_true,Bool.and_eq_true,dL,decide_eq_true_eq] at h3;obtain ⟨⟨h5,h6⟩,h7⟩:=h3;rw [FB _ _ _ h6] at h7;intro u hu;exact (Jl hL.ka (fun s hs=>hL.aK s (List.mem_of_mem_drop (List.mem_of_mem_take hs))) h7.1 u hu).2.2.2
theorem JM {H:aD} {line:List Int} (h:dU H line=0):gN H line=0:=by
 unfold dU at h;split at h
 ·rename_i h1;exact absurd h h1
 rename_i h1;simpa using h1
theorem Pd {H:aD} {line:List Int} {most:Int} (h:ed H line most=0):dU H line=0/\1<=most/\most<=64/\bz (cZ H line) 0≠[]/\iX H line most=jo (cZ H line) most.toNat:=by
 have h':=h;unfold ed at h;split at h
 ·rename_i h1;exact absurd h h1
 rename_i h1;split at h
 ·rename_i h2;split at h
  ·cases h
  rename_i h3;exact ⟨by simpa using h1,h2.1,h2.2,h3,by unfold iX;rw [if_pos h']⟩
 cases h
end Go.Abs.Wall.Lst
