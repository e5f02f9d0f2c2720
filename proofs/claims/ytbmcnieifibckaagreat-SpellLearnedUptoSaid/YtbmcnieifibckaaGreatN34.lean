/- What is proved: small laws for the walks of this seat, and contracts of its functions. No condition but those each theorem names. -/
import Derived.Test.YtbmcnieifibckaaGreatN20
import Derived.Test.YtbmcnieifibckaaGreatN12
import Derived.Test.YtbmcnieifibckaaGreatN14
import Derived.Test.YtbmcnieifibckaaGreatN10
import Derived.Test.YtbmcnieifibckaaGreatN9
set_option maxRecDepth 100000
set_option maxHeartbeats 2000000
set_option linter.unusedVariables false
set_option linter.unusedSimpArgs false
namespace Go.Abs.Wall.Lst
open Go Go.Abs Go.Proofs Go.Abs.Wall
theorem Bi {l:List Bool} {a j:Nat}:(l.set a true).getD j false=true↔l.getD j false=true\/(a=j/\j<l.length):=by
 rw [List.getD_eq_getElem?_getD,List.getD_eq_getElem?_getD,List.getElem?_set];by_cases h:a=j
 ·subst h;by_cases h2:a<l.length
  ·simp [h2]
  simp [h2]
 simp [h]
end Go.Abs.Wall.Lst
namespace Go.Abs.Wall.Lst
open Go Go.Abs Go.Proofs Go.Abs.Wall
end Go.Abs.Wall.Lst
namespace Go.Abs.Wall.Lst
open Go Go.Abs Go.Proofs Go.Abs.Wall
theorem Zw {H:aj} {line:List Int} (h:dX H line=0) (a b:Nat):dX H ((line.drop a).take b)=0:=by
 unfold dX at h ⊢;split at h
 ·rename_i h1;exact absurd h h1
 rename_i h1;split at h
 ·cases h
 rename_i h2;split at h
 ·cases h
 rename_i h3;rw [if_neg h1,if_neg (by rw [List.length_take,List.length_drop];omega),if_neg];rw [Bool.not_eq_true,List.any_eq_false] at h3 ⊢;exact fun x hx=>h3 x (List.mem_of_mem_drop (List.mem_of_mem_take hx))
theorem Hh {H:aj} {line:List Int} (h:df H line=0) {i:Nat} {es:List av} (hi:(bX H line)[i]?=some es) {x:av} (hx:x∈es) :
  fQ H ((line.drop i).take (x.to.toNat - i)) x.word=0/\vT H ((line.drop i).take (x.to.toNat - i)) x.word=x.cost/\Good x.word:=by
 have hl:=pM h;have aI:=(List.getElem?_eq_some_iff.1 hi).1;rw [oK] at aI;rw [rH aI] at hi;cases hi
 obtain ⟨⟨h1,h2,h3⟩,h4⟩:=(AH (mS hl) (xf hl) (by omega)).1 hx;have eS:x.to.toNat - i=x.word.ai.length:=by have:x.to.toNat=i+x.word.ai.length:=(congrArg (fun e:av=>e.to.toNat) h4).trans (by show ((i:Int)+x.word.ai.length).toNat=_;omega);omega
 rw [eS];have he:fQ H ((line.drop i).take x.word.ai.length) x.word=0:=by unfold fQ;rw [if_neg (by rw [Zw hl];simp),if_neg (by rw [h1];simp),if_pos h3]
 refine ⟨he,?_,PV (mS hl) (xf hl) (by omega) hx⟩;unfold vT;rw [if_pos he];exact (congrArg av.cost h4).symm
end Go.Abs.Wall.Lst
