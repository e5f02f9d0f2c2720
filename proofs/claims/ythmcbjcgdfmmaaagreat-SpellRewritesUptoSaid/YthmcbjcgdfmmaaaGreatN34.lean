/- Small laws for the walks and contracts of functions; each theorem names its conditions. -/
import Derived.Test.YthmcbjcgdfmmaaaGreatN20
import Derived.Test.YthmcbjcgdfmmaaaGreatN12
import Derived.Test.YthmcbjcgdfmmaaaGreatN14
import Derived.Test.YthmcbjcgdfmmaaaGreatN10
import Derived.Test.YthmcbjcgdfmmaaaGreatN9
set_option maxRecDepth 100000
set_option maxHeartbeats 2000000
namespace Go.Abs.Wall.Lst
open Go Go.Abs Go.Proofs Go.Abs.Wall
theorem DF {l:List Bool} {a j:Nat}:(l.set a true).getD j false=true↔l.getD j false=true\/(a=j/\j<l.length):=by
 rw [List.getD_eq_getElem?_getD,List.getD_eq_getElem?_getD,List.getElem?_set];by_cases h:a=j
 ·subst h;by_cases h2:a<l.length
  ·simp [h2]
  simp [h2]
 simp [h]
end Go.Abs.Wall.Lst
namespace Go.Abs.Wall.Lst
open Go Go.Abs Go.Proofs Go.Abs.Wall
end Go.Abs.Wall.Lst
namespace Go.Abs.Wall.Lst
open Go Go.Abs Go.Proofs Go.Abs.Wall
theorem YY {H:aD} {line:List Int} (h:gN H line=0) (a b:Nat):gN H ((line.drop a).take b)=0:=by
 unfold gN at h ⊢;split at h
 ·rename_i h1;exact absurd h h1
 rename_i h1;split at h
 ·cases h
 rename_i h2;split at h
 ·cases h
 rename_i h3;rw [if_neg h1,if_neg (by rw [List.length_take,List.length_drop];omega),if_neg];rw [Bool.not_eq_true,List.any_eq_false] at h3 ⊢;exact fun x hx=>h3 x (List.mem_of_mem_drop (List.mem_of_mem_take hx))
theorem Rb {H:aD} {line:List Int} (h:dU H line=0) {i:Nat} {es:List ar} (hi:(cZ H line)[i]?=some es) {x:ar} (hx:x∈es) :
  zr H ((line.drop i).take (x.to.toNat - i)) x.word=0/\Rc H ((line.drop i).take (x.to.toNat - i)) x.word=x.cost/\Good x.word:=by
 have hl:=JM h;have aP:=(List.getElem?_eq_some_iff.1 hi).1;rw [sM] at aP;rw [wH aP] at hi;cases hi
 obtain ⟨⟨h1,h2,h3⟩,h4⟩:=(Jm (Ar hl) (JL hl) (by omega)).1 hx;have jl:x.to.toNat - i=x.word.ay.length:=by have:x.to.toNat=i+x.word.ay.length:=(congrArg (fun e:ar=>e.to.toNat) h4).trans (by show ((i:Int)+x.word.ay.length).toNat=_;omega);omega
 rw [jl];have he:zr H ((line.drop i).take x.word.ay.length) x.word=0:=by unfold zr;rw [if_neg (by rw [YY hl];simp),if_neg (by rw [h1];simp),if_pos h3]
 refine ⟨he,?_,Wo (Ar hl) (JL hl) (by omega) hx⟩;unfold Rc;rw [if_pos he];exact (congrArg ar.cost h4).symm
end Go.Abs.Wall.Lst
