/- What is proved: small laws for the walks of this seat, and contracts of its functions. No condition but those each theorem names. -/
import Derived.Test.YtbmcnieifibckaaGreatN13
import Derived.Test.YtbmcnieifibckaaGreatN17
set_option maxRecDepth 100000
set_option maxHeartbeats 2000000
set_option linter.unusedVariables false
set_option linter.unusedSimpArgs false
namespace Go.Abs.Wall.Lst
open Go Go.Abs Go.Proofs Go.Abs.Wall
theorem Wu {g:List (List av)} (hg:fX g) {i:Nat} (hi:i<g.length) {p:lQ} (hp:p∈bk g i) :
  ∃ es x q,g[i]?=some es/\x∈es/\q∈bk g x.to.toNat/\p=(x.cost+q.1,x::q.2):=by
 obtain ⟨es,bc⟩:=aL hi;have hE:=hg.aO i es bc;rw [vl bc hE,List.mem_map] at hp;obtain ⟨w,hw,rfl⟩:=hp;obtain ⟨t,ht⟩:=List.mem_iff_getElem?.1 hw;obtain ⟨_,l,h2,h3⟩:=jR ht;unfold cP at h2;rw [List.getElem?_map] at h2;cases hx:es[w.aO]? with
 | none=>rw [hx] at h2;cases h2
 | some x=>
   rw [hx] at h2;cases h2
   unfold lR at h3;rw [List.getElem?_map] at h3;cases hq:(bk g x.to.toNat)[w.aM]? with
   | none=>rw [hq] at h3;cases h3
   | some q=>
     rw [hq] at h3;have h3:x.cost+q.1=w.cost:=(by simpa using h3);refine ⟨es,x,q,bc,List.mem_of_getElem? hx,List.mem_of_getElem? hq,?_⟩;unfold lf;rw [hx];show (w.cost,x::((bk g x.to.toNat).getD w.aM (0,[])).2)=_;rw [List.getD_eq_getElem?_getD,hq,h3];rfl
end Go.Abs.Wall.Lst
