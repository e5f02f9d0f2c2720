/- Small laws for the walks and contracts of functions; each theorem names its conditions. -/
import Derived.Test.YthmcbjcgdfmmaaaGreatN13
import Derived.Test.YthmcbjcgdfmmaaaGreatN17
set_option maxRecDepth 100000
set_option maxHeartbeats 2000000
namespace Go.Abs.Wall.Lst
open Go Go.Abs Go.Proofs Go.Abs.Wall
theorem Vp {g:List (List ar)} (hg:fJ g) {i:Nat} (hi:i<g.length) {p:nQ} (hp:p∈bz g i) :
  ∃ es x q,g[i]?=some es/\x∈es/\q∈bz g x.to.toNat/\p=(x.cost+q.1,x::q.2):=by
 obtain ⟨es,bp⟩:=aF hi;have hE:=hg.aR i es bp;rw [wM bp hE,List.mem_map] at hp;obtain ⟨w,hw,rfl⟩:=hp;obtain ⟨t,ht⟩:=List.mem_iff_getElem?.1 hw;obtain ⟨_,l,h2,h3⟩:=mG ht;unfold dE at h2;rw [List.getElem?_map] at h2;cases hx:es[w.aR]? with
 | none=>rw [hx] at h2;cases h2
 | some x=>
   rw [hx] at h2;cases h2
   unfold pB at h3;rw [List.getElem?_map] at h3;cases hq:(bz g x.to.toNat)[w.aO]? with
   | none=>rw [hq] at h3;cases h3
   | some q=>
     rw [hq] at h3;have h3:x.cost+q.1=w.cost:=(by simpa using h3);refine ⟨es,x,q,bp,List.mem_of_getElem? hx,List.mem_of_getElem? hq,?_⟩;unfold nR;rw [hx];show (w.cost,x::((bz g x.to.toNat).getD w.aO (0,[])).2)=_;rw [List.getD_eq_getElem?_getD,hq,h3];rfl
end Go.Abs.Wall.Lst
