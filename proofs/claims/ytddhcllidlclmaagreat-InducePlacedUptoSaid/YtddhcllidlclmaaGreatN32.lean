/- What is proved: small laws for the walks of this seat, and contracts of its functions. No condition but those each theorem names. -/
import Derived.Test.YtddhcllidlclmaaGreatN19
import Derived.Test.YtddhcllidlclmaaGreatN8
import Derived.Test.YtddhcllidlclmaaGreatN11
set_option maxRecDepth 100000
set_option maxHeartbeats 2000000
set_option linter.unusedVariables false
set_option linter.unusedSimpArgs false
namespace Go.Abs.Wall
open Go Go.Abs Go.Proofs Go.Proofs.YtddhcllidlclmaaGreat.Br
end Go.Abs.Wall
namespace Go.Abs.Wall
open Go Go.Abs Go.Proofs
theorem _root_.Go.Abs.VsLe.pre' {a b:List AV} (h:VsLe a b):∀ xs:List AV,VsLe (xs++a) (xs++b)
 | []=>h
 | x::xs=>.cons (VLe.refl x) (VsLe.pre' h xs)
theorem _root_.Go.Abs.VsLe.post':∀ {a b:List AV},VsLe a b→∀ xs:List AV,VsLe (a++xs) (b++xs)
 | _,_,.nil,xs=>VsLe.refl xs
 | _,_,.cons h1 h2,xs=>.cons h1 (h2.post' xs)
section
variable {α:Type} {k:Nat} {enc:α→List AV}
theorem flat_split (hk:∀ a,(enc a).length=k) {L:List α} {i:Nat} {x:α} (hx:L[i]?=some x):(L.map enc).flatten=((L.take i).map enc).flatten++(enc x++((L.drop (i+1)).map enc).flatten):=by
 have e:L=L.take i++x::L.drop (i+1):=by rw [← drop_cons hx,List.take_append_drop]
 have:=congrArg (fun z=>(z.map enc).flatten) e
 simpa using this
theorem flat_get (hk:∀ a,(enc a).length=k) {L:List α} {i j:Nat} {x:α} (hx:L[i]?=some x) (hj:j<k):(L.map enc).flatten[i*k+j]?=(enc x)[j]?:=by
 have hi:=(List.getElem?_eq_some_iff.1 hx).1
 have hpre:((L.take i).map enc).flatten.length=i*k:=by rw [flat_len hk,List.length_take,Nat.min_eq_left (by omega)]
 rw [flat_split hk hx,List.getElem?_append_right (by omega),hpre,Nat.add_sub_cancel_left,List.getElem?_append_left (by rw [hk];exact hj)]
theorem flat_setle (hk:∀ a,(enc a).length=k) {L:List α} {i j:Nat} {x y:α} {v:AV} (hx:L[i]?=some x) (hj:j<k) (hv:VsLe ((enc x).set j v) (enc y)) :
  VsLe (setC (L.map enc).flatten (i*k+j) [v]) ((L.set i y).map enc).flatten:=by
 have hi:=(List.getElem?_eq_some_iff.1 hx).1
 have hpre:((L.take i).map enc).flatten.length=i*k:=by rw [flat_len hk,List.length_take,Nat.min_eq_left (by omega)]
 have hlen:i*k+j<(L.map enc).flatten.length:=by
  rw [flat_len hk]
  have:=Nat.mul_le_mul_right k (show i+1≤L.length by omega)
  rw [Nat.succ_mul] at this
  omega
 have hset:(L.set i y)[i]?=some y:=by rw [List.getElem?_set_self hi]
 rw [setC_row hlen,flat_split hk hx,flat_split hk hset,List.set_append,if_neg (by omega),hpre,Nat.add_sub_cancel_left,List.set_append,if_pos (by rw [hk];exact hj),List.take_set_of_le (Nat.le_refl _),List.drop_set_of_lt (Nat.lt_succ_self _)]
 exact VsLe.pre' (VsLe.post' hv _) _
end
theorem encSgn_len:∀ a,(encSgn a).length=5:=fun _=>rfl
end Go.Abs.Wall
