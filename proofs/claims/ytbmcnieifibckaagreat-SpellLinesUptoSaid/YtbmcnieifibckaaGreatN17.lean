/- What is proved: small laws for the walks of this seat, and contracts of its functions. No condition but those each theorem names. -/
import Derived.Test.YtbmcnieifibckaaGreatN16
import Derived.Test.YtbmcnieifibckaaGreatN14
set_option maxRecDepth 100000
set_option maxHeartbeats 2000000
set_option linter.unusedVariables false
set_option linter.unusedSimpArgs false
namespace Go.Abs.Wall.Lst
open Go Go.Abs Go.Proofs Go.Abs.Wall
theorem bestGo_take {m:Nat} {rs:Nat→Nat} (h:∀ j,rs j<m):∀ {ls:List (List Int)} {k:Nat},bestGo rs (ls.map (·.take m)) k=bestGo rs ls k
 | [],k=>rfl
 | l::ls,k=>by
   rw [List.map_cons]
   unfold bestGo
   rw [bestGo_take h,List.getElem?_take_of_lt (h k)]
theorem best_take {m:Nat} {rs:Nat→Nat} {cls:List (List Int)} (h:∀ j,rs j<m):best (cls.map (·.take m)) rs=best cls rs:=bestGo_take h
theorem stS_take (cls:List (List Int)) (m:Nat):∀ t,t≤m→stS (cls.map (·.take m)) t=stS cls t
 | 0,_=>rfl
 | t+1,ht=>by
   have ih:=stS_take cls m t (by omega)
   unfold stS at ih ⊢
   rw [stF_succ,stF_succ,ih,best_take fun j=>by have:=stS_le cls t j;unfold stS at this;omega]
theorem mgW_take (cls:List (List Int)) (m:Nat):(mgW (cls.map (·.take m))).take m=(mgW cls).take m:=by
 refine List.ext_getElem? fun t=>?_
 by_cases h:t<m
 ·rw [List.getElem?_take_of_lt h,List.getElem?_take_of_lt h,mgW_get,mgW_get,stS_take cls m t (by omega)]
  exact best_take fun j=>by have:=stS_le cls t j;omega
 ·rw [List.getElem?_take_eq_none (by omega),List.getElem?_take_eq_none (by omega)]
end Go.Abs.Wall.Lst
namespace Go.Abs.Wall.Lst
open Go Go.Abs Go.Proofs Go.Abs.Wall
def slP (l:List (List Edg)):AV:=.sl 1 none (l.map encR)
theorem mrgL_nil (m:Nat):mrgL [] m=[]:=by
 unfold mrgL clsS mgW
 simp [remGo,gen]
theorem mergeNil (most:Nat) (hm:most≤64):QCall Tryz.prog 161 [.nilO,.int .i64 most] [] (slP []):=by
 refine QCall.of ?_
 refine fcalls (F:=Tryz.f161) c161 rfl rfl rfl mixed rfl fun X=>?_
 conv=>whnf
 skip
 refine sloop rfl mixed [0,1,5] [] (fun m r h=>r=[(0,[],.nilO),(1,[],.int .i64 most),(5,[],.nilS)]∧h=[]∧m=0∧True) ?_ ?_
 ·conv=>whnf
  exact ⟨_,rfl,rfl,rfl,trivial⟩
 ·rintro m r h' ⟨rfl,rfl,rfl,-⟩
  conv=>whnf
  skip
  refine ⟨fun hz=>?_,fun hz=>?_⟩<;>simp at hz
  ·conv=>whnf
   skip
   refine sloop rfl mixed [0,1,5,6,7] [] (fun m r h=>r=[(0,[],.nilO),(1,[],.int .i64 most),(5,[],.nilS),(6,[],.int .i64 (-1)),(7,[],.int .i64 0)]∧h=[]∧m=0∧True) ?_ ?_
   ·conv=>whnf
    exact ⟨_,rfl,rfl,rfl,trivial⟩
   ·rintro m r h' ⟨rfl,rfl,rfl,-⟩
    conv=>whnf
    skip
    refine ⟨fun hz2=>absurd (of_decide_eq_true hz2) (by omega),fun _=>?_⟩
    conv=>whnf
    skip
    refine ⟨fun _=>?_,fun hz3=>absurd hz3 (by decide)⟩
    conv=>whnf
    skip
    exact VLe.nil (by decide)
  ·conv=>whnf
   skip
   exact VLe.nil (by decide)
theorem _root_.Go.Abs.VsLe.pre {a b:List AV} (h:VsLe a b):∀ xs:List AV,VsLe (xs++a) (xs++b)
 | []=>h
 | x::xs=>.cons (VLe.refl x) (VsLe.pre h xs)
theorem VssLe.pre {a b:List (List AV)} (h:VssLe a b):∀ xs:List (List AV),VssLe (xs++a) (xs++b)
 | []=>h
 | x::xs=>.cons (VsLe.refl x) (VssLe.pre h xs)
theorem Turn.left {r:Regs} {A Z:Heap}:Turn r (A++Z) r A:=
 Turn.sub (fun k o hm=>List.mem_append_left _ hm) fun hn=>by
  unfold keys at hn ⊢
  rw [List.map_append] at hn
  exact (List.nodup_append.1 hn).1
def ORow (L:List (List (List Edg))) (v:AV) (hp:Heap):Prop:=(L=[]∧v=.nilO∧hp=[])∨∃ lb,L≠[]∧v=.osl lb 0 L.length 1∧hp=[(lb,.vec (L.map encS).flatten)]
end Go.Abs.Wall.Lst
namespace Go.Abs.Wall.Lst
open Go Go.Abs Go.Proofs Go.Abs.Wall
end Go.Abs.Wall.Lst
