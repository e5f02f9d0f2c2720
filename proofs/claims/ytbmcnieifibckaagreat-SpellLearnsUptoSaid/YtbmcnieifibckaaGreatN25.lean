/- What is proved: small laws for the walks of this seat, and contracts of its functions. No condition but those each theorem names. -/
import Derived.Test.YtbmcnieifibckaaGreatN23
import Derived.Test.YtbmcnieifibckaaGreatN24
import Derived.Test.YtbmcnieifibckaaGreatN8
import Derived.Test.YtbmcnieifibckaaGreatN9
set_option maxRecDepth 100000
set_option maxHeartbeats 2000000
set_option linter.unusedVariables false
set_option linter.unusedSimpArgs false
namespace Go.Abs.Wall.Spl
open Go Go.Abs Go.Proofs Go.Abs.Wall
def c33:Cfg:=⟨[0,1,2,3,4],[],[],[],[],[]⟩
theorem sameHab (A B:Hab) (ha:A.signs.length≤LMAX) (hb:B.signs.length≤LMAX):QCall Tryz.prog 33 [.agg (encHab A),.agg (encHab B)] [] (.bool (decide (A.rpt=B.rpt)&&decide (A.cls=B.cls)&&decide (A.signs=B.signs))):=by
 refine fcalls (F:=Tryz.f33) c33 rfl rfl rfl mixed rfl fun X=>?_
 conv=>whnf
 repeat (refine gcall (sameInts A.signs B.signs ha hb) ?_;conv=>whnf)
 exact ⟨rfl,rfl⟩
end Go.Abs.Wall.Spl
namespace Go.Abs.Wall.Spl
open Go Go.Abs Go.Proofs Go.Abs.Wall
end Go.Abs.Wall.Spl
namespace Go.Abs.Wall.Spl
open Go Go.Abs Go.Proofs Go.Abs.Wall
def kindB (k:Int) (u:Use):Bool:=decide (u.kind=k)
def hasK (k:Int) (us:List Use):Bool:=us.any (kindB k)
def nextR:List Use→Bool
 | []=>false
 | v::_=>decide (v.kind=3)
def canU:List Use→Int
 | []=>0
 | u::t=>canU t+(if hvU u=true then 1 else 0)
def areU:List Use→Int
 | []=>0
 | u::t=>areU t+(if (hvU u&&nextR t)=true then 1 else 0)
theorem canU_in:∀ us:List Use,0≤areU us∧areU us≤canU us∧canU us≤us.length
 | []=>by simp [areU,canU]
 | u::t=>by
   have h:=canU_in t
   rw [areU,canU,List.length_cons]
   cases hvU u<;>cases nextR t<;>simp<;>omega
def c85:Cfg:=⟨[0,2,3,4,5,6,7,8,9,15,31],[],[5],[],[],[]⟩
def c144:Cfg:=⟨[0,1,2,3],[],[],[],[],[]⟩
def c86:Cfg:=⟨[0,1,3,4],[],[],[],[],[]⟩
theorem spHasF (k:Int) (u:Use):QCall Tryz.prog 144 [.agg (encUse u),.iptr [.int .i64 k]] [] (.bool (kindB k u)):=by
 refine fcalls (F:=Tryz.f144) c144 rfl rfl rfl mixed rfl fun X=>?_
 conv=>whnf
 skip
 exact ⟨rfl,rfl⟩
theorem spHas (us:List Use) (k:Int) (hl:us.length≤LMAX):QCall Tryz.prog 86 [.sl 2 none (us.map encUse),.int .i64 k] [] (.bool (hasK k us)):=by
 have hc:=cfUses us hl 144 [.iptr [.int .i64 k]] (kindB k) fun u _=>spHasF k u
 refine fcalls (F:=Tryz.f86) c86 rfl rfl rfl mixed rfl fun X=>?_
 conv=>whnf
 repeat (refine QCall.k0 (hc) ?_;conv=>whnf)
 exact ⟨rfl,rfl⟩
theorem spCounts (us:List Use) (hl:us.length≤1048576):QCall Tryz.prog 85 [.sl 2 none (us.map encUse)] [] (.tup [.int .i64 (canU us),.int .i64 (areU us)]):=by
 have hall:=canU_in us
 refine fcalls (F:=Tryz.f85) c85 rfl rfl rfl mixed rfl fun X=>?_
 conv=>whnf
 skip
 refine sloop rfl mixed [0,2,3,6,7,8] [] (fun m r h=>∃ (i:Nat) (c a:Int),r=[(0,[],.sl 2 none (us.map encUse)),(2,[],.int .i64 c),(3,[],.int .i64 a),(6,[],.sl 2 none (us.map encUse)),(7,[],.int .i64 (us.map encUse).length),(8,[],.int .i64 i)]∧h=[]∧m=us.length - i∧i≤us.length∧(0≤c∧c≤i)∧(0≤a∧a≤i)∧canU us=c+canU (us.drop i)∧areU us=a+areU (us.drop i)) ?_ ?_
 ·conv=>whnf
  exact ⟨_,0,0,0,rfl,rfl,rfl,by omega,⟨by omega,by omega⟩,⟨by omega,by omega⟩,by simp,by simp⟩
 ·rintro m r h ⟨i,c,a,rfl,rfl,rfl,hi,hc,ha,h1,h2⟩
  conv=>whnf
  refine ⟨fun hz=>?_,fun hz=>?_⟩<;>simp at hz
  ·obtain ⟨u,hu⟩:=get_lt hz
   rw [drop_cons hu,canU] at h1
   rw [drop_cons hu,areU] at h2
   conv=>whnf
   repeat ((first|refine ix (by assumption) ?_|refine QCall.k0 (spHeavy u) ?_|refine ⟨_,_,Rem.here _,⟨Nat.le_of_ble_eq_true rfl,rfl⟩,?_⟩|intro (nb:Nat));conv=>whnf)
   refine ⟨fun hq=>?_,fun hq=>?_⟩
   ·have hq:(!hvU u)=true:=hq
    rw [Bool.not_eq_true'] at hq
    rw [hq] at h1 h2
    conv=>whnf
    repeat (refine ⟨gP_of ⟨by omega,by omega⟩,?_⟩;conv=>whnf)
    exact ⟨_,by omega,i+1,c,a,rfl,rfl,rfl,by omega,⟨by omega,by omega⟩,⟨by omega,by omega⟩,by simpa using h1,by simpa using h2⟩
   ·have hq:(!hvU u)=false:=hq
    rw [Bool.not_eq_false'] at hq
    rw [hq] at h1 h2
    simp only [if_true,Bool.true_and] at h1 h2
    by_cases hn:i+1<us.length
    ·obtain ⟨v,hv⟩:=get_lt hn
     have hnr:nextR (us.drop (i+1))=decide (v.kind=3):=by rw [drop_cons hv];rfl
     rw [hnr] at h2
     conv=>whnf
     repeat ((first|refine ⟨gP_of ⟨by omega,by omega⟩,?_⟩|refine ix (by assumption) ?_);conv=>whnf)
     refine ⟨fun hr=>?_,fun hr=>?_⟩
     ·have hr:(decide ((i:Int)+1<((us.map encUse).length:Int))&&decide (v.kind=3))=true:=hr
      rw [Bool.and_eq_true] at hr
      rw [if_pos hr.2] at h2
      conv=>whnf
      repeat (refine ⟨gP_of ⟨by omega,by omega⟩,?_⟩;conv=>whnf)
      exact ⟨_,by omega,i+1,c+1,a+1,rfl,rfl,rfl,by omega,⟨by omega,by omega⟩,⟨by omega,by omega⟩,by omega,by omega⟩
     ·have hr:(decide ((i:Int)+1<((us.map encUse).length:Int))&&decide (v.kind=3))=false:=hr
      rw [List.length_map,decide_eq_true (by omega),Bool.true_and] at hr
      rw [if_neg (by rw [hr];decide)] at h2
      conv=>whnf
      repeat (refine ⟨gP_of ⟨by omega,by omega⟩,?_⟩;conv=>whnf)
      exact ⟨_,by omega,i+1,c+1,a,rfl,rfl,rfl,by omega,⟨by omega,by omega⟩,⟨by omega,by omega⟩,by omega,by omega⟩
    ·have hnr:nextR (us.drop (i+1))=false:=by rw [List.drop_eq_nil_of_le (by omega)];rfl
     rw [hnr] at h2
     conv=>whnf
     repeat ((first|refine ⟨gP_of ⟨by omega,by omega⟩,?_⟩|(refine ⟨0,encUse u,?_,?_⟩;(focus (conv=>whnf;skip));(focus (intro hq1;exact absurd (of_decide_eq_true hq1) (by rw [List.length_map];omega)))));conv=>whnf)
     refine cF (by simp;omega) ?_
     rw [if_neg (by decide)] at h2
     conv=>whnf
     repeat (refine ⟨gP_of ⟨by omega,by omega⟩,?_⟩;conv=>whnf)
     exact ⟨_,by omega,i+1,c+1,a,rfl,rfl,rfl,by omega,⟨by omega,by omega⟩,⟨by omega,by omega⟩,by omega,by omega⟩
  ·rw [drop_nil (by omega)] at h1 h2
   conv=>whnf
   skip
   refine ⟨?_,rfl⟩
   rw [h1,h2]
   simp [canU,areU]
end Go.Abs.Wall.Spl
