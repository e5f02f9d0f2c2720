/- What is proved: small laws for the walks of this seat, and contracts of its functions. No condition but those each theorem names. -/
import Derived.Test.YtmkmflcemegikaaGreatDoorN23
import Derived.Test.YtmkmflcemegikaaGreatDoorN17
set_option maxRecDepth 100000
set_option maxHeartbeats 2000000
set_option linter.unusedVariables false
set_option linter.unusedSimpArgs false
namespace Go.Abs.Wall.Lst
open Go Go.Abs Go.Proofs Go.Abs.Wall
def c19:Cfg:=⟨[0,1,4,5,9,40],[],[],[],[(4,[0,1,2,3,4,5,6,7,8,9,10,11,12,13,14,15,16,17,18,19,20,21,22,23,24,25,26,27,28],[])],[]⟩
theorem refChoice (l:List Int) (n:Int) (hl:l.length≤LMAX) (hn:0≤n∧n≤140737488355328):QCall Tryz.prog 19 [.sl 1 none (ints l),.int .i64 n] [] (.bool (risM l n)):=by
 refine fcalls (F:=Tryz.f19) c19 rfl rfl rfl mixed rfl fun X=>?_
 conv=>whnf
 unfold LMAX at hl
 skip
 refine sloop rfl mixed [0,1,5] [] (fun m r h=>∃ (i:Nat) (last:Int),r=[(0,[],.sl 1 none (ints l)),(1,[],.int .i64 n),(5,[],.int .i64 i)]∧h=[]∧m=l.length - i∧i≤l.length∧risM l n=risGo (l.drop i) n last∧((i=0∧last = -1)∨(0<i∧l[i - 1]?=some last))) ?_ ?_
 ·conv=>whnf
  exact ⟨_,0,-1,rfl,rfl,rfl,by omega,rfl,.inl ⟨rfl,rfl⟩⟩
 ·rintro m r h ⟨i,last,rfl,rfl,rfl,hi,hg,hla⟩
  conv=>whnf
  skip
  refine ⟨fun hc=>?_,fun hc=>?_⟩<;>simp at hc
  ·obtain ⟨x,hx⟩:=get_lt hc
   rw [drop_cons hx,risGo] at hg
   have hcond:((decide (x<0)||decide (n≤x))||(decide (0<(i:Int))&&decide (x≤l.getD ((i:Int) - 1).toNat 0)))=!(decide (0≤x)&&decide (x≤n - 1)&&decide (last<x)):=by
    rcases hla with ⟨rfl,rfl⟩|⟨h0,h1⟩
    ·rw [Bool.eq_iff_iff];simp;omega
    ·rw [show ((i:Int) - 1).toNat=i - 1 by omega,getD_of h1,Bool.eq_iff_iff]
     simp
     omega
   conv=>whnf
   repeat ((first|refine ⟨gP_of ⟨by omega,by omega⟩,?_⟩|refine ix (by assumption) ?_|(refine ixg (enc:=fun n=>[AV.int .i64 n]) (0:Int) ?_ ?_;(focus (conv=>whnf;skip));(focus (intro g0 g1;simp only [decide_eq_true_eq] at g1;show 0≤(i:Int) - 1∧(i:Int) - 1<(l.length:Int);omega)))|refine And.intro (by show drawOK (opsAt Tryz.f19 _) _=true;decide +kernel) ?_);conv=>whnf)
   refine ⟨fun hq=>?_,fun hq=>?_⟩
   ·have hq:=hcond.symm.trans hq
    rw [Bool.not_eq_true'] at hq
    rw [hq,Bool.false_and] at hg
    conv=>whnf
    skip
    exact ⟨congrArg AV.bool hg.symm,rfl⟩
   ·have hq:=hcond.symm.trans hq
    rw [Bool.not_eq_false'] at hq
    rw [hq,Bool.true_and] at hg
    conv=>whnf
    repeat (refine ⟨gP_of ⟨by omega,by omega⟩,?_⟩;conv=>whnf)
    exact ⟨_,by omega,i+1,x,rfl,rfl,rfl,by omega,hg,.inr ⟨by omega,by rw [Nat.add_sub_cancel];exact hx⟩⟩
  ·rw [drop_nil hc,risGo] at hg
   conv=>whnf
   skip
   exact ⟨congrArg AV.bool hg.symm,rfl⟩
end Go.Abs.Wall.Lst
namespace Go.Abs.Wall.Lst
open Go Go.Abs Go.Proofs Go.Abs.Wall
end Go.Abs.Wall.Lst
