/- What is proved: small laws for the walks of this seat, and contracts of its functions. No condition but those each theorem names. -/
import Derived.Test.YtbmcnieifibckaaGreatN23
import Derived.Test.YtbmcnieifibckaaGreatN24
import Derived.Test.YtbmcnieifibckaaGreatN8
import Derived.Test.YtbmcnieifibckaaGreatN9
set_option maxRecDepth 100000
set_option maxHeartbeats 2000000
set_option linter.unusedVariables false
set_option linter.unusedSimpArgs false
namespace Go.Abs.Wall.Spl
open Go Go.Abs Go.Proofs Go.Abs.Wall
def c59:Cfg:=⟨[0,1,2,3,4,5,33,38,54],[],[],[],[],[]⟩
def c24:Cfg:=⟨[0,1,2,3,4,5,9,14],[],[],[],[],[]⟩
theorem r7Right (H:Hou) (B:Hab) (hB:HabFit B) (hh:HouFit H):QCall Tryz.prog 59 [.agg (encHou H),.agg (encHab B)] [] (.bool (rightM H B)):=by
 have hb:=hB.signs
 have hls:=hh.list.signs
 unfold LMAX at hls
 obtain ⟨R,hR⟩:∃ R,R=rightM H B:=⟨_,rfl⟩
 rw [← hR]
 unfold rightM at hR
 refine fcalls (F:=Tryz.f59) c59 rfl rfl rfl mixed rfl fun X=>?_
 conv=>whnf
 skip
 refine ⟨fun h0=>?_,fun h0=>?_⟩
 ·have h0:((((!decide (((ints B.signs).length:Int)=((H.list.signs.map encSgn).length:Int))||decide (B.rpt<0))||decide (2<B.rpt))||decide (B.cls<0))||decide (2<B.cls))=true:=h0
  rw [ints_length,List.length_map] at h0
  simp only [Bool.or_eq_true,Bool.not_eq_true',decide_eq_false_iff_not,decide_eq_true_eq] at h0
  have hf:R=false:=by
   rw [hR,← Bool.not_eq_true]
   simp only [Bool.and_eq_true,decide_eq_true_eq,wthn_iff]
   omega
  conv=>whnf
  skip
  exact ⟨by rw [hf],rfl⟩
 have h0:((((!decide (((ints B.signs).length:Int)=((H.list.signs.map encSgn).length:Int))||decide (B.rpt<0))||decide (2<B.rpt))||decide (B.cls<0))||decide (2<B.cls))=false:=h0
 rw [ints_length,List.length_map] at h0
 simp only [Bool.or_eq_false_iff,Bool.not_eq_false',decide_eq_false_iff_not,decide_eq_true_eq] at h0
 have hR2:R=!B.signs.any badN:=by
  rw [hR]
  have:((decide ((B.signs.length:Int)=H.list.signs.length)&&wthn B.rpt 0 2)&&wthn B.cls 0 2)=true:=by
   simp only [Bool.and_eq_true,decide_eq_true_eq,wthn_iff]
   omega
  rw [this,Bool.true_and]
 conv=>whnf
 skip
 refine sloop rfl mixed [3,5] [] (fun m r h=>∃ (i:Nat),r=[(3,[],.iptr (encHab B)),(5,[],.int .i64 i)]∧h=[]∧m=B.signs.length - i∧i≤B.signs.length∧R=!(B.signs.drop i).any badN) ?_ ?_
 ·conv=>whnf
  exact ⟨_,0,rfl,rfl,rfl,by omega,by simpa using hR2⟩
 ·rintro m r h ⟨i,rfl,rfl,rfl,hi,hg⟩
  conv=>whnf
  refine ⟨fun hz=>?_,fun hz=>?_⟩<;>simp [ints_length] at hz
  ·obtain ⟨n,hn⟩:=get_lt hz
   rw [drop_cons hn,List.any_cons] at hg
   conv=>whnf
   repeat (refine ix (by assumption) ?_;conv=>whnf)
   refine ⟨fun hq=>?_,fun hq=>?_⟩
   ·have hq:(decide (n < -1)||decide (1000<n))=true:=hq
    have hb:badN n=true:=by
     unfold badN
     rw [Bool.not_eq_true',← Bool.not_eq_true,wthn_iff]
     simp at hq
     omega
    rw [hb] at hg
    conv=>whnf
    skip
    exact ⟨by rw [hg];rfl,rfl⟩
   ·have hq:(decide (n < -1)||decide (1000<n))=false:=hq
    have hb:badN n=false:=by
     unfold badN
     rw [Bool.not_eq_false',wthn_iff]
     simp at hq
     omega
    rw [hb,Bool.false_or] at hg
    conv=>whnf
    repeat (refine ⟨gP_of ⟨by omega,by omega⟩,?_⟩;conv=>whnf)
    exact ⟨_,by omega,i+1,rfl,rfl,rfl,by omega,hg⟩
  ·rw [drop_nil (by omega)] at hg
   conv=>whnf
   skip
   exact ⟨by rw [hg];rfl,rfl⟩
theorem r7CheckHab (H:Hou) (B:Hab) (hf:HouFit H) (hB:HabFit B):QCall Tryz.prog 24 [.agg (encHou H),.agg (encHab B)] [] (.int .i64 (habErr H B)):=by
 refine fcalls (F:=Tryz.f24) c24 rfl rfl rfl mixed rfl fun X=>?_
 conv=>whnf
 repeat (refine QCall.k0 (refHouse H hf) ?_;conv=>whnf)
 refine ⟨fun h0=>?_,fun h0=>?_⟩<;>simp at h0
 ·rw [habErr,if_pos h0]
  conv=>whnf
  exact ⟨rfl,rfl⟩
 rw [habErr,if_neg (by omega)]
 conv=>whnf
 repeat (refine QCall.k0 (r7Right H B hB hf) ?_;conv=>whnf)
 refine ⟨fun h1=>?_,fun h1=>?_⟩
 ·have h1:(!rightM H B)=true:=h1
  rw [Bool.not_eq_true'] at h1
  rw [if_neg (by rw [h1];decide)]
  conv=>whnf
  exact ⟨rfl,rfl⟩
 ·have h1:(!rightM H B)=false:=h1
  rw [Bool.not_eq_false'] at h1
  rw [if_pos h1]
  conv=>whnf
  exact ⟨rfl,rfl⟩
end Go.Abs.Wall.Spl
namespace Go.Abs.Wall.Spl
open Go Go.Abs Go.Proofs Go.Abs.Wall
end Go.Abs.Wall.Spl
namespace Go.Abs.Wall.Spl
open Go Go.Abs Go.Proofs Go.Abs.Wall
def kindB (k:Int) (u:Use):Bool:=decide (u.kind=k)
def hasK (k:Int) (us:List Use):Bool:=us.any (kindB k)
end Go.Abs.Wall.Spl
