/- What is proved: small laws for the walks of this seat, and contracts of its functions. No condition but those each theorem names. -/
import Derived.Test.YtbmcnieifibckaaGreatN23
import Derived.Test.YtbmcnieifibckaaGreatN24
import Derived.Test.YtbmcnieifibckaaGreatN8
import Derived.Test.YtbmcnieifibckaaGreatN9
set_option maxRecDepth 100000
set_option maxHeartbeats 2000000
set_option linter.unusedVariables false
set_option linter.unusedSimpArgs false
namespace Go.Abs.Wall.Spl
open Go Go.Abs Go.Proofs Go.Abs.Wall
def c59:Cfg:=⟨[0,1,2,3,4,5,33,38,54],[],[],[],[],[]⟩
def c24:Cfg:=⟨[0,1,2,3,4,5,9,14],[],[],[],[],[]⟩
theorem r7Right (H:Hou) (B:Hab) (hB:HabFit B) (hh:HouFit H):QCall Tryz.prog 59 [.agg (encHou H),.agg (encHab B)] [] (.bool (rightM H B)):=by
 have hb:=hB.signs
 have hls:=hh.list.signs
 unfold LMAX at hls
 obtain ⟨R,hR⟩:∃ R,R=rightM H B:=⟨_,rfl⟩
 rw [← hR]
 unfold rightM at hR
 refine fcalls (F:=Tryz.f59) c59 rfl rfl rfl mixed rfl fun X=>?_
 conv=>whnf
 skip
 refine ⟨fun h0=>?_,fun h0=>?_⟩
 ·have h0:((((!decide (((ints B.signs).length:Int)=((H.list.signs.map encSgn).length:Int))||decide (B.rpt<0))||decide (2<B.rpt))||decide (B.cls<0))||decide (2<B.cls))=true:=h0
  rw [ints_length,List.length_map] at h0
  simp only [Bool.or_eq_true,Bool.not_eq_true',decide_eq_false_iff_not,decide_eq_true_eq] at h0
  have hf:R=false:=by
   rw [hR,← Bool.not_eq_true]
   simp only [Bool.and_eq_true,decide_eq_true_eq,wthn_iff]
   omega
  conv=>whnf
  skip
  exact ⟨by rw [hf],rfl⟩
 have h0:((((!decide (((ints B.signs).length:Int)=((H.list.signs.map encSgn).length:Int))||decide (B.rpt<0))||decide (2<B.rpt))||decide (B.cls<0))||decide (2<B.cls))=false:=h0
 rw [ints_length,List.length_map] at h0
 simp only [Bool.or_eq_false_iff,Bool.not_eq_false',decide_eq_false_iff_not,decide_eq_true_eq] at h0
 have hR2:R=!B.signs.any badN:=by
  rw [hR]
  have:((decide ((B.signs.length:Int)=H.list.signs.length)&&wthn B.rpt 0 2)&&wthn B.cls 0 2)=true:=by
   simp only [Bool.and_eq_true,decide_eq_true_eq,wthn_iff]
   omega
  rw [this,Bool.true_and]
 conv=>whnf
 skip
 refine sloop rfl mixed [3,5] [] (fun m r h=>∃ (i:Nat),r=[(3,[],.iptr (encHab B)),(5,[],.int .i64 i)]∧h=[]∧m=B.signs.length - i∧i≤B.signs.length∧R=!(B.signs.drop i).any badN) ?_ ?_
 ·conv=>whnf
  exact ⟨_,0,rfl,rfl,rfl,by omega,by simpa using hR2⟩
 ·rintro m r h ⟨i,rfl,rfl,rfl,hi,hg⟩
  conv=>whnf
  refine ⟨fun hz=>?_,fun hz=>?_⟩<;>simp [ints_length] at hz
  ·obtain ⟨n,hn⟩:=get_lt hz
   rw [drop_cons hn,List.any_cons] at hg
   conv=>whnf
   repeat (refine ix (by assumption) ?_;conv=>whnf)
   refine ⟨fun hq=>?_,fun hq=>?_⟩
   ·have hq:(decide (n < -1)||decide (1000<n))=true:=hq
    have hb:badN n=true:=by
     unfold badN
     rw [Bool.not_eq_true',← Bool.not_eq_true,wthn_iff]
     simp at hq
     omega
    rw [hb] at hg
    conv=>whnf
    skip
    exact ⟨by rw [hg];rfl,rfl⟩
   ·have hq:(decide (n < -1)||decide (1000<n))=false:=hq
    have hb:badN n=false:=by
     unfold badN
     rw [Bool.not_eq_false',wthn_iff]
     simp at hq
     omega
    rw [hb,Bool.false_or] at hg
    conv=>whnf
    repeat (refine ⟨gP_of ⟨by omega,by omega⟩,?_⟩;conv=>whnf)
    exact ⟨_,by omega,i+1,rfl,rfl,rfl,by omega,hg⟩
  ·rw [drop_nil (by omega)] at hg
   conv=>whnf
   skip
   exact ⟨by rw [hg];rfl,rfl⟩
theorem r7CheckHab (H:Hou) (B:Hab) (hf:HouFit H) (hB:HabFit B):QCall Tryz.prog 24 [.agg (encHou H),.agg (encHab B)] [] (.int .i64 (habErr H B)):=by
 refine fcalls (F:=Tryz.f24) c24 rfl rfl rfl mixed rfl fun X=>?_
 conv=>whnf
 repeat (refine QCall.k0 (refHouse H hf) ?_;conv=>whnf)
 refine ⟨fun h0=>?_,fun h0=>?_⟩<;>simp at h0
 ·rw [habErr,if_pos h0]
  conv=>whnf
  exact ⟨rfl,rfl⟩
 rw [habErr,if_neg (by omega)]
 conv=>whnf
 repeat (refine QCall.k0 (r7Right H B hB hf) ?_;conv=>whnf)
 refine ⟨fun h1=>?_,fun h1=>?_⟩
 ·have h1:(!rightM H B)=true:=h1
  rw [Bool.not_eq_true'] at h1
  rw [if_neg (by rw [h1];decide)]
  conv=>whnf
  exact ⟨rfl,rfl⟩
 ·have h1:(!rightM H B)=false:=h1
  rw [Bool.not_eq_false'] at h1
  rw [if_pos h1]
  conv=>whnf
  exact ⟨rfl,rfl⟩
end Go.Abs.Wall.Spl
namespace Go.Abs.Wall.Spl
open Go Go.Abs Go.Proofs Go.Abs.Wall
theorem comV_len (H:Hou) (A B:Hab) (hA:HabFit A):(comV H A B).signs.length≤1048576:=by
 unfold comV
 split
 ·have:=comS_len A.signs B.signs
  have:=hA.signs
  show (comS A.signs B.signs).length≤_
  omega
 ·decide
end Go.Abs.Wall.Spl
namespace Go.Abs.Wall.Spl
open Go Go.Abs Go.Proofs Go.Abs.Wall
def negS (B:Hab) (s:Int):Bool:=decide (B.signs.getD s.toNat 0<0)
def kindB (k:Int) (u:Use):Bool:=decide (u.kind=k)
def hasK (k:Int) (us:List Use):Bool:=us.any (kindB k)
def nextR:List Use→Bool
 | []=>false
 | v::_=>decide (v.kind=3)
def canU:List Use→Int
 | []=>0
 | u::t=>canU t+(if hvU u=true then 1 else 0)
def areU:List Use→Int
 | []=>0
 | u::t=>areU t+(if (hvU u&&nextR t)=true then 1 else 0)
def keepsM (H:Hou) (B:Hab) (line:List Int) (w:Wrd):Bool:=
 (((!line.any (negS B)&&!(decide (B.rpt=0)&&hasK 3 w.uses))&&!(decide (B.rpt=2)&&!decide (canU w.uses=areU w.uses)))&&!(decide (B.cls=0)&&hasK 4 w.uses))&&!((decide (B.cls=2)&&!decide ((entAt H.lex w.form.entry).cls=[]))&&!hasK 4 w.uses)
def sumS (B:Hab):List Int→Int
 | []=>0
 | s::l=>B.signs.getD s.toNat 0+sumS B l
theorem canU_in:∀ us:List Use,0≤areU us∧areU us≤canU us∧canU us≤us.length
 | []=>by simp [areU,canU]
 | u::t=>by
   have h:=canU_in t
   rw [areU,canU,List.length_cons]
   cases hvU u<;>cases nextR t<;>simp<;>omega
def c85:Cfg:=⟨[0,2,3,4,5,6,7,8,9,15,31],[],[5],[],[],[]⟩
def c144:Cfg:=⟨[0,1,2,3],[],[],[],[],[]⟩
def c86:Cfg:=⟨[0,1,3,4],[],[],[],[],[]⟩
def c129:Cfg:=⟨[0,1,3],[],[],[],[],[]⟩
def c71:Cfg:=⟨[0,1,2,3,4,5,7,8,9,10,11,14,30,39,48,57],[],[],[],[],[]⟩
def c72:Cfg:=⟨[0,1,2,4,6,7,8,9,10],[],[],[],[],[]⟩
def c35:Cfg:=⟨[0,1,2,3,4,5,7,8,9,10,11,12,17,27,34],[],[],[],[],[]⟩
theorem spHasF (k:Int) (u:Use):QCall Tryz.prog 144 [.agg (encUse u),.iptr [.int .i64 k]] [] (.bool (kindB k u)):=by
 refine fcalls (F:=Tryz.f144) c144 rfl rfl rfl mixed rfl fun X=>?_
 conv=>whnf
 skip
 exact ⟨rfl,rfl⟩
theorem spHas (us:List Use) (k:Int) (hl:us.length≤LMAX):QCall Tryz.prog 86 [.sl 2 none (us.map encUse),.int .i64 k] [] (.bool (hasK k us)):=by
 have hc:=cfUses us hl 144 [.iptr [.int .i64 k]] (kindB k) fun u _=>spHasF k u
 refine fcalls (F:=Tryz.f86) c86 rfl rfl rfl mixed rfl fun X=>?_
 conv=>whnf
 repeat (refine QCall.k0 (hc) ?_;conv=>whnf)
 exact ⟨rfl,rfl⟩
theorem spCounts (us:List Use) (hl:us.length≤1048576):QCall Tryz.prog 85 [.sl 2 none (us.map encUse)] [] (.tup [.int .i64 (canU us),.int .i64 (areU us)]):=by
 have hall:=canU_in us
 refine fcalls (F:=Tryz.f85) c85 rfl rfl rfl mixed rfl fun X=>?_
 conv=>whnf
 skip
 refine sloop rfl mixed [0,2,3,6,7,8] [] (fun m r h=>∃ (i:Nat) (c a:Int),r=[(0,[],.sl 2 none (us.map encUse)),(2,[],.int .i64 c),(3,[],.int .i64 a),(6,[],.sl 2 none (us.map encUse)),(7,[],.int .i64 (us.map encUse).length),(8,[],.int .i64 i)]∧h=[]∧m=us.length - i∧i≤us.length∧(0≤c∧c≤i)∧(0≤a∧a≤i)∧canU us=c+canU (us.drop i)∧areU us=a+areU (us.drop i)) ?_ ?_
 ·conv=>whnf
  exact ⟨_,0,0,0,rfl,rfl,rfl,by omega,⟨by omega,by omega⟩,⟨by omega,by omega⟩,by simp,by simp⟩
 ·rintro m r h ⟨i,c,a,rfl,rfl,rfl,hi,hc,ha,h1,h2⟩
  conv=>whnf
  refine ⟨fun hz=>?_,fun hz=>?_⟩<;>simp at hz
  ·obtain ⟨u,hu⟩:=get_lt hz
   rw [drop_cons hu,canU] at h1
   rw [drop_cons hu,areU] at h2
   conv=>whnf
   repeat ((first|refine ix (by assumption) ?_|refine QCall.k0 (spHeavy u) ?_|refine ⟨_,_,Rem.here _,⟨Nat.le_of_ble_eq_true rfl,rfl⟩,?_⟩|intro (nb:Nat));conv=>whnf)
   refine ⟨fun hq=>?_,fun hq=>?_⟩
   ·have hq:(!hvU u)=true:=hq
    rw [Bool.not_eq_true'] at hq
    rw [hq] at h1 h2
    conv=>whnf
    repeat (refine ⟨gP_of ⟨by omega,by omega⟩,?_⟩;conv=>whnf)
    exact ⟨_,by omega,i+1,c,a,rfl,rfl,rfl,by omega,⟨by omega,by omega⟩,⟨by omega,by omega⟩,by simpa using h1,by simpa using h2⟩
   ·have hq:(!hvU u)=false:=hq
    rw [Bool.not_eq_false'] at hq
    rw [hq] at h1 h2
    simp only [if_true,Bool.true_and] at h1 h2
    by_cases hn:i+1<us.length
    ·obtain ⟨v,hv⟩:=get_lt hn
     have hnr:nextR (us.drop (i+1))=decide (v.kind=3):=by rw [drop_cons hv];rfl
     rw [hnr] at h2
     conv=>whnf
     repeat ((first|refine ⟨gP_of ⟨by omega,by omega⟩,?_⟩|refine ix (by assumption) ?_);conv=>whnf)
     refine ⟨fun hr=>?_,fun hr=>?_⟩
     ·have hr:(decide ((i:Int)+1<((us.map encUse).length:Int))&&decide (v.kind=3))=true:=hr
      rw [Bool.and_eq_true] at hr
      rw [if_pos hr.2] at h2
      conv=>whnf
      repeat (refine ⟨gP_of ⟨by omega,by omega⟩,?_⟩;conv=>whnf)
      exact ⟨_,by omega,i+1,c+1,a+1,rfl,rfl,rfl,by omega,⟨by omega,by omega⟩,⟨by omega,by omega⟩,by omega,by omega⟩
     ·have hr:(decide ((i:Int)+1<((us.map encUse).length:Int))&&decide (v.kind=3))=false:=hr
      rw [List.length_map,decide_eq_true (by omega),Bool.true_and] at hr
      rw [if_neg (by rw [hr];decide)] at h2
      conv=>whnf
      repeat (refine ⟨gP_of ⟨by omega,by omega⟩,?_⟩;conv=>whnf)
      exact ⟨_,by omega,i+1,c+1,a,rfl,rfl,rfl,by omega,⟨by omega,by omega⟩,⟨by omega,by omega⟩,by omega,by omega⟩
    ·have hnr:nextR (us.drop (i+1))=false:=by rw [List.drop_eq_nil_of_le (by omega)];rfl
     rw [hnr] at h2
     conv=>whnf
     repeat ((first|refine ⟨gP_of ⟨by omega,by omega⟩,?_⟩|(refine ⟨0,encUse u,?_,?_⟩;(focus (conv=>whnf;skip));(focus (intro hq1;exact absurd (of_decide_eq_true hq1) (by rw [List.length_map];omega)))));conv=>whnf)
     refine cF (by simp;omega) ?_
     rw [if_neg (by decide)] at h2
     conv=>whnf
     repeat (refine ⟨gP_of ⟨by omega,by omega⟩,?_⟩;conv=>whnf)
     exact ⟨_,by omega,i+1,c+1,a,rfl,rfl,rfl,by omega,⟨by omega,by omega⟩,⟨by omega,by omega⟩,by omega,by omega⟩
  ·rw [drop_nil (by omega)] at h1 h2
   conv=>whnf
   skip
   refine ⟨?_,rfl⟩
   rw [h1,h2]
   simp [canU,areU]
end Go.Abs.Wall.Spl
