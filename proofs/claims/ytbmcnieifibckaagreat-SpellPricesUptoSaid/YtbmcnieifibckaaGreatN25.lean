/- What is proved: small laws for the walks of this seat, and contracts of its functions. No condition but those each theorem names. -/
import Derived.Test.YtbmcnieifibckaaGreatN23
import Derived.Test.YtbmcnieifibckaaGreatN24
import Derived.Test.YtbmcnieifibckaaGreatN8
import Derived.Test.YtbmcnieifibckaaGreatN9
set_option maxRecDepth 100000
set_option maxHeartbeats 2000000
set_option linter.unusedVariables false
set_option linter.unusedSimpArgs false
namespace Go.Abs.Wall.Spl
open Go Go.Abs Go.Proofs Go.Abs.Wall
def c59:Cfg:=⟨[0,1,2,3,4,5,33,38,54],[],[],[],[],[]⟩
def c24:Cfg:=⟨[0,1,2,3,4,5,9,14],[],[],[],[],[]⟩
def c68:Cfg:=⟨[0,1,4,5,14],[],[],[],[],[]⟩
def c32:Cfg:=⟨[0,1,2,3,4,5,6,7,8,9,10,11,12,17,24,45,51,78],[],[],[],[(7,[0,1,2,3,4,5,6,7,8,9,10,11,12],[]),(13,[0,1,2,3,4,5,6,7,8,9,10,11],[])],[]⟩
def c33:Cfg:=⟨[0,1,2,3,4],[],[],[],[],[]⟩
theorem r7Right (H:Hou) (B:Hab) (hB:HabFit B) (hh:HouFit H):QCall Tryz.prog 59 [.agg (encHou H),.agg (encHab B)] [] (.bool (rightM H B)):=by
 have hb:=hB.signs
 have hls:=hh.list.signs
 unfold LMAX at hls
 obtain ⟨R,hR⟩:∃ R,R=rightM H B:=⟨_,rfl⟩
 rw [← hR]
 unfold rightM at hR
 refine fcalls (F:=Tryz.f59) c59 rfl rfl rfl mixed rfl fun X=>?_
 conv=>whnf
 skip
 refine ⟨fun h0=>?_,fun h0=>?_⟩
 ·have h0:((((!decide (((ints B.signs).length:Int)=((H.list.signs.map encSgn).length:Int))||decide (B.rpt<0))||decide (2<B.rpt))||decide (B.cls<0))||decide (2<B.cls))=true:=h0
  rw [ints_length,List.length_map] at h0
  simp only [Bool.or_eq_true,Bool.not_eq_true',decide_eq_false_iff_not,decide_eq_true_eq] at h0
  have hf:R=false:=by
   rw [hR,← Bool.not_eq_true]
   simp only [Bool.and_eq_true,decide_eq_true_eq,wthn_iff]
   omega
  conv=>whnf
  skip
  exact ⟨by rw [hf],rfl⟩
 have h0:((((!decide (((ints B.signs).length:Int)=((H.list.signs.map encSgn).length:Int))||decide (B.rpt<0))||decide (2<B.rpt))||decide (B.cls<0))||decide (2<B.cls))=false:=h0
 rw [ints_length,List.length_map] at h0
 simp only [Bool.or_eq_false_iff,Bool.not_eq_false',decide_eq_false_iff_not,decide_eq_true_eq] at h0
 have hR2:R=!B.signs.any badN:=by
  rw [hR]
  have:((decide ((B.signs.length:Int)=H.list.signs.length)&&wthn B.rpt 0 2)&&wthn B.cls 0 2)=true:=by
   simp only [Bool.and_eq_true,decide_eq_true_eq,wthn_iff]
   omega
  rw [this,Bool.true_and]
 conv=>whnf
 skip
 refine sloop rfl mixed [3,5] [] (fun m r h=>∃ (i:Nat),r=[(3,[],.iptr (encHab B)),(5,[],.int .i64 i)]∧h=[]∧m=B.signs.length - i∧i≤B.signs.length∧R=!(B.signs.drop i).any badN) ?_ ?_
 ·conv=>whnf
  exact ⟨_,0,rfl,rfl,rfl,by omega,by simpa using hR2⟩
 ·rintro m r h ⟨i,rfl,rfl,rfl,hi,hg⟩
  conv=>whnf
  refine ⟨fun hz=>?_,fun hz=>?_⟩<;>simp [ints_length] at hz
  ·obtain ⟨n,hn⟩:=get_lt hz
   rw [drop_cons hn,List.any_cons] at hg
   conv=>whnf
   repeat (refine ix (by assumption) ?_;conv=>whnf)
   refine ⟨fun hq=>?_,fun hq=>?_⟩
   ·have hq:(decide (n < -1)||decide (1000<n))=true:=hq
    have hb:badN n=true:=by
     unfold badN
     rw [Bool.not_eq_true',← Bool.not_eq_true,wthn_iff]
     simp at hq
     omega
    rw [hb] at hg
    conv=>whnf
    skip
    exact ⟨by rw [hg];rfl,rfl⟩
   ·have hq:(decide (n < -1)||decide (1000<n))=false:=hq
    have hb:badN n=false:=by
     unfold badN
     rw [Bool.not_eq_false',wthn_iff]
     simp at hq
     omega
    rw [hb,Bool.false_or] at hg
    conv=>whnf
    repeat (refine ⟨gP_of ⟨by omega,by omega⟩,?_⟩;conv=>whnf)
    exact ⟨_,by omega,i+1,rfl,rfl,rfl,by omega,hg⟩
  ·rw [drop_nil (by omega)] at hg
   conv=>whnf
   skip
   exact ⟨by rw [hg];rfl,rfl⟩
theorem r7CheckHab (H:Hou) (B:Hab) (hf:HouFit H) (hB:HabFit B):QCall Tryz.prog 24 [.agg (encHou H),.agg (encHab B)] [] (.int .i64 (habErr H B)):=by
 refine fcalls (F:=Tryz.f24) c24 rfl rfl rfl mixed rfl fun X=>?_
 conv=>whnf
 repeat (refine QCall.k0 (refHouse H hf) ?_;conv=>whnf)
 refine ⟨fun h0=>?_,fun h0=>?_⟩<;>simp at h0
 ·rw [habErr,if_pos h0]
  conv=>whnf
  exact ⟨rfl,rfl⟩
 rw [habErr,if_neg (by omega)]
 conv=>whnf
 repeat (refine QCall.k0 (r7Right H B hB hf) ?_;conv=>whnf)
 refine ⟨fun h1=>?_,fun h1=>?_⟩
 ·have h1:(!rightM H B)=true:=h1
  rw [Bool.not_eq_true'] at h1
  rw [if_neg (by rw [h1];decide)]
  conv=>whnf
  exact ⟨rfl,rfl⟩
 ·have h1:(!rightM H B)=false:=h1
  rw [Bool.not_eq_false'] at h1
  rw [if_pos h1]
  conv=>whnf
  exact ⟨rfl,rfl⟩
def bothR (a b:Int):Int:=if (decide (a=b)||decide (b=1))=true then a else if a=1 then b else -1
theorem r7Both (a b:Int):QCall Tryz.prog 68 [.int .i64 a,.int .i64 b] [] (.int .i64 (bothR a b)):=by
 refine fcalls (F:=Tryz.f68) c68 rfl rfl rfl mixed rfl fun X=>?_
 conv=>whnf
 skip
 refine ⟨fun h0=>?_,fun h0=>?_⟩
 ·have h0:(decide (a=b)||decide (b=1))=true:=h0
  rw [bothR,if_pos h0]
  conv=>whnf
  skip
  exact ⟨rfl,rfl⟩
 have h0:(decide (a=b)||decide (b=1))=false:=h0
 rw [bothR,if_neg (by rw [h0];decide)]
 conv=>whnf
 skip
 refine ⟨fun h1=>?_,fun h1=>?_⟩<;>simp at h1
 ·rw [if_pos h1]
  conv=>whnf
  skip
  exact ⟨rfl,rfl⟩
 ·rw [if_neg h1]
  conv=>whnf
  skip
  exact ⟨rfl,rfl⟩
theorem both_eq {a b:Int} (ha:0≤a) (hb:0≤b):((bothP a b).2=true→bothR a b=(bothP a b).1∧0≤bothR a b)∧((bothP a b).2=false→bothR a b = -1):=by
 unfold bothP bothR
 split
 ·exact ⟨fun _=>⟨rfl,ha⟩,fun h=>by cases h⟩
 split
 ·exact ⟨fun _=>⟨rfl,hb⟩,fun h=>by cases h⟩
 ·exact ⟨fun h=>(by cases h),fun _=>rfl⟩
theorem r7Common (H:Hou) (A B:Hab) (hf:HouFit H) (hA:HabFit A) (hB:HabFit B):QCall Tryz.prog 32 [.agg (encHou H),.agg (encHab A),.agg (encHab B)] [] (.tup [.agg (encHab (comV H A B)),.int .i64 (comE H A B)]):=by
 have ha:=hA.signs
 have hb:=hB.signs
 refine QCall.of ?_
 refine fcalls (F:=Tryz.f32) c32 rfl rfl rfl mixed rfl fun X=>?_
 conv=>whnf
 intro rb
 conv=>whnf
 repeat (refine QCall.k0 (r7CheckHab H A hf hA) ?_;conv=>whnf)
 refine ⟨fun h0=>?_,fun h0=>?_⟩<;>simp at h0
 ·have he:comE H A B=habErr H A:=by unfold comE;rw [if_pos h0]
  unfold comV
  rw [he,if_neg h0]
  conv=>whnf
  repeat ((first|(refine ⟨_,_,.here _,leOK,?_⟩)|(refine ⟨_,_,.head _,rfl,?_⟩));conv=>whnf)
  exact VLe.tup (.cons (VLe.agg (.cons (VLe.nil (by decide)) (.cons (VLe.refl _) (.cons (VLe.refl _) .nil)))) (.cons (VLe.refl _) .nil))
 obtain ⟨hok,hra⟩:=habOK h0
 have hbe:habErr H B=if rightM H B=true then 0 else 60:=by unfold habErr;rw [if_neg (by omega)]
 conv=>whnf
 repeat (refine QCall.k0 (r7CheckHab H B hf hB) ?_;conv=>whnf)
 refine ⟨fun h1=>?_,fun h1=>?_⟩<;>simp at h1
 ·have h2:rightM H B=false:=by
   rw [← Bool.not_eq_true]
   intro hq
   rw [hbe,if_pos hq] at h1
   exact h1 rfl
  have h3:habErr H B=60:=by rw [hbe,if_neg (by rw [h2];decide)]
  have he:comE H A B=60:=by unfold comE;rw [if_neg (by omega),if_pos h2]
  unfold comV
  rw [he,if_neg (by decide),h3]
  conv=>whnf
  repeat ((first|(refine ⟨_,_,.here _,leOK,?_⟩)|(refine ⟨_,_,.head _,rfl,?_⟩));conv=>whnf)
  exact VLe.tup (.cons (VLe.agg (.cons (VLe.nil (by decide)) (.cons (VLe.refl _) (.cons (VLe.refl _) .nil)))) (.cons (VLe.refl _) .nil))
 obtain ⟨_,hrb⟩:=habOK h1
 have hraa:=hra
 have hrbb:=hrb
 unfold rightM at hraa hrbb
 simp only [Bool.and_eq_true,decide_eq_true_eq,wthn_iff] at hraa hrbb
 obtain ⟨⟨⟨hAl,hA1⟩,hA2⟩,_⟩:=hraa
 obtain ⟨⟨⟨hBl,hB1⟩,hB2⟩,_⟩:=hrbb
 have he0:comE H A B=if (!(bothP A.rpt B.rpt).2||!(bothP A.cls B.cls).2)=true then 60 else 0:=by unfold comE;rw [if_neg (by omega),if_neg (by rw [hrb];decide)]
 obtain ⟨e1,e2⟩:=both_eq hA1.1 hB1.1
 obtain ⟨e3,e4⟩:=both_eq hA2.1 hB2.1
 conv=>whnf
 repeat ((first|refine gcall (r7Both A.rpt B.rpt) ?_|refine gcall (r7Both A.cls B.cls) ?_|(intro (b9:Nat))|(refine ⟨_,_,.head _,rfl,?_⟩)|refine ⟨_,_,.here _,leOK,?_⟩|refine And.intro (by show drawOK (opsAt Tryz.f32 _) _=true;decide +kernel) ?_);conv=>whnf)
 have neg1:∀ {a b:Int},((bothP a b).2=true→bothR a b=(bothP a b).1∧0≤bothR a b)→((bothP a b).2=false→bothR a b = -1)→decide (bothR a b<0)=!(bothP a b).2:=by
  intro a b g1 g2
  cases hq:(bothP a b).2 with
  | true=>rw [decide_eq_false (by have:=(g1 hq).2;omega)];rfl
  | false=>rw [decide_eq_true (by have:=g2 hq;omega)];rfl
 have hE:(decide (bothR A.rpt B.rpt<0)||decide (bothR A.cls B.cls<0))=(!(bothP A.rpt B.rpt).2||!(bothP A.cls B.cls).2):=by rw [neg1 e1 e2,neg1 e3 e4]
 rw [hE]
 refine ⟨fun h2=>?_,fun h2=>?_⟩
 ·rw [if_pos h2] at he0
  unfold comV
  rw [he0,if_neg (by decide)]
  conv=>whnf
  repeat ((first|(refine ⟨_,_,.there (.here _),leOK,?_⟩)|(refine ⟨_,_,.tail _ (.head _),rfl,?_⟩));conv=>whnf)
  exact VLe.tup (.cons (VLe.agg (.cons (VLe.nil (by decide)) (.cons (VLe.refl _) (.cons (VLe.refl _) .nil)))) (.cons (VLe.refl _) .nil))
 rw [if_neg (by rw [h2];decide)] at he0
 unfold comV
 rw [he0,if_pos rfl]
 rw [Bool.or_eq_false_iff,Bool.not_eq_false',Bool.not_eq_false'] at h2
 rw [(e1 h2.1).1,(e3 h2.2).1]
 conv=>whnf
 skip
 refine tloop rfl mixed [4,5,6,10,11] [] (fun m r h=>∃ (i:Nat) (sv:AV) (sh:Heap) (rb cb:Nat),r=[(4,[],.iptr (encHab A)),(5,[],.iptr (encHab B)),(6,[],.optr rb 0),(10,[],.optr cb 0),(11,[],.int .i64 i)]∧h=(cb,.vec [sv,.int .i64 (bothP A.rpt B.rpt).1,.int .i64 (bothP A.cls B.cls).1])::(rb,.vec [.nilS,.int .i64 0,.int .i64 0])::sh∧m=A.signs.length - i∧i≤A.signs.length∧Out 1 (fun n=>[AV.int .i64 n]) (comS (A.signs.take i) (B.signs.take i)) sv sh) ?_ ?_
 ·conv=>whnf
  exact ⟨_,_,Turn.refl _ _,_,0,.nilS,[],_,_,rfl,rfl,rfl,by omega,.inl ⟨by simp [comS],rfl,rfl⟩⟩
 ·rintro m r h' ⟨i,sv,sh,rb,cb,rfl,rfl,rfl,hi,ho⟩
  conv=>whnf
  refine ⟨fun hz=>?_,fun hz=>?_⟩<;>simp [ints_length] at hz
  ·obtain ⟨a,ha1⟩:=get_lt hz
   obtain ⟨b,hb1⟩:=get_lt (l:=B.signs) (i:=i) (by omega)
   have hsn:=comS_snoc i A.signs B.signs a b ha1 hb1
   have hcl:=comS_len (A.signs.take i) (B.signs.take i)
   rw [List.length_take] at hcl
   have hmn:(min a b<0)↔(a<0∨b<0):=by omega
   rcases ho with ⟨hn,rfl,rfl⟩|⟨q,rfl,rfl⟩
   all_goals
    conv=>whnf
    repeat ((first|refine ix (by assumption) ?_|refine And.intro (by show drawOK (opsAt Tryz.f32 _) _=true;decide +kernel) ?_);conv=>whnf)
    refine ⟨fun hq=>?_,fun hq=>?_⟩
    ·have hq:(decide (a<0)||decide (b<0))=true:=hq
     rw [Bool.or_eq_true,decide_eq_true_eq,decide_eq_true_eq] at hq
     rw [if_pos (hmn.2 hq)] at hsn
     conv=>whnf
     repeat ((first|refine ⟨gP_of ⟨by omega,by omega⟩,?_⟩|(refine ⟨Nat.le_of_ble_eq_true rfl,fun q'=>?_⟩)|(refine ⟨(by rw [List.length_append,List.length_map];simp;unfold AMAX;omega),fun q'=>⟨_,.there (.there (.here _)),?_⟩⟩)|(refine ⟨_,_,.there (.here _),leOK,?_⟩)|(refine ⟨_,_,.here _,leOK,?_⟩)|refine ⟨_,_,.head _,rfl,?_⟩);conv=>whnf)
     first
      | exact ⟨_,_,Turn.refl _ _,_,(by omega),i+1,_,[(q',.tok)],rb,cb,rfl,rfl,rfl,by omega,.inr ⟨q',by rw [hsn,List.map_append];rfl,rfl⟩⟩
      | exact ⟨_,_,Turn.perm (List.perm_middle (l₁:=[_,_])).symm,_,(by omega),i+1,_,[(q',.tok)],rb,cb,rfl,rfl,rfl,by omega,.inr ⟨q',by rw [hsn,hn];rfl,rfl⟩⟩
    ·have hq:(decide (a<0)||decide (b<0))=false:=hq
     rw [Bool.or_eq_false_iff,decide_eq_false_iff_not,decide_eq_false_iff_not] at hq
     rw [if_neg (by rw [hmn];omega)] at hsn
     conv=>whnf
     repeat ((first|refine ⟨gP_of ⟨by omega,by omega⟩,?_⟩|(refine ⟨Nat.le_of_ble_eq_true rfl,fun q'=>?_⟩)|(refine ⟨(by rw [List.length_append,List.length_map];simp;unfold AMAX;omega),fun q'=>⟨_,.there (.there (.here _)),?_⟩⟩)|(refine ⟨_,_,.there (.here _),leOK,?_⟩)|(refine ⟨_,_,.here _,leOK,?_⟩)|refine ⟨_,_,.head _,rfl,?_⟩);conv=>whnf)
     first
      | exact ⟨_,_,Turn.refl _ _,_,(by omega),i+1,_,[(q',.tok)],rb,cb,rfl,rfl,rfl,by omega,.inr ⟨q',by rw [hsn,List.map_append];rfl,rfl⟩⟩
      | exact ⟨_,_,Turn.perm (List.perm_middle (l₁:=[_,_])).symm,_,(by omega),i+1,_,[(q',.tok)],rb,cb,rfl,rfl,rfl,by omega,.inr ⟨q',by rw [hsn,hn];rfl,rfl⟩⟩
  ·have hie:i=A.signs.length:=by omega
   subst hie
   rw [List.take_length,List.take_of_length_le (by omega)] at ho
   conv=>whnf
   repeat ((first|(refine ⟨_,_,.there (.here _),leOK,?_⟩)|(refine ⟨_,_,.head _,rfl,?_⟩)|(refine ⟨_,_,.tail _ (.head _),rfl,?_⟩));conv=>whnf)
   exact VLe.tup (.cons (VLe.agg (.cons (ho.le (by decide)) (.cons (VLe.refl _) (.cons (VLe.refl _) .nil)))) (.cons (VLe.refl _) .nil))
theorem sameHab (A B:Hab) (ha:A.signs.length≤LMAX) (hb:B.signs.length≤LMAX):QCall Tryz.prog 33 [.agg (encHab A),.agg (encHab B)] [] (.bool (decide (A.rpt=B.rpt)&&decide (A.cls=B.cls)&&decide (A.signs=B.signs))):=by
 refine fcalls (F:=Tryz.f33) c33 rfl rfl rfl mixed rfl fun X=>?_
 conv=>whnf
 repeat (refine gcall (sameInts A.signs B.signs ha hb) ?_;conv=>whnf)
 exact ⟨rfl,rfl⟩
end Go.Abs.Wall.Spl
namespace Go.Abs.Wall.Spl
open Go Go.Abs Go.Proofs Go.Abs.Wall
def c7:Cfg:=⟨[0,1,2,3,4,5,6,7,8,9,10],[],[7,9],[],[],[]⟩
theorem comV_len (H:Hou) (A B:Hab) (hA:HabFit A):(comV H A B).signs.length≤1048576:=by
 unfold comV
 split
 ·have:=comS_len A.signs B.signs
  have:=hA.signs
  show (comS A.signs B.signs).length≤_
  omega
 ·decide
theorem spellCommonsL (H:Hou) (A B:Hab) (hf:HouFit H) (hA:HabFit A) (hB:HabFit B):QCall Tryz.prog 7 [.agg (encHou H),.agg (encHab A),.agg (encHab B)] [] (.bool true):=by
 have h1:=comV_len H A B hA
 have hs:=sameHab (comV H A B) (comV H A B) (by unfold LMAX;omega) (by unfold LMAX;omega)
 refine fcalls (F:=Tryz.f7) c7 rfl rfl rfl mixed rfl fun X=>?_
 conv=>whnf
 repeat ((first|refine QCall.k0 (spCommon H A B hf hA hB) ?_|refine QCall.k0 (r7Common H A B hf hA hB) ?_|refine gcall (hs) ?_|refine gcall (spWorks) ?_|refine ⟨_,_,Rem.here _,⟨Nat.le_of_ble_eq_true rfl,rfl⟩,?_⟩|intro (nb:Nat));conv=>whnf)
 exact ⟨congrArg AV.bool (by simp),rfl⟩
end Go.Abs.Wall.Spl
namespace Go.Abs.Wall.Spl
open Go Go.Abs Go.Proofs Go.Abs.Wall
def negS (B:Hab) (s:Int):Bool:=decide (B.signs.getD s.toNat 0<0)
def kindB (k:Int) (u:Use):Bool:=decide (u.kind=k)
def hasK (k:Int) (us:List Use):Bool:=us.any (kindB k)
def nextR:List Use→Bool
 | []=>false
 | v::_=>decide (v.kind=3)
def canU:List Use→Int
 | []=>0
 | u::t=>canU t+(if hvU u=true then 1 else 0)
def areU:List Use→Int
 | []=>0
 | u::t=>areU t+(if (hvU u&&nextR t)=true then 1 else 0)
def keepsM (H:Hou) (B:Hab) (line:List Int) (w:Wrd):Bool:=
 (((!line.any (negS B)&&!(decide (B.rpt=0)&&hasK 3 w.uses))&&!(decide (B.rpt=2)&&!decide (canU w.uses=areU w.uses)))&&!(decide (B.cls=0)&&hasK 4 w.uses))&&!((decide (B.cls=2)&&!decide ((entAt H.lex w.form.entry).cls=[]))&&!hasK 4 w.uses)
def sumS (B:Hab):List Int→Int
 | []=>0
 | s::l=>B.signs.getD s.toNat 0+sumS B l
def badK (B:Hab) (s:Int) (u:Use):Bool:=(negS B s||(decide (u.kind=3)&&decide (B.rpt=0)))||(decide (u.kind=4)&&decide (B.cls=0))
def lateK (B:Hab) (u:Use) (t:List Use):Bool:=(decide (B.rpt=2)&&hvU u)&&!nextR t
def keepGo (B:Hab):List Int→List Use→Bool→Option Bool
 | s::l,u::us,c=>if badK B s u=true then none else if lateK B u us=true then none else keepGo B l us (c||decide (u.kind=4))
 | _,_,c=>some c
def keepsR (H:Hou) (B:Hab) (line:List Int) (w:Wrd):Bool:=match keepGo B line w.uses false with
 | none=>false
 | some c=>(!decide (B.cls=2)||c)||decide ((entAt H.lex w.form.entry).cls=[])
theorem canU_in:∀ us:List Use,0≤areU us∧areU us≤canU us∧canU us≤us.length
 | []=>by simp [areU,canU]
 | u::t=>by
   have h:=canU_in t
   rw [areU,canU,List.length_cons]
   cases hvU u<;>cases nextR t<;>simp<;>omega
theorem keepGo_eq (B:Hab):∀ (l:List Int) (us:List Use) (c:Bool),l.length=us.length →
  keepGo B l us c=if (((l.any (negS B)||(decide (B.rpt=0)&&hasK 3 us))||(decide (B.rpt=2)&&!decide (canU us=areU us)))||(decide (B.cls=0)&&hasK 4 us))=true then none else some (c||hasK 4 us)
 | [],[],c,_=>by simp [keepGo,hasK,canU,areU]
 | s::l,u::us,c,h=>by
   have ih:=keepGo_eq B l us (c||decide (u.kind=4)) (by simpa using h)
   have hc:=canU_in us
   rw [keepGo,ih]
   unfold badK lateK
   rw [canU,areU,List.any_cons]
   unfold hasK at *
   rw [List.any_cons,List.any_cons]
   unfold kindB
   have hq:decide (canU us+(if hvU u=true then 1 else 0)=areU us+(if (hvU u&&nextR us)=true then 1 else 0))=((!hvU u||nextR us)&&decide (canU us=areU us)):=by
    cases hvU u<;>cases nextR us<;>simp<;>omega
   rw [hq]
   generalize negS B s=a1
   generalize l.any (negS B)=a2
   generalize decide (u.kind=3)=a3
   generalize decide (u.kind=4)=a4
   generalize decide (B.rpt=0)=a5
   generalize decide (B.rpt=2)=a6
   generalize decide (B.cls=0)=a7
   generalize hvU u=a8
   generalize nextR us=a9
   generalize decide (canU us=areU us)=b1
   generalize (us.any fun u=>decide (u.kind=3))=b2
   generalize (us.any fun u=>decide (u.kind=4))=b3
   clear ih hc hq h
   revert a1 a2 a3 a4 a5 a6 a7 a8 a9 b1 b2 b3 c
   decide +kernel
theorem keepsR_eq (H:Hou) (B:Hab) {line:List Int} {w:Wrd} (h:line.length=w.uses.length):keepsR H B line w=keepsM H B line w:=by
 unfold keepsR keepsM
 rw [keepGo_eq B line w.uses false h]
 generalize line.any (negS B)=a1
 generalize hasK 3 w.uses=a2
 generalize hasK 4 w.uses=a3
 generalize decide (canU w.uses=areU w.uses)=a4
 generalize decide (B.rpt=0)=a5
 generalize decide (B.rpt=2)=a6
 generalize decide (B.cls=0)=a7
 generalize decide (B.cls=2)=a8
 generalize decide ((entAt H.lex w.form.entry).cls=[])=a9
 revert a1 a2 a3 a4 a5 a6 a7 a8 a9
 decide +kernel
def c85:Cfg:=⟨[0,2,3,4,5,6,7,8,9,15,31],[],[5],[],[],[]⟩
def c144:Cfg:=⟨[0,1,2,3],[],[],[],[],[]⟩
def c86:Cfg:=⟨[0,1,3,4],[],[],[],[],[]⟩
def c129:Cfg:=⟨[0,1,3],[],[],[],[],[]⟩
def c71:Cfg:=⟨[0,1,2,3,4,5,7,8,9,10,11,14,30,39,48,57],[],[],[],[],[]⟩
def c72:Cfg:=⟨[0,1,2,4,6,7,8,9,10],[],[],[],[],[]⟩
def c35:Cfg:=⟨[0,1,2,3,4,5,7,8,9,10,11,12,17,27,34],[],[],[],[],[]⟩
theorem spHasF (k:Int) (u:Use):QCall Tryz.prog 144 [.agg (encUse u),.iptr [.int .i64 k]] [] (.bool (kindB k u)):=by
 refine fcalls (F:=Tryz.f144) c144 rfl rfl rfl mixed rfl fun X=>?_
 conv=>whnf
 skip
 exact ⟨rfl,rfl⟩
theorem spHas (us:List Use) (k:Int) (hl:us.length≤LMAX):QCall Tryz.prog 86 [.sl 2 none (us.map encUse),.int .i64 k] [] (.bool (hasK k us)):=by
 have hc:=cfUses us hl 144 [.iptr [.int .i64 k]] (kindB k) fun u _=>spHasF k u
 refine fcalls (F:=Tryz.f86) c86 rfl rfl rfl mixed rfl fun X=>?_
 conv=>whnf
 repeat (refine QCall.k0 (hc) ?_;conv=>whnf)
 exact ⟨rfl,rfl⟩
theorem spCounts (us:List Use) (hl:us.length≤1048576):QCall Tryz.prog 85 [.sl 2 none (us.map encUse)] [] (.tup [.int .i64 (canU us),.int .i64 (areU us)]):=by
 have hall:=canU_in us
 refine fcalls (F:=Tryz.f85) c85 rfl rfl rfl mixed rfl fun X=>?_
 conv=>whnf
 skip
 refine sloop rfl mixed [0,2,3,6,7,8] [] (fun m r h=>∃ (i:Nat) (c a:Int),r=[(0,[],.sl 2 none (us.map encUse)),(2,[],.int .i64 c),(3,[],.int .i64 a),(6,[],.sl 2 none (us.map encUse)),(7,[],.int .i64 (us.map encUse).length),(8,[],.int .i64 i)]∧h=[]∧m=us.length - i∧i≤us.length∧(0≤c∧c≤i)∧(0≤a∧a≤i)∧canU us=c+canU (us.drop i)∧areU us=a+areU (us.drop i)) ?_ ?_
 ·conv=>whnf
  exact ⟨_,0,0,0,rfl,rfl,rfl,by omega,⟨by omega,by omega⟩,⟨by omega,by omega⟩,by simp,by simp⟩
 ·rintro m r h ⟨i,c,a,rfl,rfl,rfl,hi,hc,ha,h1,h2⟩
  conv=>whnf
  refine ⟨fun hz=>?_,fun hz=>?_⟩<;>simp at hz
  ·obtain ⟨u,hu⟩:=get_lt hz
   rw [drop_cons hu,canU] at h1
   rw [drop_cons hu,areU] at h2
   conv=>whnf
   repeat ((first|refine ix (by assumption) ?_|refine QCall.k0 (spHeavy u) ?_|refine ⟨_,_,Rem.here _,⟨Nat.le_of_ble_eq_true rfl,rfl⟩,?_⟩|intro (nb:Nat));conv=>whnf)
   refine ⟨fun hq=>?_,fun hq=>?_⟩
   ·have hq:(!hvU u)=true:=hq
    rw [Bool.not_eq_true'] at hq
    rw [hq] at h1 h2
    conv=>whnf
    repeat (refine ⟨gP_of ⟨by omega,by omega⟩,?_⟩;conv=>whnf)
    exact ⟨_,by omega,i+1,c,a,rfl,rfl,rfl,by omega,⟨by omega,by omega⟩,⟨by omega,by omega⟩,by simpa using h1,by simpa using h2⟩
   ·have hq:(!hvU u)=false:=hq
    rw [Bool.not_eq_false'] at hq
    rw [hq] at h1 h2
    simp only [if_true,Bool.true_and] at h1 h2
    by_cases hn:i+1<us.length
    ·obtain ⟨v,hv⟩:=get_lt hn
     have hnr:nextR (us.drop (i+1))=decide (v.kind=3):=by rw [drop_cons hv];rfl
     rw [hnr] at h2
     conv=>whnf
     repeat ((first|refine ⟨gP_of ⟨by omega,by omega⟩,?_⟩|refine ix (by assumption) ?_);conv=>whnf)
     refine ⟨fun hr=>?_,fun hr=>?_⟩
     ·have hr:(decide ((i:Int)+1<((us.map encUse).length:Int))&&decide (v.kind=3))=true:=hr
      rw [Bool.and_eq_true] at hr
      rw [if_pos hr.2] at h2
      conv=>whnf
      repeat (refine ⟨gP_of ⟨by omega,by omega⟩,?_⟩;conv=>whnf)
      exact ⟨_,by omega,i+1,c+1,a+1,rfl,rfl,rfl,by omega,⟨by omega,by omega⟩,⟨by omega,by omega⟩,by omega,by omega⟩
     ·have hr:(decide ((i:Int)+1<((us.map encUse).length:Int))&&decide (v.kind=3))=false:=hr
      rw [List.length_map,decide_eq_true (by omega),Bool.true_and] at hr
      rw [if_neg (by rw [hr];decide)] at h2
      conv=>whnf
      repeat (refine ⟨gP_of ⟨by omega,by omega⟩,?_⟩;conv=>whnf)
      exact ⟨_,by omega,i+1,c+1,a,rfl,rfl,rfl,by omega,⟨by omega,by omega⟩,⟨by omega,by omega⟩,by omega,by omega⟩
    ·have hnr:nextR (us.drop (i+1))=false:=by rw [List.drop_eq_nil_of_le (by omega)];rfl
     rw [hnr] at h2
     conv=>whnf
     repeat ((first|refine ⟨gP_of ⟨by omega,by omega⟩,?_⟩|(refine ⟨0,encUse u,?_,?_⟩;(focus (conv=>whnf;skip));(focus (intro hq1;exact absurd (of_decide_eq_true hq1) (by rw [List.length_map];omega)))));conv=>whnf)
     refine cF (by simp;omega) ?_
     rw [if_neg (by decide)] at h2
     conv=>whnf
     repeat (refine ⟨gP_of ⟨by omega,by omega⟩,?_⟩;conv=>whnf)
     exact ⟨_,by omega,i+1,c+1,a,rfl,rfl,rfl,by omega,⟨by omega,by omega⟩,⟨by omega,by omega⟩,by omega,by omega⟩
  ·rw [drop_nil (by omega)] at h1 h2
   conv=>whnf
   skip
   refine ⟨?_,rfl⟩
   rw [h1,h2]
   simp [canU,areU]
end Go.Abs.Wall.Spl
