/- Small laws for the walks and contracts of functions; each theorem names its conditions. -/
import Derived.Test.YtdjdbggpgmddnaaGreatN11
import Derived.Laws.RangeAny
import Derived.Sort.Walk0
import Derived.Shelf.SlGeneric
import Derived.Shelf.SlSortCmp.WholeK
import Derived.Ground.SlsfProg
import Derived.Test.YtdjdbggpgmddnaaGreatProg
import Derived.Shelf.SlSortCmp.InsertionK
set_option maxRecDepth 100000
set_option maxHeartbeats 2000000
set_option linter.unusedVariables false
namespace Go.Abs.Wall
open Go Go.Abs Go.Proofs
def c107:Cfg:=⟨[0,1,2,3,4],[],[],[],[],[]⟩
def c73:Cfg:=⟨[0,1,2,4,5,10,20],[],[],[],[],[]⟩
def c74:Cfg:=⟨[0,1,2,4,5,6,7,25,29,34,57,73,76,85],[],[6],[],[(16,[0,1,2,3,4,5,6],[])],[]⟩
def c39:Cfg:=⟨[0,1,2,3,4,8,16,21,43,53],[],[],[],[(8,[0,1,2,3,4,5,6,7,8,9,10,11,12,13,14,15,16,17,18,19],[]),(10,[0,1,2,3,4,5,6,7,8],[])],[]⟩
theorem refCollide (a b:Val):QCall Tryz.prog 107 [.agg (encVal a),.agg (encVal b)] [] (.bool (meetB b a)):=by
 refine fcalls (F:=Tryz.f107) c107 rfl rfl rfl mixed rfl fun X=>?_;(conv=>whnf);skip;refine ⟨congrArg AV.bool ?_,rfl⟩;unfold meetB;rw [Bool.eq_iff_iff];simp only [Bool.and_eq_true,decide_eq_true_eq];constructor
 ·rintro ⟨⟨⟨h1,h2⟩,h3⟩,h4⟩;exact ⟨⟨⟨h1.symm,h2.symm,trivial⟩,h4⟩,h3⟩
 rintro ⟨⟨⟨h1,h2,_⟩,h4⟩,h3⟩;exact ⟨⟨⟨h1.symm,h2.symm⟩,h3⟩,h4⟩
theorem refIndex (l:Lst) (c:List UInt8) (hl:LstFit l):QCall Tryz.prog 73 [.agg (encLst l),.str c] [] (.int .i64 (firstI (fun s:Sgn=>decide (s.code=c)) l.signs)):=by
 refine fcalls (F:=Tryz.f73) c73 rfl rfl rfl mixed rfl fun X=>?_;(conv=>whnf);have hl1:=hl.signs;unfold LMAX at hl1;refine sloop rfl mixed [1,2,5] [] (fun m r h=>∃ (i:Nat),r=[(1,[],.str c),(2,[],.iptr (encLst l)),(5,[],.int .i64 i)]/\h=[]/\m=l.signs.length - i/\i<=l.signs.length/\Below (fun s:Sgn=>decide (s.code=c)) l.signs i) ?_ ?_
 ·(conv=>whnf);exact ⟨_,0,rfl,rfl,rfl,by omega,.zero⟩
 rintro m r h ⟨i,rfl,rfl,rfl,hi,hg⟩;(conv=>whnf);refine ⟨fun hc=>?_,fun hc=>?_⟩<;>simp at hc
 ·obtain ⟨x,hx⟩:=get_lt hc;(conv=>whnf);repeat (refine ix (by assumption) ?_;conv=>whnf)
  refine ⟨fun hd=>?_,fun hd=>?_⟩
  ·(conv=>whnf);exact ⟨by rw [hg.at hx hd],rfl⟩
  (conv=>whnf);repeat (refine ⟨gP_of ⟨by omega,by omega⟩,?_⟩;conv=>whnf)
  exact ⟨_,by omega,i+1,rfl,rfl,rfl,by omega,hg.succ hx hd⟩
 (conv=>whnf);exact ⟨by rw [hg.end hc],rfl⟩
theorem refSign (l:Lst) (s:Sgn) (hf:SgnFit s):QCall Tryz.prog 74 [.agg (encSgn s),.int .i64 l.periods] [] (.int .i64 (sgnErr l s)):=by
 refine fcalls (F:=Tryz.f74) c74 rfl rfl rfl mixed rfl fun X=>?_;(conv=>whnf);have hfv:=hf.values;unfold LMAX at hfv;refine ⟨fun hz=>?_,fun hz=>?_⟩<;>simp at hz
 ·(conv=>whnf);exact ⟨by rw [sgnErr,if_pos (by omega)],rfl⟩
 (conv=>whnf);refine ⟨fun hy=>?_,fun hy=>?_⟩<;>simp at hy
 ·(conv=>whnf);exact ⟨by rw [sgnErr,if_neg (by omega),if_pos (by omega)],rfl⟩
 have hse:sgnErr l s=valsErr l s.values s.values 0:=(by rw [sgnErr,if_neg (by omega),if_neg (by omega)]);(conv=>whnf);refine sloop rfl mixed [1,2,5] [] (fun m r h=>∃ (i:Nat),r=[(1,[],.int .i64 l.periods),(2,[],.iptr (encSgn s)),(5,[],.int .i64 i)]/\h=[]/\m=s.values.length - i/\i<=s.values.length/\sgnErr l s=valsErr l s.values (s.values.drop i) i) ?_ ?_
 ·(conv=>whnf);exact ⟨_,0,rfl,rfl,rfl,by omega,hse⟩
 rintro m r h ⟨i,rfl,rfl,rfl,hi,hr⟩;(conv=>whnf);refine ⟨fun hc=>?_,fun hc=>?_⟩<;>simp at hc
 ·obtain ⟨v,hx⟩:=get_lt hc;have hvt:=hf.texts v (List.mem_of_getElem? hx);rw [drop_cons hx,valsErr] at hr;(conv=>whnf);repeat ((first|refine ix (by assumption) ?_|refine gcall (refRight v.kind v.text hvt) ?_|refine ⟨_,_,Rem.here _,⟨Nat.le_of_ble_eq_true rfl,rfl⟩,?_⟩|intro (nb:Nat));conv=>whnf)
  refine ⟨fun hd=>?_,fun hd=>?_⟩
  ·have he:valErr l (s.values.take i) v=12:=by unfold valErr;rw [if_pos (by simpa [or_assoc] using hd)]
   rw [he,if_pos (by decide)] at hr;(conv=>whnf);exact ⟨by rw [hr],rfl⟩
  have hd':¬ (v.kind<1\/3<v.kind\/textOK v.kind v.text=false):=by intro hh;have:(decide (v.kind<1)||decide (3<v.kind)||!(textOK v.kind v.text))=true:=(by simpa [or_assoc] using hh);rw [hd] at this;cases this
  (conv=>whnf);skip;refine ⟨fun he=>?_,fun he=>?_⟩
  ·have he:valErr l (s.values.take i) v=13:=by unfold valErr;rw [if_neg hd',if_pos (by simpa [or_assoc] using he)]
   rw [he,if_pos (by decide)] at hr;(conv=>whnf);exact ⟨by rw [hr],rfl⟩
  have he':¬ (v.fr<1\/v.to<v.fr\/l.periods<v.to):=by intro hh;have:(decide (v.fr<1)||decide (v.to<v.fr)||decide (l.periods<v.to))=true:=(by simpa [or_assoc] using hh);rw [he] at this;cases this
  have hve:valErr l (s.values.take i) v=if (s.values.take i).any (meetB v)=true then 12 else 0:=by unfold valErr;rw [if_neg hd',if_neg he']
  (conv=>whnf);refine sloop rfl mixed [1,2,5,6,7] [] (fun m r h=>∃ (k:Nat),r=[(1,[],.int .i64 l.periods),(2,[],.iptr (encSgn s)),(5,[],.int .i64 i),(6,[],.iptr (encVal v)),(7,[],.int .i64 k)]/\h=[]/\m=i - k/\k<=i/\Below (meetB v) (s.values.take i) k) ?_ ?_
  ·(conv=>whnf);exact ⟨_,0,rfl,rfl,rfl,by omega,.zero⟩
  rintro m r h ⟨k,rfl,rfl,rfl,hk,hg⟩;(conv=>whnf);refine ⟨fun ha=>?_,fun ha=>?_⟩<;>simp at ha
  ·obtain ⟨w,hxw⟩:=get_lt (show k<s.values.length by omega);have hxw':(s.values.take i)[k]?=some w:=by rw [List.getElem?_take_of_lt ha];exact hxw
   (conv=>whnf);repeat ((first|refine ix (by assumption) ?_|refine gcall (refCollide w v) ?_|refine And.intro (by show drawOK (opsAt Tryz.f74 _) _=true;decide +kernel) ?_);conv=>whnf)
   refine ⟨fun hm=>?_,fun hm=>?_⟩
   ·have:(s.values.take i).any (meetB v)=true:=List.any_eq_true.2 ⟨w,List.mem_of_getElem? hxw',hm⟩;rw [hve,if_pos this,if_pos (by decide)] at hr;(conv=>whnf);exact ⟨by rw [hr],rfl⟩
   (conv=>whnf);repeat (refine ⟨gP_of ⟨by omega,by omega⟩,?_⟩;conv=>whnf)
   exact ⟨_,by omega,k+1,rfl,rfl,rfl,by omega,hg.succ hxw' hm⟩
  have:¬ (s.values.take i).any (meetB v)=true:=by intro h;obtain ⟨y,hy,hm⟩:=List.any_eq_true.1 h;rw [hg.all (by simp;omega) y hy] at hm;cases hm
  rw [hve,if_neg this,if_neg (by decide)] at hr;(conv=>whnf);repeat (refine ⟨gP_of ⟨by omega,by omega⟩,?_⟩;conv=>whnf)
  exact ⟨_,by omega,i+1,rfl,rfl,rfl,by omega,hr⟩
 rw [drop_nil hc] at hr;(conv=>whnf);exact ⟨by rw [hr];rfl,rfl⟩
theorem first_lt {l:List Sgn} {i:Nat} {s:Sgn} (hx:l[i]?=some s):firstI (fun x:Sgn=>decide (x.code=s.code)) l<(i:Int)↔s.code∈(l.take i).map Sgn.code:=by
 unfold firstI;cases h:l.findIdx? (fun x:Sgn=>decide (x.code=s.code)) with
 | none=>
   rw [List.findIdx?_eq_none_iff] at h;have:=h s (List.mem_of_getElem? hx);simp at this
 | some j=>
   rw [List.findIdx?_eq_some_iff_getElem] at h;obtain ⟨h1,h2,h3⟩:=h;simp only [decide_eq_true_eq] at h2 h3;constructor
   ·intro hlt;have hlt:j<i:=(by simpa using hlt);rw [<- h2];refine List.mem_map.2 ⟨l[j],?_,rfl⟩;exact List.mem_iff_getElem?.2 ⟨j,by rw [List.getElem?_take_of_lt hlt];exact List.getElem?_eq_getElem h1⟩
   intro hm;obtain ⟨y,hy,hc⟩:=List.mem_map.1 hm;obtain ⟨k,hk⟩:=List.mem_iff_getElem?.1 hy;have hki:k<i:=by have:=(List.getElem?_eq_some_iff.1 hk).1;simp at this;omega
   rw [List.getElem?_take_of_lt hki] at hk;obtain ⟨hk1,hk2⟩:=List.getElem?_eq_some_iff.1 hk;show (j:Int)<(i:Int);by_cases hjk:k<j
   ·have:=h3 k hjk;rw [hk2] at this;exact absurd hc this
   omega
theorem refCheck (l:Lst) (hl:LstFit l):QCall Tryz.prog 39 [.agg (encLst l)] [] (.int .i64 (lstErr l)):=by
 have hl1:=hl.signs;unfold LMAX at hl1;refine fcalls (F:=Tryz.f39) c39 rfl rfl rfl mixed rfl fun X=>?_;(conv=>whnf);refine ⟨fun hc=>?_,fun hc=>?_⟩<;>simp at hc
 ·(conv=>whnf);exact ⟨by rw [lstErr,if_pos (by omega)],rfl⟩
 (conv=>whnf);refine ⟨fun hd=>?_,fun hd=>?_⟩<;>simp at hd
 ·(conv=>whnf);exact ⟨by rw [lstErr,if_neg (by omega),if_pos (by omega)],rfl⟩
 have hgo:lstErr l=lstGo l l.signs []:=(by rw [lstErr,if_neg (by omega),if_neg (by omega)]);(conv=>whnf);refine sloop rfl mixed [1,3] [] (fun m r h=>∃ (i:Nat),r=[(1,[],.iptr (encLst l)),(3,[],.int .i64 i)]/\h=[]/\m=l.signs.length - i/\i<=l.signs.length/\lstErr l=lstGo l (l.signs.drop i) ((l.signs.take i).map Sgn.code)) ?_ ?_
 ·(conv=>whnf);exact ⟨_,0,rfl,rfl,rfl,by omega,hgo⟩
 rintro m r h ⟨i,rfl,rfl,rfl,hi,hr⟩;(conv=>whnf);refine ⟨fun he=>?_,fun he=>?_⟩<;>simp at he
 ·obtain ⟨s,hx⟩:=get_lt he;have hf:=hl.each s (List.mem_of_getElem? hx);have hnext:(l.signs.take i).map Sgn.code++[s.code]=(l.signs.take (i+1)).map Sgn.code:=by rw [List.take_add_one,hx];simp
  rw [drop_cons hx,lstGo,hnext] at hr;simp only [<- first_lt hx] at hr;(conv=>whnf);repeat ((first|refine ix (by assumption) ?_|refine gcall (refCode s.code hf.code) ?_|refine gcall (refIndex l s.code hl) ?_|refine And.intro (by show drawOK (opsAt Tryz.f39 _) _=true;decide +kernel) ?_);conv=>whnf)
  refine ⟨fun hcc=>?_,fun hcc=>?_⟩
  ·have hcc:codeOK s.code=false\/firstI (fun x:Sgn=>decide (x.code=s.code)) l.signs<(i:Int):=by
    simpa [or_comm] using hcc
   (conv=>whnf);exact ⟨by rw [hr,if_pos hcc],rfl⟩
  have hcc:¬ (codeOK s.code=false\/firstI (fun x:Sgn=>decide (x.code=s.code)) l.signs<(i:Int)):=by simp at hcc ⊢;exact ⟨hcc.1,hcc.2⟩
  rw [if_neg hcc] at hr;(conv=>whnf);repeat ((first|refine ix (by assumption) ?_|refine gcall (refSign l s hf) ?_|refine And.intro (by show drawOK (opsAt Tryz.f39 _) _=true;decide +kernel) ?_);conv=>whnf)
  refine ⟨fun hu=>?_,fun hu=>?_⟩<;>simp at hu
  ·rw [if_pos hu] at hr;(conv=>whnf);exact ⟨by rw [hr],rfl⟩
  rw [if_neg (by simpa using hu)] at hr;(conv=>whnf);repeat (refine ⟨gP_of ⟨by omega,by omega⟩,?_⟩;conv=>whnf)
  exact ⟨_,by omega,i+1,rfl,rfl,rfl,by omega,hr⟩
 rw [drop_nil he] at hr;(conv=>whnf);exact ⟨by rw [hr];rfl,rfl⟩
end Go.Abs.Wall
set_option linter.unusedSimpArgs false
namespace Go.Abs.Wall
open Go Go.Abs Go.Proofs
def letter (y:UInt8):Bool:=small y||big y
def letC (c:Int):Bool:=(decide (97<=c)&&decide (c<=122))||(decide (65<=c)&&decide (c<=90))
def smC (c:Int):Bool:=decide (c<97)||decide (122<c)
theorem dec_ok {s:List UInt8} {pos:Nat} {y:UInt8} (h:s[pos]?=some y):(y.toNat<128/\decS s pos=(y.toNat,1))\/(128<=y.toNat/\128<=(decS s pos).1/\1<=(decS s pos).2):=by
 obtain ⟨h1,h2⟩:=List.getElem?_eq_some_iff.1 h;have hs:pos<(⟨s.toArray⟩:ByteArray).size:=h1;have hg:(⟨s.toArray⟩:ByteArray)[pos]'hs=y:=h2;by_cases hy:y.toNat<128
 ·refine .inl ⟨hy,?_⟩;unfold decS;rw [decode_ascii _ pos hs (by rw [hg];exact hy),hg]
 refine .inr ⟨by omega,?_⟩;have:=decode_high (⟨s.toArray⟩:ByteArray) pos hs (by rw [hg];omega);exact this
theorem let_ok {s:List UInt8} {pos:Nat} {y:UInt8} (h:s[pos]?=some y):letC ((decS s pos).1:Int)=letter y/\(letter y=true->(decS s pos).2=1):=by
 rcases dec_ok h with ⟨h1,h2⟩|⟨h1,h2,h3⟩
 ·rw [h2];refine ⟨?_,fun _=>rfl⟩;unfold letC letter small big;rw [<- le_cast,<- le_cast,<- le_cast',<- le_cast'];rfl
 have e1:letter y=false:=by unfold letter small big;simp only [Bool.or_eq_false_iff,Bool.and_eq_false_iff,decide_eq_false_iff_not];omega
 rw [e1];refine ⟨?_,fun h=>by cases h⟩;unfold letC;simp only [Bool.or_eq_false_iff,Bool.and_eq_false_iff,decide_eq_false_iff_not];omega
theorem sm_ok {s:List UInt8} {pos:Nat} {y:UInt8} (h:s[pos]?=some y):smC ((decS s pos).1:Int)=!small y/\(small y=true->(decS s pos).2=1):=by
 rcases dec_ok h with ⟨h1,h2⟩|⟨h1,h2,h3⟩
 ·rw [h2];refine ⟨?_,fun _=>rfl⟩;unfold smC small;rw [Bool.eq_iff_iff];simp;omega
 have e1:small y=false:=by unfold small;simp only [Bool.and_eq_false_iff,decide_eq_false_iff_not];omega
 rw [e1];refine ⟨?_,fun h=>by cases h⟩;unfold smC;simp;omega
def sndOK (s:List UInt8) (most:Int):Bool:=s.all letter&&(decide (1<=(s.length:Int))&&decide ((s.length:Int)<=most))
def nameOK (s:List UInt8):Bool:=s.all small&&(decide (1<=(s.length:Int))&&decide ((s.length:Int)<=8))
def c94:Cfg:=⟨[0,1,4,6,8,9,10,26],[],[],[],[],[]⟩
def c96:Cfg:=⟨[0,2,4,6,7,8,15],[],[],[],[],[]⟩
theorem soundsW (s:List UInt8) (most:Int) (hs:s.length<=LMAX):QCall Tryz.prog 94 [.str s,.int .i64 most] [] (.bool (sndOK s most)):=by
 unfold LMAX at hs;refine QCall.of' ?_;refine fcalls (F:=Tryz.f94) c94 rfl rfl rfl mixed rfl fun X=>?_;(conv=>whnf);intro it;(conv=>whnf);refine sloop rfl mixed [0,1,8] [] (fun m r h=>∃ (pos:Nat),r=[(0,[],.str s),(1,[],.int .i64 most),(8,[],.oit it)]/\h=[(it,.siter s pos)]/\m=s.length - pos/\pos<=s.length/\s.all letter=(s.drop pos).all letter) ?_ ?_
 ·(conv=>whnf);exact ⟨_,0,rfl,rfl,rfl,by omega,rfl⟩
 rintro m r h ⟨pos,rfl,rfl,rfl,hp,ha⟩;(conv=>whnf);refine ⟨s,pos,.head _,fun hf=>?_,fun hf=>⟨_,.here _,?_⟩⟩
 ·rw [List.drop_eq_nil_of_le hf,List.all_nil] at ha;(conv=>whnf);refine cF rfl ?_;(conv=>whnf);skip;unfold sndOK;rw [ha];rfl
 obtain ⟨y,hy⟩:=get_lt hf;obtain ⟨h1,h2⟩:=let_ok hy;rw [List.drop_eq_getElem_cons hf,List.all_cons,(List.getElem?_eq_some_iff.1 hy).2] at ha;(conv=>whnf);refine cT rfl ?_;(conv=>whnf);skip;refine ⟨fun hq=>?_,fun hq=>?_⟩
 ·have hq:(!letC ((decS s pos).1:Int))=true:=hq;have hl:letter y=false:=by rw [<- h1];simpa using hq
  (conv=>whnf);skip;unfold sndOK;rw [ha,hl];rfl
 have hq:(!letC ((decS s pos).1:Int))=false:=hq;have hl:letter y=true:=by rw [<- h1];simpa using hq
 rw [hl,Bool.true_and] at ha;(conv=>whnf);skip;rw [h2 hl];exact ⟨_,by omega,pos+1,rfl,rfl,rfl,by omega,ha⟩
theorem namedW (s:List UInt8) (hs:s.length<=LMAX):QCall Tryz.prog 96 [.str s] [] (.bool (nameOK s)):=by
 unfold LMAX at hs;refine QCall.of' ?_;refine fcalls (F:=Tryz.f96) c96 rfl rfl rfl mixed rfl fun X=>?_;(conv=>whnf);intro it;(conv=>whnf);refine sloop rfl mixed [0,6] [] (fun m r h=>∃ (pos:Nat),r=[(0,[],.str s),(6,[],.oit it)]/\h=[(it,.siter s pos)]/\m=s.length - pos/\pos<=s.length/\s.all small=(s.drop pos).all small) ?_ ?_
 ·(conv=>whnf);exact ⟨_,0,rfl,rfl,rfl,by omega,rfl⟩
 rintro m r h ⟨pos,rfl,rfl,rfl,hp,ha⟩;(conv=>whnf);refine ⟨s,pos,.head _,fun hf=>?_,fun hf=>⟨_,.here _,?_⟩⟩
 ·rw [List.drop_eq_nil_of_le hf,List.all_nil] at ha;(conv=>whnf);refine cF rfl ?_;(conv=>whnf);skip;unfold nameOK;rw [ha];rfl
 obtain ⟨y,hy⟩:=get_lt hf;obtain ⟨h1,h2⟩:=sm_ok hy;rw [List.drop_eq_getElem_cons hf,List.all_cons,(List.getElem?_eq_some_iff.1 hy).2] at ha;(conv=>whnf);refine cT rfl ?_;(conv=>whnf);skip;refine ⟨fun hq=>?_,fun hq=>?_⟩
 ·have hq:smC ((decS s pos).1:Int)=true:=hq;have hl:small y=false:=by rw [h1] at hq;simpa using hq
  (conv=>whnf);skip;unfold nameOK;rw [ha,hl];rfl
 have hq:smC ((decS s pos).1:Int)=false:=hq;have hl:small y=true:=by rw [h1] at hq;simpa using hq
 rw [hl,Bool.true_and] at ha;(conv=>whnf);skip;rw [h2 hl];exact ⟨_,by omega,pos+1,rfl,rfl,rfl,by omega,ha⟩
end Go.Abs.Wall
namespace Go.Abs.Wall
open Go Go.Abs Go.Proofs
structure Ent where
 root:List UInt8
 kind:Int
 cls:List UInt8
 weight:Int
deriving DecidableEq
structure Edn where
 kind:Int
 text:List UInt8
 name:List UInt8
 weight:Int
deriving DecidableEq
structure Cli where
 text:List UInt8
 name:List UInt8
 weight:Int
deriving DecidableEq
structure Lex where
 entries:List Ent
 endings:List Edn
 clitics:List Cli
def encEnt (e:Ent):List AV:=[.str e.root,.int .i64 e.kind,.str e.cls,.int .i64 e.weight]
def encEdn (e:Edn):List AV:=[.int .i64 e.kind,.str e.text,.str e.name,.int .i64 e.weight]
def encCli (e:Cli):List AV:=[.str e.text,.str e.name,.int .i64 e.weight]
def encLex (x:Lex):List AV:=[.sl 4 none (x.entries.map encEnt),.sl 4 none (x.endings.map encEdn),.sl 3 none (x.clitics.map encCli)]
structure EntFit (e:Ent):Prop where
 root:e.root.length<=LMAX
 cls:e.cls.length<=LMAX
structure EdnFit (e:Edn):Prop where
 text:e.text.length<=LMAX
 name:e.name.length<=LMAX
structure CliFit (e:Cli):Prop where
 text:e.text.length<=LMAX
 name:e.name.length<=LMAX
structure LexFit (x:Lex):Prop where
 entries:x.entries.length<=LMAX
 endings:x.endings.length<=LMAX
 clitics:x.clitics.length<=LMAX
 ent:∀ e∈x.entries,EntFit e
 edn:∀ e∈x.endings,EdnFit e
 cli:∀ e∈x.clitics,CliFit e
def wthn (n lo hi:Int):Bool:=decide (lo<=n)&&decide (n<=hi)
def entSame (w v:Ent):Bool:=decide (v.root=w.root)&&decide (v.kind=w.kind)&&decide (v.cls=w.cls)
def ednSame (w v:Edn):Bool:=decide (v.kind=w.kind)&&decide (v.name=w.name)
def cliSame (w v:Cli):Bool:=decide (v.name=w.name)
def entBad (before:List Ent) (w:Ent):Bool:=!sndOK w.root 8||!wthn w.kind 1 9||(!decide (w.cls=[])&&!nameOK w.cls)||!wthn w.weight 0 1000||before.any (entSame w)
def ednBad (before:List Edn) (w:Edn):Bool:=!wthn w.kind 1 9||!sndOK w.text 4||!nameOK w.name||!wthn w.weight 0 1000||before.any (ednSame w)
def cliBad (before:List Cli) (w:Cli):Bool:=!sndOK w.text 4||!nameOK w.name||!wthn w.weight 0 1000||before.any (cliSame w)
def badGo {α:Type} (bad:List α->α->Bool) (l:List α):List α->Nat->Bool
 | [],_=>false
 | w::t,i=>bad (l.take i) w||badGo bad l t (i+1)
def bads {α:Type} (bad:List α->α->Bool) (l:List α):Bool:=badGo bad l l 0
def lexErr (x:Lex):Int:=
 if 200<x.entries.length\/40<x.endings.length\/10<x.clitics.length then 2
 else if bads entBad x.entries=true then 45
 else if bads ednBad x.endings=true then 46
 else if bads cliBad x.clitics=true then 47
 else 0
def c132:Cfg:=⟨[0,1,4,5,7,8,9,16],[],[],[],[],[]⟩
def c97:Cfg:=⟨[0,1,4],[],[],[],[],[]⟩
theorem indexFuncE (l:List Ent) (hl:l.length<=LMAX) (f:FuncId) (caps:List AV) (p:Ent->Bool) (hp:∀ w∈l,QCall Tryz.prog f (.agg (encEnt w)::caps) [] (.bool (p w))) :
  QCall Tryz.prog 132 [.sl 4 none (l.map encEnt),.fn f caps] [] (.int .i64 (firstI p l)):=by
 refine fcalls (F:=Tryz.f132) c132 rfl rfl rfl mixed rfl fun X=>?_;(conv=>whnf);unfold LMAX at hl;refine sloop rfl mixed [0,1,7,8] [] (fun m r h=>∃ (i:Nat),r=[(0,[],.sl 4 none (l.map encEnt)),(1,[],.fn f caps),(7,[],.int .i64 (l.map encEnt).length),(8,[],.int .i64 i)]/\h=[]/\m=l.length - i/\i<=l.length/\Below p l i) ?_ ?_
 ·(conv=>whnf);exact ⟨_,0,rfl,rfl,rfl,by omega,.zero⟩
 rintro m r h ⟨i,rfl,rfl,rfl,hi,hg⟩;(conv=>whnf);refine ⟨fun hc=>?_,fun hc=>?_⟩<;>simp at hc
 ·obtain ⟨x,hx⟩:=get_lt hc;(conv=>whnf);repeat ((first|refine ix (by assumption) ?_|(refine QCall.k0 (hp x (List.mem_of_getElem? hx)) ?_));conv=>whnf)
  refine ⟨fun hd=>?_,fun hd=>?_⟩
  ·(conv=>whnf);exact ⟨by rw [hg.at hx hd],rfl⟩
  (conv=>whnf);repeat (refine ⟨gP_of ⟨by omega,by omega⟩,?_⟩;conv=>whnf)
  exact ⟨_,by omega,i+1,rfl,rfl,rfl,by omega,hg.succ hx hd⟩
 (conv=>whnf);exact ⟨by rw [hg.end hc],rfl⟩
theorem containsFuncE (l:List Ent) (hl:l.length<=LMAX) (f:FuncId) (caps:List AV) (p:Ent->Bool) (hp:∀ w∈l,QCall Tryz.prog f (.agg (encEnt w)::caps) [] (.bool (p w))) :
  QCall Tryz.prog 97 [.sl 4 none (l.map encEnt),.fn f caps] [] (.bool (l.any p)):=by
 refine fcalls (F:=Tryz.f97) c97 rfl rfl rfl mixed rfl fun X=>?_;(conv=>whnf);refine QCall.k0 (indexFuncE l hl f caps p hp) ?_;(conv=>whnf);exact ⟨congrArg AV.bool (firstI_any p l),rfl⟩
def c133:Cfg:=⟨[0,1,4,5,7,8,9,16],[],[],[],[],[]⟩
def c99:Cfg:=⟨[0,1,4],[],[],[],[],[]⟩
theorem indexFuncN (l:List Edn) (hl:l.length<=LMAX) (f:FuncId) (caps:List AV) (p:Edn->Bool) (hp:∀ w∈l,QCall Tryz.prog f (.agg (encEdn w)::caps) [] (.bool (p w))) :
  QCall Tryz.prog 133 [.sl 4 none (l.map encEdn),.fn f caps] [] (.int .i64 (firstI p l)):=by
 refine fcalls (F:=Tryz.f133) c133 rfl rfl rfl mixed rfl fun X=>?_;(conv=>whnf);unfold LMAX at hl;refine sloop rfl mixed [0,1,7,8] [] (fun m r h=>∃ (i:Nat),r=[(0,[],.sl 4 none (l.map encEdn)),(1,[],.fn f caps),(7,[],.int .i64 (l.map encEdn).length),(8,[],.int .i64 i)]/\h=[]/\m=l.length - i/\i<=l.length/\Below p l i) ?_ ?_
 ·(conv=>whnf);exact ⟨_,0,rfl,rfl,rfl,by omega,.zero⟩
 rintro m r h ⟨i,rfl,rfl,rfl,hi,hg⟩;(conv=>whnf);refine ⟨fun hc=>?_,fun hc=>?_⟩<;>simp at hc
 ·obtain ⟨x,hx⟩:=get_lt hc;(conv=>whnf);repeat ((first|refine ix (by assumption) ?_|(refine QCall.k0 (hp x (List.mem_of_getElem? hx)) ?_));conv=>whnf)
  refine ⟨fun hd=>?_,fun hd=>?_⟩
  ·(conv=>whnf);exact ⟨by rw [hg.at hx hd],rfl⟩
  (conv=>whnf);repeat (refine ⟨gP_of ⟨by omega,by omega⟩,?_⟩;conv=>whnf)
  exact ⟨_,by omega,i+1,rfl,rfl,rfl,by omega,hg.succ hx hd⟩
 (conv=>whnf);exact ⟨by rw [hg.end hc],rfl⟩
theorem containsFuncN (l:List Edn) (hl:l.length<=LMAX) (f:FuncId) (caps:List AV) (p:Edn->Bool) (hp:∀ w∈l,QCall Tryz.prog f (.agg (encEdn w)::caps) [] (.bool (p w))) :
  QCall Tryz.prog 99 [.sl 4 none (l.map encEdn),.fn f caps] [] (.bool (l.any p)):=by
 refine fcalls (F:=Tryz.f99) c99 rfl rfl rfl mixed rfl fun X=>?_;(conv=>whnf);refine QCall.k0 (indexFuncN l hl f caps p hp) ?_;(conv=>whnf);exact ⟨congrArg AV.bool (firstI_any p l),rfl⟩
def c134:Cfg:=⟨[0,1,4,5,7,8,9,16],[],[],[],[],[]⟩
def c101:Cfg:=⟨[0,1,4],[],[],[],[],[]⟩
theorem indexFuncK (l:List Cli) (hl:l.length<=LMAX) (f:FuncId) (caps:List AV) (p:Cli->Bool) (hp:∀ w∈l,QCall Tryz.prog f (.agg (encCli w)::caps) [] (.bool (p w))) :
  QCall Tryz.prog 134 [.sl 3 none (l.map encCli),.fn f caps] [] (.int .i64 (firstI p l)):=by
 refine fcalls (F:=Tryz.f134) c134 rfl rfl rfl mixed rfl fun X=>?_;(conv=>whnf);unfold LMAX at hl;refine sloop rfl mixed [0,1,7,8] [] (fun m r h=>∃ (i:Nat),r=[(0,[],.sl 3 none (l.map encCli)),(1,[],.fn f caps),(7,[],.int .i64 (l.map encCli).length),(8,[],.int .i64 i)]/\h=[]/\m=l.length - i/\i<=l.length/\Below p l i) ?_ ?_
 ·(conv=>whnf);exact ⟨_,0,rfl,rfl,rfl,by omega,.zero⟩
 rintro m r h ⟨i,rfl,rfl,rfl,hi,hg⟩;(conv=>whnf);refine ⟨fun hc=>?_,fun hc=>?_⟩<;>simp at hc
 ·obtain ⟨x,hx⟩:=get_lt hc;(conv=>whnf);repeat ((first|refine ix (by assumption) ?_|(refine QCall.k0 (hp x (List.mem_of_getElem? hx)) ?_));conv=>whnf)
  refine ⟨fun hd=>?_,fun hd=>?_⟩
  ·(conv=>whnf);exact ⟨by rw [hg.at hx hd],rfl⟩
  (conv=>whnf);repeat (refine ⟨gP_of ⟨by omega,by omega⟩,?_⟩;conv=>whnf)
  exact ⟨_,by omega,i+1,rfl,rfl,rfl,by omega,hg.succ hx hd⟩
 (conv=>whnf);exact ⟨by rw [hg.end hc],rfl⟩
theorem containsFuncK (l:List Cli) (hl:l.length<=LMAX) (f:FuncId) (caps:List AV) (p:Cli->Bool) (hp:∀ w∈l,QCall Tryz.prog f (.agg (encCli w)::caps) [] (.bool (p w))) :
  QCall Tryz.prog 101 [.sl 3 none (l.map encCli),.fn f caps] [] (.bool (l.any p)):=by
 refine fcalls (F:=Tryz.f101) c101 rfl rfl rfl mixed rfl fun X=>?_;(conv=>whnf);refine QCall.k0 (indexFuncK l hl f caps p hp) ?_;(conv=>whnf);exact ⟨congrArg AV.bool (firstI_any p l),rfl⟩
def c93:Cfg:=⟨[0,1,2,3],[],[],[],[],[]⟩
def c98:Cfg:=⟨[0,1,2,3],[],[],[],[],[]⟩
def c100:Cfg:=⟨[0,1,2,3],[],[],[],[],[]⟩
theorem entSameF (w v:Ent):QCall Tryz.prog 93 [.agg (encEnt v),.iptr (encEnt w)] [] (.bool (entSame w v)):=by refine fcalls (F:=Tryz.f93) c93 rfl rfl rfl mixed rfl fun X=>?_;(conv=>whnf);skip;exact ⟨rfl,rfl⟩
theorem ednSameF (w v:Edn):QCall Tryz.prog 98 [.agg (encEdn v),.iptr (encEdn w)] [] (.bool (ednSame w v)):=by refine fcalls (F:=Tryz.f98) c98 rfl rfl rfl mixed rfl fun X=>?_;(conv=>whnf);skip;exact ⟨rfl,rfl⟩
theorem cliSameF (w v:Cli):QCall Tryz.prog 100 [.agg (encCli v),.iptr (encCli w)] [] (.bool (cliSame w v)):=by refine fcalls (F:=Tryz.f100) c100 rfl rfl rfl mixed rfl fun X=>?_;(conv=>whnf);skip;exact ⟨rfl,rfl⟩
def c63:Cfg:=⟨[0,1,2,3,4,5,6,7,8,9,10,11,27,29,30,31,32,71,74,75,76,77,111,114,115,116,117,145],[],[4,7,10],[],[],[]⟩
set_option maxHeartbeats 2000000 in
theorem lexCheck (x:Lex) (hx:LexFit x):QCall Tryz.prog 63 [.agg (encLex x)] [] (.int .i64 (lexErr x)):=by
 have hx1:=hx.entries;have hx2:=hx.endings;have hx3:=hx.clitics;unfold LMAX at hx1 hx2 hx3;refine fcalls (F:=Tryz.f63) c63 rfl rfl rfl mixed rfl fun X=>?_;(conv=>whnf);skip;refine ⟨fun hc=>?_,fun hc=>?_⟩
 ·have hc:(decide (200<((x.entries.map encEnt).length:Int))||decide (40<((x.endings.map encEdn).length:Int))||decide (10<((x.clitics.map encCli).length:Int)))=true:=hc;simp [or_assoc] at hc;(conv=>whnf);exact ⟨by rw [lexErr,if_pos (by omega)],rfl⟩
 have hc:(decide (200<((x.entries.map encEnt).length:Int))||decide (40<((x.endings.map encEdn).length:Int))||decide (10<((x.clitics.map encCli).length:Int)))=false:=hc;simp at hc;have h0:lexErr x=if bads entBad x.entries=true then 45 else if bads ednBad x.endings=true then 46 else if bads cliBad x.clitics=true then 47 else 0:=(by rw [lexErr,if_neg (by omega)]);(conv=>whnf);refine sloop rfl mixed [1,29,30,31] [] (fun m r h=>∃ (i:Nat),r=[(1,[],.iptr (encLex x)),(29,[],.sl 4 none (x.entries.map encEnt)),(30,[],.int .i64 (x.entries.map encEnt).length),(31,[],.int .i64 i)]/\h=[]/\m=x.entries.length - i/\i<=x.entries.length/\bads entBad x.entries=badGo entBad x.entries (x.entries.drop i) i) ?_ ?_
 ·(conv=>whnf);exact ⟨_,0,rfl,rfl,rfl,by omega,rfl⟩
 rintro m r h ⟨i,rfl,rfl,rfl,hi,hb⟩;(conv=>whnf);refine ⟨fun he=>?_,fun he=>?_⟩<;>simp at he
 ·obtain ⟨w,hw⟩:=get_lt he;have hm:=List.mem_of_getElem? hw;rw [drop_cons hw,badGo] at hb;have hq:=containsFuncE (x.entries.take i) (by simp [LMAX];omega) 93 [.iptr (encEnt w)] (entSame w) (fun v _=>entSameF w v);rw [List.map_take] at hq;(conv=>whnf);repeat ((first|refine ix (by assumption) ?_|refine QCall.k0 (soundsW w.root 8 (hx.ent w hm).root) ?_|refine gcall (lwithin _ _ _) ?_|refine gcall (namedW w.cls (hx.ent w hm).cls) ?_|(refine gcall hq ?_)|(refine ⟨gP_of ⟨by omega,by omega,by simp;omega⟩,?_⟩)|refine ⟨_,_,Rem.here _,⟨Nat.le_of_ble_eq_true rfl,rfl⟩,?_⟩|intro (nb:Nat));conv=>whnf)
  refine ⟨fun hd=>?_,fun hd=>?_⟩
  ·have hd:entBad (x.entries.take i) w=true:=hd;rw [hd,Bool.true_or] at hb;(conv=>whnf);exact ⟨by rw [h0,if_pos hb],rfl⟩
  have hd:entBad (x.entries.take i) w=false:=hd;rw [hd,Bool.false_or] at hb;(conv=>whnf);repeat (refine ⟨gP_of ⟨by omega,by omega⟩,?_⟩;conv=>whnf)
  exact ⟨_,by omega,i+1,rfl,rfl,rfl,by omega,hb⟩
 rw [drop_nil he,badGo] at hb;have h1:lexErr x=if bads ednBad x.endings=true then 46 else if bads cliBad x.clitics=true then 47 else 0:=(by rw [h0,if_neg (by rw [hb];decide)]);(conv=>whnf);refine sloop rfl mixed [1,74,75,76] [] (fun m r h=>∃ (i:Nat),r=[(1,[],.iptr (encLex x)),(74,[],.sl 4 none (x.endings.map encEdn)),(75,[],.int .i64 (x.endings.map encEdn).length),(76,[],.int .i64 i)]/\h=[]/\m=x.endings.length - i/\i<=x.endings.length/\bads ednBad x.endings=badGo ednBad x.endings (x.endings.drop i) i) ?_ ?_
 ·(conv=>whnf);exact ⟨_,0,rfl,rfl,rfl,by omega,rfl⟩
 rintro m r h ⟨i,rfl,rfl,rfl,hi,hb⟩;(conv=>whnf);refine ⟨fun he=>?_,fun he=>?_⟩<;>simp at he
 ·obtain ⟨w,hw⟩:=get_lt he;have hm:=List.mem_of_getElem? hw;rw [drop_cons hw,badGo] at hb;have hq:=containsFuncN (x.endings.take i) (by simp [LMAX];omega) 98 [.iptr (encEdn w)] (ednSame w) (fun v _=>ednSameF w v);rw [List.map_take] at hq;(conv=>whnf);repeat ((first|refine ix (by assumption) ?_|refine QCall.k0 (lwithin _ _ _) ?_|refine gcall (lwithin _ _ _) ?_|refine gcall (soundsW w.text 4 (hx.edn w hm).text) ?_|refine gcall (namedW w.name (hx.edn w hm).name) ?_|(refine gcall hq ?_)|(refine ⟨gP_of ⟨by omega,by omega,by simp;omega⟩,?_⟩)|refine ⟨_,_,Rem.here _,⟨Nat.le_of_ble_eq_true rfl,rfl⟩,?_⟩|intro (nb:Nat));conv=>whnf)
  refine ⟨fun hd=>?_,fun hd=>?_⟩
  ·have hd:ednBad (x.endings.take i) w=true:=hd;rw [hd,Bool.true_or] at hb;(conv=>whnf);exact ⟨by rw [h1,if_pos hb],rfl⟩
  have hd:ednBad (x.endings.take i) w=false:=hd;rw [hd,Bool.false_or] at hb;(conv=>whnf);repeat (refine ⟨gP_of ⟨by omega,by omega⟩,?_⟩;conv=>whnf)
  exact ⟨_,by omega,i+1,rfl,rfl,rfl,by omega,hb⟩
 rw [drop_nil he,badGo] at hb;have h2:lexErr x=if bads cliBad x.clitics=true then 47 else 0:=(by rw [h1,if_neg (by rw [hb];decide)]);(conv=>whnf);refine sloop rfl mixed [1,114,115,116] [] (fun m r h=>∃ (i:Nat),r=[(1,[],.iptr (encLex x)),(114,[],.sl 3 none (x.clitics.map encCli)),(115,[],.int .i64 (x.clitics.map encCli).length),(116,[],.int .i64 i)]/\h=[]/\m=x.clitics.length - i/\i<=x.clitics.length/\bads cliBad x.clitics=badGo cliBad x.clitics (x.clitics.drop i) i) ?_ ?_
 ·(conv=>whnf);exact ⟨_,0,rfl,rfl,rfl,by omega,rfl⟩
 rintro m r h ⟨i,rfl,rfl,rfl,hi,hb⟩;(conv=>whnf);refine ⟨fun he=>?_,fun he=>?_⟩<;>simp at he
 ·obtain ⟨w,hw⟩:=get_lt he;have hm:=List.mem_of_getElem? hw;rw [drop_cons hw,badGo] at hb;have hq:=containsFuncK (x.clitics.take i) (by simp [LMAX];omega) 100 [.iptr (encCli w)] (cliSame w) (fun v _=>cliSameF w v);rw [List.map_take] at hq;(conv=>whnf);repeat ((first|refine ix (by assumption) ?_|refine QCall.k0 (soundsW w.text 4 (hx.cli w hm).text) ?_|refine gcall (namedW w.name (hx.cli w hm).name) ?_|refine gcall (lwithin _ _ _) ?_|(refine gcall hq ?_)|(refine ⟨gP_of ⟨by omega,by omega,by simp;omega⟩,?_⟩)|refine ⟨_,_,Rem.here _,⟨Nat.le_of_ble_eq_true rfl,rfl⟩,?_⟩|intro (nb:Nat));conv=>whnf)
  refine ⟨fun hd=>?_,fun hd=>?_⟩
  ·have hd:cliBad (x.clitics.take i) w=true:=hd;rw [hd,Bool.true_or] at hb;(conv=>whnf);exact ⟨by rw [h2,if_pos hb],rfl⟩
  have hd:cliBad (x.clitics.take i) w=false:=hd;rw [hd,Bool.false_or] at hb;(conv=>whnf);repeat (refine ⟨gP_of ⟨by omega,by omega⟩,?_⟩;conv=>whnf)
  exact ⟨_,by omega,i+1,rfl,rfl,rfl,by omega,hb⟩
 rw [drop_nil he,badGo] at hb;have h3:lexErr x=0:=(by rw [h2,if_neg (by rw [hb];decide)]);(conv=>whnf);exact ⟨by rw [h3],rfl⟩
end Go.Abs.Wall
namespace Go.Abs.Wall
open Go Go.Abs Go.Proofs
structure Frm where
 entry:Int
 ending:Int
 clitics:List Int
deriving DecidableEq
def encFrm (f:Frm):List AV:=[.int .i64 f.entry,.int .i64 f.ending,.sl 1 none (ints f.clitics)]
def entAt (x:Lex) (n:Int):Ent:=x.entries.getD n.toNat ⟨[],0,[],0⟩
def ednAt (x:Lex) (n:Int):Edn:=x.endings.getD n.toNat ⟨0,[],[],0⟩
def cliAt (x:Lex) (n:Int):Cli:=x.clitics.getD n.toNat ⟨[],[],0⟩
def badEnd (x:Lex) (f:Frm):Bool:=!decide (f.ending = -1)&&(!wthn f.ending 0 ((x.endings.length:Int) - 1)||!decide ((ednAt x f.ending).kind=(entAt x f.entry).kind))
def cliOK (n:Nat):List Int->Int->Bool
 | [],_=>true
 | c::t,last=>!(decide (c<=last)||decide ((n:Int)<=c))&&cliOK n t c
def frmErr (x:Lex) (f:Frm):Int:=
 if lexErr x≠0 then lexErr x
 else if wthn f.entry 0 ((x.entries.length:Int) - 1)=false then 45
 else if badEnd x f=true then 46
 else if 3<f.clitics.length then 47
 else if cliOK x.clitics.length f.clitics (-1)=true then 0
 else 47
theorem wthn_iff {n lo hi:Int}:wthn n lo hi=true↔lo<=n/\n<=hi:=by unfold wthn;simp
theorem badGo_not {α:Type} {bad:List α->α->Bool} {l:List α}:∀ (t:List α) (k:Nat),l.drop k=t->badGo bad l t k=false->∀ (i:Nat) w,k<=i->l[i]?=some w->bad (l.take i) w=false
 | [],k,hd,_,i,w,hi,hw=>by have h1:=List.drop_eq_nil_iff.1 hd;have h2:=(List.getElem?_eq_some_iff.1 hw).1;omega
 | a::t,k,hd,h,i,w,hi,hw=>by
   rw [badGo,Bool.or_eq_false_iff] at h;have hk:l[k]?=some a:=by have:=congrArg (fun z=>z[0]?) hd;simpa using this
   by_cases e:i=k
   ·subst e;rw [hk] at hw;cases hw;exact h.1
   refine badGo_not t (k+1) ?_ h.2 i w (by omega) hw;have:=congrArg List.tail hd;simpa [List.tail_drop] using this
theorem bads_not {α:Type} {bad:List α->α->Bool} {l:List α} (h:bads bad l=false) (i:Nat) (w:α) (hw:l[i]?=some w):bad (l.take i) w=false:=
 badGo_not l 0 rfl h i w (Nat.zero_le _) hw
structure EntOK (e:Ent):Prop where
 root:sndOK e.root 8=true
 kind:1<=e.kind/\e.kind<=9
 cls:e.cls≠[]->nameOK e.cls=true
 weight:0<=e.weight/\e.weight<=1000
structure EdnOK (e:Edn):Prop where
 text:sndOK e.text 4=true
 weight:0<=e.weight/\e.weight<=1000
structure CliOK (e:Cli):Prop where
 text:sndOK e.text 4=true
 weight:0<=e.weight/\e.weight<=1000
structure LexOK (x:Lex):Prop where
 many:x.entries.length<=200/\x.endings.length<=40/\x.clitics.length<=10
 ent:∀ e∈x.entries,EntOK e
 edn:∀ e∈x.endings,EdnOK e
 cli:∀ e∈x.clitics,CliOK e
theorem sndOK_len {s:List UInt8} {n:Int} (h:sndOK s n=true):1<=(s.length:Int)/\(s.length:Int)<=n:=by unfold sndOK at h;simp only [Bool.and_eq_true,decide_eq_true_eq] at h;exact h.2
theorem lexOK {x:Lex} (h:lexErr x=0):LexOK x:=by
 unfold lexErr at h;split at h
 ·cases h
 rename_i h1;split at h
 ·cases h
 rename_i h2;split at h
 ·cases h
 rename_i h3;split at h
 ·cases h
 rename_i h4;refine ⟨by omega,fun e he=>?_,fun e he=>?_,fun e he=>?_⟩
 ·obtain ⟨i,hi⟩:=List.mem_iff_getElem?.1 he;have:=bads_not (Bool.eq_false_iff.2 h2) i e hi;unfold entBad at this;simp only [Bool.or_eq_false_iff,Bool.not_eq_false',Bool.and_eq_false_iff,wthn_iff,decide_eq_true_eq] at this;exact ⟨this.1.1.1.1,this.1.1.1.2,fun hc=>by rcases this.1.1.2 with h|h;exact absurd h hc;exact h,this.1.2⟩
 ·obtain ⟨i,hi⟩:=List.mem_iff_getElem?.1 he;have:=bads_not (Bool.eq_false_iff.2 h3) i e hi;unfold ednBad at this;simp only [Bool.or_eq_false_iff,Bool.not_eq_false',Bool.and_eq_false_iff,wthn_iff,decide_eq_true_eq] at this;exact ⟨this.1.1.1.2,this.1.2⟩
 obtain ⟨i,hi⟩:=List.mem_iff_getElem?.1 he;have:=bads_not (Bool.eq_false_iff.2 h4) i e hi;unfold cliBad at this;simp only [Bool.or_eq_false_iff,Bool.not_eq_false',Bool.and_eq_false_iff,wthn_iff,decide_eq_true_eq] at this;exact ⟨this.1.1.1,this.1.2⟩
theorem cliOK_mem {n:Nat}:∀ {l:List Int} {last:Int},cliOK n l last=true->∀ c∈l,last<c/\c<n
 | [],_,_,c,hc=>by cases hc
 | a::t,last,h,c,hc=>by
   unfold cliOK at h;simp only [Bool.and_eq_true,Bool.not_eq_true',Bool.or_eq_false_iff,decide_eq_false_iff_not] at h;rcases List.mem_cons.1 hc with rfl|hc
   ·omega
   have:=cliOK_mem h.2 c hc;omega
structure FrmOK (x:Lex) (f:Frm):Prop where
 lex:LexOK x
 entry:0<=f.entry/\f.entry<x.entries.length
 ending:f.ending = -1\/(0<=f.ending/\f.ending<x.endings.length/\(ednAt x f.ending).kind=(entAt x f.entry).kind)
 few:f.clitics.length<=3
 cli:∀ c∈f.clitics,0<=c/\c<x.clitics.length
 up:cliOK x.clitics.length f.clitics (-1)=true
theorem frmOK {x:Lex} {f:Frm} (h:frmErr x f=0):FrmOK x f:=by
 unfold frmErr at h;split at h
 ·rename_i h0;exact absurd h h0
 rename_i h0;split at h
 ·cases h
 rename_i h1;split at h
 ·cases h
 rename_i h2;split at h
 ·cases h
 rename_i h3;split at h
 ·rename_i h4;rw [Bool.not_eq_false,wthn_iff] at h1;rw [Bool.not_eq_true] at h2;unfold badEnd at h2;simp only [Bool.and_eq_false_iff,Bool.or_eq_false_iff,Bool.not_eq_false',wthn_iff,decide_eq_true_eq] at h2;refine ⟨lexOK (by omega),by omega,?_,by omega,fun c hc=>?_,h4⟩
  ·rcases h2 with h2|h2
   ·exact .inl h2
   exact .inr ⟨by omega,by omega,h2.2⟩
  have:=cliOK_mem h4 c hc;omega
 cases h
theorem entAt_get {x:Lex} {n:Int} (h0:0<=n) (h1:n<x.entries.length):x.entries[n.toNat]?=some (entAt x n):=by have:n.toNat<x.entries.length:=(by omega);unfold entAt;simp [List.getElem?_eq_getElem this]
theorem ednAt_get {x:Lex} {n:Int} (h0:0<=n) (h1:n<x.endings.length):x.endings[n.toNat]?=some (ednAt x n):=by have:n.toNat<x.endings.length:=(by omega);unfold ednAt;simp [List.getElem?_eq_getElem this]
theorem cliAt_get {x:Lex} {n:Int} (h0:0<=n) (h1:n<x.clitics.length):x.clitics[n.toNat]?=some (cliAt x n):=by have:n.toNat<x.clitics.length:=(by omega);unfold cliAt;simp [List.getElem?_eq_getElem this]
theorem LexOK.entAt {x:Lex} (hx:LexOK x) {n:Int} (h0:0<=n) (h1:n<x.entries.length):EntOK (Wall.entAt x n):=hx.ent _ (List.mem_of_getElem? (entAt_get h0 h1))
theorem LexOK.ednAt {x:Lex} (hx:LexOK x) {n:Int} (h0:0<=n) (h1:n<x.endings.length):EdnOK (Wall.ednAt x n):=hx.edn _ (List.mem_of_getElem? (ednAt_get h0 h1))
theorem LexOK.cliAt {x:Lex} (hx:LexOK x) {n:Int} (h0:0<=n) (h1:n<x.clitics.length):CliOK (Wall.cliAt x n):=hx.cli _ (List.mem_of_getElem? (cliAt_get h0 h1))
def cliW (x:Lex) (l:List Int):Int:=(l.map fun c=>(cliAt x c).weight).sum
def cliT (x:Lex) (l:List Int):List UInt8:=(l.map fun c=>(cliAt x c).text).flatten
def wgtM (x:Lex) (f:Frm):Int:=(entAt x f.entry).weight+(if 0<=f.ending then (ednAt x f.ending).weight else 0)+cliW x f.clitics
theorem cliW_bound {x:Lex} (hx:LexOK x):∀ {l:List Int},(∀ c∈l,0<=c/\c<x.clitics.length)->0<=cliW x l/\cliW x l<=1000*l.length
 | [],_=>by simp [cliW]
 | c::l,h=>by have ih:=cliW_bound hx (l:=l) fun d hd=>h d (by simp [hd]);have hc:=h c (by simp);have hw:=(hx.cliAt hc.1 hc.2).weight;unfold cliW at ih ⊢;simp only [List.map_cons,List.sum_cons,List.length_cons];omega
theorem cliT_bound {x:Lex} (hx:LexOK x):∀ {l:List Int},(∀ c∈l,0<=c/\c<x.clitics.length)->(cliT x l).length<=4*l.length
 | [],_=>by simp [cliT]
 | c::l,h=>by have ih:=cliT_bound hx (l:=l) fun d hd=>h d (by simp [hd]);have hc:=h c (by simp);have hw:=sndOK_len (hx.cliAt hc.1 hc.2).text;unfold cliT at ih ⊢;simp only [List.map_cons,List.flatten_cons,List.length_append,List.length_cons];omega
theorem FrmOK.wgt {x:Lex} {f:Frm} (h:FrmOK x f):0<=wgtM x f/\wgtM x f<=5000:=by
 have h1:=(h.lex.entAt h.entry.1 h.entry.2).weight;have h2:=cliW_bound h.lex h.cli;have h3:=h.few;unfold wgtM;split
 ·rename_i h4;have h5:=(h.lex.ednAt h4 (by rcases h.ending with h|h<;>omega)).weight
  omega
 omega
theorem take_snoc {α:Type} {l:List α} {i:Nat} {a:α} (h:l[i]?=some a):l.take (i+1)=l.take i++[a]:=by rw [List.take_add_one,h];rfl
theorem cliW_snoc {x:Lex} {l:List Int} {c:Int}:cliW x (l++[c])=cliW x l+(cliAt x c).weight:=by unfold cliW;simp
theorem cliT_snoc {x:Lex} {l:List Int} {c:Int}:cliT x (l++[c])=cliT x l++(cliAt x c).text:=by unfold cliT;simp
def c152:Cfg:=⟨[0,1,2,3,4,5,6,8,12,21,51,55,57,58,59,60,72],[],[],[],[(6,[0,1,2,3,4,5,6,7,8,9,10,11,12,13,14,15,16,17,18,19,20,21,22,23,24,25,26,27,28,29],[])],[]⟩
def c153:Cfg:=⟨[0,1,2,3,4,5,7,17,28,29,30,31],[],[],[],[],[]⟩
def c140:Cfg:=⟨[0,1,2,3,4,5,6,11],[],[],[],[],[]⟩
theorem checkForm (x:Lex) (f:Frm) (hx:LexFit x) (hf:f.clitics.length<=LMAX):QCall Tryz.prog 152 [.agg (encLex x),.agg (encFrm f)] [] (.int .i64 (frmErr x f)):=by
 have hx1:=hx.entries;have hx2:=hx.endings;have hx3:=hx.clitics;unfold LMAX at hx1 hx2 hx3 hf;refine fcalls (F:=Tryz.f152) c152 rfl rfl rfl mixed rfl fun X=>?_;(conv=>whnf);repeat (refine QCall.k0 (lexCheck x hx) ?_;conv=>whnf)
 refine ⟨fun hc=>?_,fun hc=>?_⟩<;>simp at hc
 ·(conv=>whnf);exact ⟨by rw [frmErr,if_pos hc],rfl⟩
 (conv=>whnf);repeat ((first|refine QCall.k0 (lwithin _ _ _) ?_|(refine ⟨gP_of ⟨by rw [List.length_map];omega,by rw [List.length_map];omega⟩,?_⟩));conv=>whnf)
 refine ⟨fun hd=>?_,fun hd=>?_⟩
 ·have hd:(!wthn f.entry 0 ((x.entries.map encEnt).length - 1))=true:=hd;rw [List.length_map,Bool.not_eq_true'] at hd;(conv=>whnf);exact ⟨by rw [frmErr,if_neg (by omega),if_pos hd],rfl⟩
 have hd:(!wthn f.entry 0 ((x.entries.map encEnt).length - 1))=false:=hd;rw [List.length_map,Bool.not_eq_false'] at hd;have hd':=wthn_iff.1 hd;(conv=>whnf);repeat ((first|(refine ixg (⟨0,[],[],0⟩:Edn) ?_ ?_;(focus (conv=>whnf;skip));(focus (intro g0 g1;simp at g1;show 0<=_/\_<_;omega)))|(refine ixg (⟨[],0,[],0⟩:Ent) ?_ ?_;(focus (conv=>whnf;skip));(focus (intro g0 g1;show 0<=_/\_<_;omega)))|(refine gcall (lwithin _ _ _) ?_)|(refine ⟨gP_of ⟨by rw [List.length_map];omega,by rw [List.length_map];omega⟩,?_⟩)|refine And.intro (by show drawOK (opsAt Tryz.f152 _) _=true;decide +kernel) ?_);conv=>whnf)
 refine ⟨fun he=>?_,fun he=>?_⟩
 ·have he:badEnd x f=true:=by unfold badEnd;rw [<- List.length_map (f:=encEdn)];exact he
  (conv=>whnf);exact ⟨by rw [frmErr,if_neg (by omega),if_neg (by rw [hd];decide),if_pos he],rfl⟩
 have he:badEnd x f=false:=by unfold badEnd;rw [<- List.length_map (f:=encEdn)];exact he
 (conv=>whnf);refine ⟨fun h3=>?_,fun h3=>?_⟩<;>simp at h3
 ·(conv=>whnf);exact ⟨by rw [frmErr,if_neg (by omega),if_neg (by rw [hd];decide),if_neg (by rw [he];decide),if_pos (by omega)],rfl⟩
 have hg:frmErr x f=if cliOK x.clitics.length f.clitics (-1)=true then 0 else 47:=(by rw [frmErr,if_neg (by omega),if_neg (by rw [hd];decide),if_neg (by rw [he];decide),if_neg (by omega)]);(conv=>whnf);refine sloop rfl mixed [2,6,57,58,59] [] (fun m r h=>∃ (i:Nat) (last:Int),r=[(2,[],.iptr (encLex x)),(6,[],.int .i64 last),(57,[],.sl 1 none (ints f.clitics)),(58,[],.int .i64 (ints f.clitics).length),(59,[],.int .i64 i)]/\h=[]/\m=f.clitics.length - i/\i<=f.clitics.length/\cliOK x.clitics.length f.clitics (-1)=cliOK x.clitics.length (f.clitics.drop i) last) ?_ ?_
 ·(conv=>whnf);exact ⟨_,0,-1,rfl,rfl,rfl,by omega,rfl⟩
 rintro m r h ⟨i,last,rfl,rfl,rfl,hi,hb⟩;(conv=>whnf);refine ⟨fun hi2=>?_,fun hi2=>?_⟩<;>simp at hi2
 ·obtain ⟨c,hc⟩:=get_lt hi2;rw [drop_cons hc,cliOK] at hb;(conv=>whnf);repeat (refine ix (by assumption) ?_;conv=>whnf)
  refine ⟨fun hq=>?_,fun hq=>?_⟩
  ·have hq:(decide (c<=last)||decide (((x.clitics.map encCli).length:Int)<=c))=true:=hq;rw [List.length_map] at hq;rw [hq] at hb;(conv=>whnf);exact ⟨by rw [hg,hb];rfl,rfl⟩
  have hq:(decide (c<=last)||decide (((x.clitics.map encCli).length:Int)<=c))=false:=hq;rw [List.length_map] at hq;rw [hq] at hb;(conv=>whnf);repeat (refine ⟨gP_of ⟨by omega,by omega⟩,?_⟩;conv=>whnf)
  exact ⟨_,by omega,i+1,c,rfl,rfl,rfl,by omega,hb⟩
 rw [drop_nil hi2,cliOK] at hb;(conv=>whnf);exact ⟨by rw [hg,hb];rfl,rfl⟩
theorem weightW (x:Lex) (f:Frm) (h:FrmOK x f):QCall Tryz.prog 153 [.agg (encLex x),.agg (encFrm f)] [] (.int .i64 (wgtM x f)):=by
 have hfew:=h.few;have hw1:=(h.lex.entAt h.entry.1 h.entry.2).weight;refine fcalls (F:=Tryz.f153) c153 rfl rfl rfl mixed rfl fun X=>?_;(conv=>whnf);repeat ((refine ixn f.entry.toNat (by have:=h.entry;omega) (entAt_get h.entry.1 h.entry.2) ?_);conv=>whnf)
 refine ⟨fun he=>?_,fun he=>?_⟩<;>simp at he
 ·have hel:f.ending<x.endings.length:=by rcases h.ending with h|h<;>omega
  have hw2:=(h.lex.ednAt he hel).weight;(conv=>whnf);repeat ((first|refine ⟨gP_of ⟨by omega,by omega⟩,?_⟩|(refine ixn f.ending.toNat (by omega) (ednAt_get he hel) ?_));conv=>whnf)
  obtain ⟨n0,hn0⟩:∃ n:Int,n=(entAt x f.entry).weight+(ednAt x f.ending).weight:=⟨_,rfl⟩;rw [<- hn0];have hn1:n0=(entAt x f.entry).weight+(if 0<=f.ending then (ednAt x f.ending).weight else 0):=by rw [if_pos he];exact hn0
  replace hn0:=hn1;refine sloop rfl mixed [2,5,28,29,30] [] (fun m r h=>∃ (i:Nat) (n:Int),r=[(2,[],.iptr (encLex x)),(5,[],.int .i64 n),(28,[],.sl 1 none (ints f.clitics)),(29,[],.int .i64 (ints f.clitics).length),(30,[],.int .i64 i)]/\h=[]/\m=f.clitics.length - i/\i<=f.clitics.length/\n=n0+cliW x (f.clitics.take i)) ?_ ?_
  ·(conv=>whnf);exact ⟨_,0,n0,rfl,rfl,rfl,by omega,by simp [cliW]⟩
  rintro m r h ⟨i,n,rfl,rfl,rfl,hi,hn⟩;(conv=>whnf);refine ⟨fun hi2=>?_,fun hi2=>?_⟩<;>simp at hi2
  ·obtain ⟨c,hc⟩:=get_lt hi2;have hcc:=h.cli c (List.mem_of_getElem? hc);have hcw:=(h.lex.cliAt hcc.1 hcc.2).weight;have hb:=cliW_bound h.lex (l:=f.clitics.take i) fun d hd=>h.cli d (List.mem_of_mem_take hd);rw [List.length_take] at hb;have hs:=take_snoc hc;(conv=>whnf);repeat ((first|refine ⟨gP_of ⟨by omega,by omega⟩,?_⟩|refine ix (by assumption) ?_|(refine ixn c.toNat (by omega) (cliAt_get hcc.1 hcc.2) ?_));conv=>whnf)
   exact ⟨_,by omega,i+1,_,rfl,rfl,rfl,by omega,by rw [hs,cliW_snoc];omega⟩
  rw [List.take_of_length_le hi2] at hn;(conv=>whnf);refine ⟨congrArg (AV.int .i64) ?_,rfl⟩;rw [hn,hn0];rfl
 (conv=>whnf);obtain ⟨n0,hn0⟩:∃ n:Int,n=(entAt x f.entry).weight:=⟨_,rfl⟩;rw [<- hn0];have hn1:n0=(entAt x f.entry).weight+(if 0<=f.ending then (ednAt x f.ending).weight else 0):=by rw [if_neg (by omega)];omega
 replace hn0:=hn1;refine sloop rfl mixed [2,5,28,29,30] [] (fun m r h=>∃ (i:Nat) (n:Int),r=[(2,[],.iptr (encLex x)),(5,[],.int .i64 n),(28,[],.sl 1 none (ints f.clitics)),(29,[],.int .i64 (ints f.clitics).length),(30,[],.int .i64 i)]/\h=[]/\m=f.clitics.length - i/\i<=f.clitics.length/\n=n0+cliW x (f.clitics.take i)) ?_ ?_
 ·(conv=>whnf);exact ⟨_,0,n0,rfl,rfl,rfl,by omega,by simp [cliW]⟩
 rintro m r h ⟨i,n,rfl,rfl,rfl,hi,hn⟩;(conv=>whnf);refine ⟨fun hi2=>?_,fun hi2=>?_⟩<;>simp at hi2
 ·obtain ⟨c,hc⟩:=get_lt hi2;have hcc:=h.cli c (List.mem_of_getElem? hc);have hcw:=(h.lex.cliAt hcc.1 hcc.2).weight;have hb:=cliW_bound h.lex (l:=f.clitics.take i) fun d hd=>h.cli d (List.mem_of_mem_take hd);rw [List.length_take] at hb;have hs:=take_snoc hc;(conv=>whnf);repeat ((first|refine ⟨gP_of ⟨by omega,by omega⟩,?_⟩|refine ix (by assumption) ?_|(refine ixn c.toNat (by omega) (cliAt_get hcc.1 hcc.2) ?_));conv=>whnf)
  exact ⟨_,by omega,i+1,_,rfl,rfl,rfl,by omega,by rw [hs,cliW_snoc];omega⟩
 rw [List.take_of_length_le hi2] at hn;(conv=>whnf);refine ⟨congrArg (AV.int .i64) ?_,rfl⟩;rw [hn,hn0];rfl
theorem WeightW (x:Lex) (f:Frm) (hx:LexFit x) (hf:f.clitics.length<=LMAX):QCall Tryz.prog 140 [.agg (encLex x),.agg (encFrm f)] [] (.tup [.int .i64 (if frmErr x f=0 then wgtM x f else 0),.int .i64 (frmErr x f)]):=by
 refine fcalls (F:=Tryz.f140) c140 rfl rfl rfl mixed rfl fun X=>?_;(conv=>whnf);repeat (refine QCall.k0 (checkForm x f hx hf) ?_;conv=>whnf)
 refine ⟨fun hc=>?_,fun hc=>?_⟩<;>simp at hc
 ·(conv=>whnf);exact ⟨by rw [if_neg hc],rfl⟩
 (conv=>whnf);repeat (refine QCall.k0 (weightW x f (frmOK hc)) ?_;conv=>whnf)
 exact ⟨by rw [if_pos hc,hc],rfl⟩
end Go.Abs.Wall
namespace Go.Abs.Wall
open Go Go.Abs Go.Proofs
def begins (t w:List UInt8):Bool:=decide ((w.length:Int)<=t.length)&&decide (t.take w.length=w)
def endsW (t w:List UInt8):Bool:=decide ((w.length:Int)<=t.length)&&decide (t.drop (t.length - w.length)=w)
def c177:Cfg:=⟨[0,1,4],[],[],[],[],[]⟩
def c155:Cfg:=⟨[0,1,4],[],[],[],[],[]⟩
def c156:Cfg:=⟨[0,1,4],[],[],[],[],[]⟩
def c142:Cfg:=⟨[0,1,4],[],[],[],[],[]⟩
theorem liteP (t w:List UInt8) (ht:t.length<=LMAX) (hw:w.length<=LMAX):QCall Tryz.prog 177 [.str t,.str w] [] (.bool (begins t w)):=by
 unfold LMAX at ht hw;refine fcalls (F:=Tryz.f177) c177 rfl rfl rfl mixed rfl fun X=>?_;(conv=>whnf);repeat ((refine And.intro ?_ ?_;(focus ((conv=>whnf);intro g0;have g0:=of_decide_eq_true g0;refine ⟨?_,?_,?_⟩<;>omega)));conv=>whnf)
 exact ⟨rfl,rfl⟩
theorem hasPrefix (t w:List UInt8) (ht:t.length<=LMAX) (hw:w.length<=LMAX):QCall Tryz.prog 155 [.str t,.str w] [] (.bool (begins t w)):=by
 refine fcalls (F:=Tryz.f155) c155 rfl rfl rfl mixed rfl fun X=>?_;(conv=>whnf);repeat (refine QCall.k0 (liteP t w ht hw) ?_;conv=>whnf)
 exact ⟨rfl,rfl⟩
theorem liteS (t w:List UInt8) (ht:t.length<=LMAX) (hw:w.length<=LMAX):QCall Tryz.prog 156 [.str t,.str w] [] (.bool (endsW t w)):=by
 unfold LMAX at ht hw;refine fcalls (F:=Tryz.f156) c156 rfl rfl rfl mixed rfl fun X=>?_;(conv=>whnf);repeat ((first|refine ⟨gP_of ⟨by omega,by omega⟩,?_⟩|(refine And.intro ?_ ?_;(focus ((conv=>whnf);intro g0;have g0:=of_decide_eq_true g0;refine ⟨?_,?_,?_⟩<;>omega))));conv=>whnf)
 refine ⟨congrArg AV.bool ?_,rfl⟩;unfold endsW;by_cases h:(w.length:Int)<=t.length
 ·simp only [decide_eq_true h,Bool.true_and];rw [List.take_of_length_le (by omega),show ((t.length:Int) - (w.length:Int)).toNat=t.length - w.length by omega]
 simp only [decide_eq_false h,Bool.false_and]
theorem hasSuffix (t w:List UInt8) (ht:t.length<=LMAX) (hw:w.length<=LMAX):QCall Tryz.prog 142 [.str t,.str w] [] (.bool (endsW t w)):=by
 refine fcalls (F:=Tryz.f142) c142 rfl rfl rfl mixed rfl fun X=>?_;(conv=>whnf);repeat (refine QCall.k0 (liteS t w ht hw) ?_;conv=>whnf)
 exact ⟨rfl,rfl⟩
def cmpI (a b:Int):Int:=if a<b then -1 else if b<a then 1 else 0
def cmpS (a b:List UInt8):Int:=if a<b then -1 else if a=b then 0 else 1
def orI:List Int->Int
 | []=>0
 | x::l=>if x≠0 then x else orI l
def c147:Cfg:=⟨[0,2],[],[],[],[],[]⟩
def c176:Cfg:=⟨[0,2],[],[],[],[],[]⟩
def c129:Cfg:=⟨[0,1,4,5,6,11,12,13,16,19],[],[],[],[],[]⟩
def c151:Cfg:=⟨[0,1,4,5,6,11,12,13,16,19],[],[],[],[],[]⟩
def c128:Cfg:=⟨[0,2,3,5,6,7,8,9,14],[],[],[],[],[]⟩
theorem nanI (a:Int):QCall Tryz.prog 147 [.int .i64 a] [] (.bool false):=by refine fcalls (F:=Tryz.f147) c147 rfl rfl rfl mixed rfl fun X=>?_;(conv=>whnf);exact ⟨by simp,rfl⟩
theorem nanS (a:List UInt8):QCall Tryz.prog 176 [.str a] [] (.bool false):=by refine fcalls (F:=Tryz.f176) c176 rfl rfl rfl mixed rfl fun X=>?_;(conv=>whnf);exact ⟨by simp,rfl⟩
theorem compareI (a b:Int):QCall Tryz.prog 129 [.int .i64 a,.int .i64 b] [] (.int .i64 (cmpI a b)):=by
 refine fcalls (F:=Tryz.f129) c129 rfl rfl rfl mixed rfl fun X=>?_;(conv=>whnf);repeat (refine QCall.k0 (nanI _) ?_;conv=>whnf)
 refine cF rfl ?_;(conv=>whnf);refine cF rfl ?_;(conv=>whnf);refine ⟨fun h=>?_,fun h=>?_⟩<;>simp only [decide_eq_true_eq,decide_eq_false_iff_not] at h
 ·(conv=>whnf);exact ⟨by rw [cmpI,if_pos h],rfl⟩
 (conv=>whnf);refine ⟨fun h2=>?_,fun h2=>?_⟩<;>simp only [decide_eq_true_eq,decide_eq_false_iff_not] at h2
 ·(conv=>whnf);exact ⟨by rw [cmpI,if_neg h,if_pos h2],rfl⟩
 (conv=>whnf);exact ⟨by rw [cmpI,if_neg h,if_neg h2],rfl⟩
theorem compareS (a b:List UInt8):QCall Tryz.prog 151 [.str a,.str b] [] (.int .i64 (cmpS a b)):=by
 refine fcalls (F:=Tryz.f151) c151 rfl rfl rfl mixed rfl fun X=>?_;(conv=>whnf);repeat (refine QCall.k0 (nanS _) ?_;conv=>whnf)
 refine cF rfl ?_;(conv=>whnf);refine cF rfl ?_;(conv=>whnf);rw [bytesLess_eq];refine ⟨fun h=>?_,fun h=>?_⟩<;>simp only [decide_eq_true_eq,decide_eq_false_iff_not] at h
 ·(conv=>whnf);exact ⟨by rw [cmpS,if_pos h],rfl⟩
 (conv=>whnf);rw [bytesLess_eq];refine ⟨fun h2=>?_,fun h2=>?_⟩<;>simp [h] at h2
 ·(conv=>whnf);exact ⟨by rw [cmpS,if_neg h,if_neg h2],rfl⟩
 (conv=>whnf);exact ⟨by rw [cmpS,if_neg h,if_pos h2],rfl⟩
theorem orW (l:List Int) (hl:l.length<=LMAX):QCall Tryz.prog 128 [.sl 1 none (ints l)] [] (.int .i64 (orI l)):=by
 unfold LMAX at hl;refine fcalls (F:=Tryz.f128) c128 rfl rfl rfl mixed rfl fun X=>?_;(conv=>whnf);refine sloop rfl mixed [3,6,7,8] [] (fun m r h=>∃ (i:Nat),r=[(3,[],.int .i64 0),(6,[],.sl 1 none (ints l)),(7,[],.int .i64 (ints l).length),(8,[],.int .i64 i)]/\h=[]/\m=l.length - i/\i<=l.length/\orI l=orI (l.drop i)) ?_ ?_
 ·(conv=>whnf);exact ⟨_,0,rfl,rfl,rfl,by omega,rfl⟩
 rintro m r h ⟨i,rfl,rfl,rfl,hi,hb⟩;(conv=>whnf);refine ⟨fun hi2=>?_,fun hi2=>?_⟩<;>simp at hi2
 ·obtain ⟨c,hc⟩:=get_lt hi2;rw [drop_cons hc,orI] at hb;(conv=>whnf);repeat (refine ix (by assumption) ?_;conv=>whnf)
  refine ⟨fun hq=>?_,fun hq=>?_⟩<;>simp at hq
  ·rw [if_pos hq] at hb;(conv=>whnf);exact ⟨by rw [hb],rfl⟩
  rw [if_neg (by simpa using hq)] at hb;(conv=>whnf);repeat (refine ⟨gP_of ⟨by omega,by omega⟩,?_⟩;conv=>whnf)
  exact ⟨_,by omega,i+1,rfl,rfl,rfl,by omega,hb⟩
 rw [drop_nil hi2,orI] at hb;(conv=>whnf);exact ⟨by rw [hb],rfl⟩
structure Use where
 kind:Int
 text:List UInt8
deriving DecidableEq
def encUse (u:Use):List AV:=[.int .i64 u.kind,.str u.text]
def useCmp (a b:Use):Int:=orI [cmpI a.kind b.kind,cmpS a.text b.text]
def c139:Cfg:=⟨[0,1,2,3,4],[],[],[],[(1,[0,1,2,3,4,5,6,7,8,9,10,11,12],[])],[]⟩
theorem compareUses (a b:Use):QCall Tryz.prog 139 [.agg (encUse a),.agg (encUse b)] [] (.int .i64 (useCmp a b)):=by
 refine fcalls (F:=Tryz.f139) c139 rfl rfl rfl mixed rfl fun X=>?_;(conv=>whnf);repeat ((first|refine gcall (compareI _ _) ?_|refine gcall (compareS _ _) ?_|refine gcall (orW [cmpI a.kind b.kind,cmpS a.text b.text] (by simp [LMAX])) ?_|refine And.intro (by show drawOK (opsAt Tryz.f139 _) _=true;decide +kernel) ?_);conv=>whnf)
 exact ⟨rfl,rfl⟩
def c121:Cfg:=⟨[0,2,4],[5],[],[],[],[]⟩
def c122:Cfg:=⟨[0,2,4],[5],[],[],[],[]⟩
theorem ints_ne' {l:List Int} (h:l≠[]):ints l≠[]:=by simpa [ints] using h
def CloneP (k:Nat) (xs:List (List AV)) (v:AV) (h:Heap):Prop:=(xs=[]/\v=.nilS/\h=[])\/∃ q,v=.sl k (some q) xs/\h=[(q,.tok)]
theorem cloneIT (l:List Int) (hl:l.length<=AMAX):ACalls Tryz.prog 121 [.sl 1 none (ints l)] [] (CloneP 1 (ints l)):=by
 unfold AMAX at hl;by_cases h:l=[]
 ·subst h;refine ACalls.nilOr ?_ ?_
  ·refine fcalls (F:=Tryz.f121) c121 rfl rfl rfl mixed rfl fun X=>?_;(conv=>whnf);refine ⟨fun hc=>?_,fun hc=>?_⟩
   ·(conv=>whnf);exact .inl ⟨rfl,rfl,rfl⟩
   cases hc
  refine fcalls (F:=Tryz.f121) c121 rfl rfl rfl mixed rfl fun X=>?_;(conv=>whnf);refine ⟨fun hc=>?_,fun hc=>?_⟩
  ·cases hc
  (conv=>whnf);intro q;(conv=>whnf);refine ⟨by simp [AMAX],fun q'=>⟨_,.here _,?_⟩⟩;(conv=>whnf);exact .inr ⟨q',rfl,rfl⟩
 refine fcalls (F:=Tryz.f121) c121 rfl rfl rfl mixed rfl fun X=>?_;(conv=>whnf);refine ⟨ints_ne' h,?_⟩;(conv=>whnf);refine ⟨fun hc=>?_,fun hc=>?_⟩
 ·cases hc
 (conv=>whnf);intro q;(conv=>whnf);refine ⟨by simp [AMAX];omega,fun q'=>⟨_,.here _,?_⟩⟩;(conv=>whnf);exact .inr ⟨q',rfl,rfl⟩
theorem CloneP.ok {f:FuncId} {vs:List AV} {k:Nat} {xs:List (List AV)} (hk:0<k) (h:ACalls Tryz.prog f vs [] (CloneP k xs)):QCall Tryz.prog f vs [] (.sl k none xs):=by
 refine QCall.of (ACalls.mono ?_ h);rintro v h' (⟨rfl,rfl,rfl⟩|⟨q,rfl,rfl⟩)
 ·exact VLe.nil hk
 exact VLe.sl
theorem cloneI (l:List Int) (hl:l.length<=AMAX):QCall Tryz.prog 121 [.sl 1 none (ints l)] [] (.sl 1 none (ints l)):=CloneP.ok (by decide) (cloneIT l hl)
theorem map_ne {α β:Type} {f:α->β} {l:List α} (h:l≠[]):l.map f≠[]:=by simpa using h
theorem cloneU (l:List Use) (hl:l.length<=AMAX):QCall Tryz.prog 122 [.sl 2 none (l.map encUse)] [] (.sl 2 none (l.map encUse)):=by
 refine CloneP.ok (by decide) ?_;unfold AMAX at hl;by_cases h:l=[]
 ·subst h;refine ACalls.nilOr ?_ ?_
  ·refine fcalls (F:=Tryz.f122) c122 rfl rfl rfl mixed rfl fun X=>?_;(conv=>whnf);refine ⟨fun hc=>?_,fun hc=>?_⟩
   ·(conv=>whnf);exact .inl ⟨rfl,rfl,rfl⟩
   cases hc
  refine fcalls (F:=Tryz.f122) c122 rfl rfl rfl mixed rfl fun X=>?_;(conv=>whnf);refine ⟨fun hc=>?_,fun hc=>?_⟩
  ·cases hc
  (conv=>whnf);intro q;(conv=>whnf);refine ⟨by simp [AMAX],fun q'=>⟨_,.here _,?_⟩⟩;(conv=>whnf);exact .inr ⟨q',rfl,rfl⟩
 refine fcalls (F:=Tryz.f122) c122 rfl rfl rfl mixed rfl fun X=>?_;(conv=>whnf);refine ⟨map_ne h,?_⟩;(conv=>whnf);refine ⟨fun hc=>?_,fun hc=>?_⟩
 ·cases hc
 (conv=>whnf);intro q;(conv=>whnf);refine ⟨by simp [AMAX];omega,fun q'=>⟨_,.here _,?_⟩⟩;(conv=>whnf);exact .inr ⟨q',rfl,rfl⟩
theorem map_flatten_get {l:List Use}:∀ z∈l.map encUse,z.length=2:=by intro z hz;obtain ⟨u,_,rfl⟩:=List.mem_map.1 hz;rfl
theorem cloneUO (b:Nat) (l:List Use) (Z:List AV) (hl:l.length<=AMAX):QCall Tryz.prog 122 [.osl b 0 l.length 2] [(b,.vec ((l.map encUse).flatten++Z))] (.sl 2 none (l.map encUse)):=by
 refine ACalls.post (R:=fun v h'=>∃ q,v=.sl 2 (some q) (l.map encUse)/\h'=(q,.tok)::[(b,.vec ((l.map encUse).flatten++Z))]) ?_ ?_
 ·refine fcalls (F:=Tryz.f122) c122 rfl rfl rfl mixed rfl fun X=>?_;(conv=>whnf);refine ⟨fun hc=>?_,fun hc=>?_⟩
  ·cases hc
  (conv=>whnf);intro q;(conv=>whnf);have hfl:((l.map encUse).flatten).length=l.length*2:=(by rw [flat_length map_flatten_get,List.length_map]);refine ⟨_,l.map encUse,.tail _ (.head _),⟨by rw [List.drop_zero,List.take_append_of_le_length (by omega),List.take_of_length_le (by omega)],map_flatten_get,by simp⟩,by simp only [List.nil_append,List.length_map];exact hl,fun q'=>⟨_,.here _,?_⟩⟩;(conv=>whnf);exact ⟨q',rfl,rfl⟩
 rintro v h1 ⟨q,rfl,rfl⟩;exact ⟨_,_,⟨rfl,rfl⟩,VLe.sl,fun k o hm=>List.mem_cons_of_mem _ hm,fun hnd=>(List.nodup_cons.1 hnd).2⟩
def c38:Cfg:=⟨[0,1,4,5,10,12,13,14,24],[],[],[],[(6,[0,1,2,3,4,5,6,7,8],[])],[]⟩
theorem equalI (a b:List Int) (ha:a.length<=LMAX) (hb:b.length<=LMAX):QCall Tryz.prog 38 [.sl 1 none (ints a),.sl 1 none (ints b)] [] (.bool (decide (a=b))):=by
 unfold LMAX at ha hb;refine fcalls (F:=Tryz.f38) c38 rfl rfl rfl mixed rfl fun X=>?_;(conv=>whnf);refine ⟨fun hc=>?_,fun hc=>?_⟩<;>simp at hc
 ·(conv=>whnf);exact ⟨congrArg AV.bool (decide_eq_false fun e=>hc (by rw [e])).symm,rfl⟩
 (conv=>whnf);refine sloop rfl mixed [0,1,12,13] [] (fun m r h=>∃ (i:Nat),r=[(0,[],.sl 1 none (ints a)),(1,[],.sl 1 none (ints b)),(12,[],.int .i64 (ints a).length),(13,[],.int .i64 i)]/\h=[]/\m=a.length - i/\i<=a.length/\∀ j,j<i->a[j]?=b[j]?) ?_ ?_
 ·(conv=>whnf);exact ⟨_,0,rfl,rfl,rfl,by omega,fun j hj=>by omega⟩
 rintro m r h ⟨i,rfl,rfl,rfl,hi,hg⟩;(conv=>whnf);refine ⟨fun hi2=>?_,fun hi2=>?_⟩<;>simp at hi2
 ·obtain ⟨x,hx⟩:=get_lt hi2;obtain ⟨y,hy⟩:=get_lt (show i<b.length by omega);(conv=>whnf);repeat ((first|refine ix (by assumption) ?_|refine And.intro (by show drawOK (opsAt Tryz.f38 _) _=true;decide +kernel) ?_);conv=>whnf)
  refine ⟨fun hq=>?_,fun hq=>?_⟩<;>simp at hq
  ·(conv=>whnf);exact ⟨congrArg AV.bool (decide_eq_false fun e=>hq (by rw [e,hy] at hx;exact (Option.some.inj hx).symm)).symm,rfl⟩
  (conv=>whnf);repeat (refine ⟨gP_of ⟨by omega,by omega⟩,?_⟩;conv=>whnf)
  refine ⟨_,by omega,i+1,rfl,rfl,rfl,by omega,fun j hj=>?_⟩;rcases Nat.lt_succ_iff_lt_or_eq.1 hj with h'|rfl
  ·exact hg j h'
  rw [hx,hy,hq]
 (conv=>whnf);refine ⟨congrArg AV.bool (decide_eq_true ?_).symm,rfl⟩;refine List.ext_getElem? fun j=>?_;by_cases hj:j<i
 ·exact hg j hj
 rw [List.getElem?_eq_none (by omega),List.getElem?_eq_none (by omega)]
def useEq (a b:Use):Bool:=decide (a.kind=b.kind)&&(decide (a.text=b.text)&&true)
theorem useEq_iff (a b:Use):useEq a b=decide (a=b):=by obtain ⟨a1,a2⟩:=a;obtain ⟨b1,b2⟩:=b;unfold useEq;rw [Bool.eq_iff_iff];simp
end Go.Abs.Wall
/-
 DERIVED: THE SHELF's CONTRACTS AT THIS DUMP,IN PLAIN WORDS (tools/lay-plain.mjs out of 'YtdjdbggpgmddnaaGreatSoA.lean',which tools/lay-shelf.mjs wrote): THE SAME DECLARATIONS UNDER THE SAME NAMES: 'import','namespace','open','def','theorem' AND NOTHING ELSE: no command of the shelf's: FOR A HAND-IN. Each laying: the table of numbers ('.._ren') and one theorem,a field a fact of the dump's own or the kernel's comparison;each contract: ONE APPLICATION.
-/
namespace Go.Proofs
open Go.Shelf
def Tryz.sortUse_ren:Go.Shelf.Ren:=⟨fun|6=>138|15=>144|14=>150|28=>165|29=>166|20=>168|21=>169|22=>170|23=>171|24=>172|25=>173|26=>174|27=>175|46=>184|47=>179|48=>180|49=>185|50=>186|57=>188|n=>n,fun|22=>161|24=>234|25=>262|3=>3|39=>223|0=>0|53=>255|55=>258|4=>4|46=>278|45=>277|50=>132|5=>5|9=>9|66=>290|70=>294|76=>299|77=>300|n=>n,fun|n=>n⟩
theorem Tryz.sortUse:Go.Proofs.SlLaysF0.n6 Tryz.prog Tryz.sortUse_ren:={
 mixed:=by kernel_rfl
 f6:=⟨Tryz.f138.name,by decide,Tryz.func138.trans (congrArg some (by kernel_rfl))⟩
 f14:=⟨Tryz.f150.name,by decide,Tryz.func150.trans (congrArg some (by kernel_rfl))⟩
 f15:=Tryz.func144.trans (congrArg some (by kernel_rfl))
 f20:=⟨Tryz.f168.name,by decide,Tryz.func168.trans (congrArg some (by kernel_rfl))⟩
 f21:=⟨Tryz.f169.name,by decide,Tryz.func169.trans (congrArg some (by kernel_rfl))⟩
 f22:=⟨Tryz.f170.name,by decide,Tryz.func170.trans (congrArg some (by kernel_rfl))⟩
 f23:=⟨Tryz.f171.name,by decide,Tryz.func171.trans (congrArg some (by kernel_rfl))⟩
 f24:=⟨Tryz.f172.name,by decide,Tryz.func172.trans (congrArg some (by kernel_rfl))⟩
 f25:=⟨Tryz.f173.name,by decide,Tryz.func173.trans (congrArg some (by kernel_rfl))⟩
 f26:=⟨Tryz.f174.name,by decide,Tryz.func174.trans (congrArg some (by kernel_rfl))⟩
 f27:=⟨Tryz.f175.name,by decide,Tryz.func175.trans (congrArg some (by kernel_rfl))⟩
 f28:=Tryz.func165.trans (congrArg some (by kernel_rfl))
 f29:=Tryz.func166.trans (congrArg some (by kernel_rfl))
 f46:=⟨Tryz.f184.name,by decide,Tryz.func184.trans (congrArg some (by kernel_rfl))⟩
 f47:=Tryz.func179.trans (congrArg some (by kernel_rfl))
 f48:=Tryz.func180.trans (congrArg some (by kernel_rfl))
 f49:=⟨Tryz.f185.name,by decide,Tryz.func185.trans (congrArg some (by kernel_rfl))⟩
 f50:=⟨Tryz.f186.name,by decide,Tryz.func186.trans (congrArg some (by kernel_rfl))⟩
 f57:=⟨Tryz.f188.name,by decide,Tryz.func188.trans (congrArg some (by kernel_rfl))⟩
 t0:=Tryz.underlying0
 a0:=Tryz.isAgg0
 z0:=Tryz.sizeOf0
 v0:=Tryz.zeroValue0
 t3:=Tryz.underlying3
 a3:=Tryz.isAgg3
 z3:=Tryz.sizeOf3
 v3:=Tryz.zeroValue3
 t4:=Tryz.underlying4
 a4:=Tryz.isAgg4
 z4:=Tryz.sizeOf4
 v4:=Tryz.zeroValue4
 t5:=Tryz.underlying5
 a5:=Tryz.isAgg5
 z5:=Tryz.sizeOf5
 v5:=Tryz.zeroValue5
 t9:=Tryz.underlying9
 a9:=Tryz.isAgg9
 z9:=Tryz.sizeOf9
 v9:=Tryz.zeroValue9
 t22:=Tryz.underlying161
 a22:=Tryz.isAgg161
 z22:=Tryz.sizeOf161
 v22:=Tryz.zeroValue161
 t25:=Tryz.underlying262
 a25:=Tryz.isAgg262
 z25:=Tryz.sizeOf262
 v25:=Tryz.zeroValue262
 t39:=Tryz.underlying223
 a39:=Tryz.isAgg223
 z39:=Tryz.sizeOf223
 v39:=Tryz.zeroValue223
 t45:=Tryz.underlying277
 a45:=Tryz.isAgg277
 z45:=Tryz.sizeOf277
 v45:=Tryz.zeroValue277
 t46:=Tryz.underlying278
 a46:=Tryz.isAgg278
 z46:=Tryz.sizeOf278
 v46:=Tryz.zeroValue278
 t50:=Tryz.underlying132
 a50:=Tryz.isAgg132
 z50:=Tryz.sizeOf132
 v50:=Tryz.zeroValue132
 t53:=Tryz.underlying255
 a53:=Tryz.isAgg255
 z53:=Tryz.sizeOf255
 v53:=Tryz.zeroValue255
 t55:=Tryz.underlying258
 a55:=Tryz.isAgg258
 z55:=Tryz.sizeOf258
 v55:=Tryz.zeroValue258
 t66:=Tryz.underlying290
 a66:=Tryz.isAgg290
 z66:=Tryz.sizeOf290
 v66:=Tryz.zeroValue290
 t70:=Tryz.underlying294
 a70:=Tryz.isAgg294
 z70:=Tryz.sizeOf294
 v70:=Tryz.zeroValue294
 t76:=Tryz.underlying299
 a76:=Tryz.isAgg299
 z76:=Tryz.sizeOf299
 v76:=Tryz.zeroValue299
 t77:=Tryz.underlying300
 a77:=Tryz.isAgg300
 z77:=Tryz.sizeOf300
 v77:=Tryz.zeroValue300 }
def Tryz.sortEdge_ren:Go.Shelf.Ren:=⟨fun|6=>125|15=>144|14=>143|28=>165|29=>166|20=>157|21=>158|22=>159|23=>160|24=>161|25=>162|26=>163|27=>164|46=>178|47=>179|48=>180|49=>181|50=>182|57=>187|n=>n,fun|22=>155|24=>165|25=>245|3=>3|39=>223|0=>0|53=>255|55=>258|4=>4|46=>278|45=>277|50=>132|5=>5|9=>9|66=>290|70=>294|76=>299|77=>300|n=>n,fun|n=>n⟩
theorem Tryz.sortEdge:Go.Proofs.SlLaysF0.n6 Tryz.prog Tryz.sortEdge_ren:={
 mixed:=by kernel_rfl
 f6:=⟨Tryz.f125.name,by decide,Tryz.func125.trans (congrArg some (by kernel_rfl))⟩
 f14:=⟨Tryz.f143.name,by decide,Tryz.func143.trans (congrArg some (by kernel_rfl))⟩
 f15:=Tryz.func144.trans (congrArg some (by kernel_rfl))
 f20:=⟨Tryz.f157.name,by decide,Tryz.func157.trans (congrArg some (by kernel_rfl))⟩
 f21:=⟨Tryz.f158.name,by decide,Tryz.func158.trans (congrArg some (by kernel_rfl))⟩
 f22:=⟨Tryz.f159.name,by decide,Tryz.func159.trans (congrArg some (by kernel_rfl))⟩
 f23:=⟨Tryz.f160.name,by decide,Tryz.func160.trans (congrArg some (by kernel_rfl))⟩
 f24:=⟨Tryz.f161.name,by decide,Tryz.func161.trans (congrArg some (by kernel_rfl))⟩
 f25:=⟨Tryz.f162.name,by decide,Tryz.func162.trans (congrArg some (by kernel_rfl))⟩
 f26:=⟨Tryz.f163.name,by decide,Tryz.func163.trans (congrArg some (by kernel_rfl))⟩
 f27:=⟨Tryz.f164.name,by decide,Tryz.func164.trans (congrArg some (by kernel_rfl))⟩
 f28:=Tryz.func165.trans (congrArg some (by kernel_rfl))
 f29:=Tryz.func166.trans (congrArg some (by kernel_rfl))
 f46:=⟨Tryz.f178.name,by decide,Tryz.func178.trans (congrArg some (by kernel_rfl))⟩
 f47:=Tryz.func179.trans (congrArg some (by kernel_rfl))
 f48:=Tryz.func180.trans (congrArg some (by kernel_rfl))
 f49:=⟨Tryz.f181.name,by decide,Tryz.func181.trans (congrArg some (by kernel_rfl))⟩
 f50:=⟨Tryz.f182.name,by decide,Tryz.func182.trans (congrArg some (by kernel_rfl))⟩
 f57:=⟨Tryz.f187.name,by decide,Tryz.func187.trans (congrArg some (by kernel_rfl))⟩
 t0:=Tryz.underlying0
 a0:=Tryz.isAgg0
 z0:=Tryz.sizeOf0
 v0:=Tryz.zeroValue0
 t3:=Tryz.underlying3
 a3:=Tryz.isAgg3
 z3:=Tryz.sizeOf3
 v3:=Tryz.zeroValue3
 t4:=Tryz.underlying4
 a4:=Tryz.isAgg4
 z4:=Tryz.sizeOf4
 v4:=Tryz.zeroValue4
 t5:=Tryz.underlying5
 a5:=Tryz.isAgg5
 z5:=Tryz.sizeOf5
 v5:=Tryz.zeroValue5
 t9:=Tryz.underlying9
 a9:=Tryz.isAgg9
 z9:=Tryz.sizeOf9
 v9:=Tryz.zeroValue9
 t22:=Tryz.underlying155
 a22:=Tryz.isAgg155
 z22:=Tryz.sizeOf155
 v22:=Tryz.zeroValue155
 t25:=Tryz.underlying245
 a25:=Tryz.isAgg245
 z25:=Tryz.sizeOf245
 v25:=Tryz.zeroValue245
 t39:=Tryz.underlying223
 a39:=Tryz.isAgg223
 z39:=Tryz.sizeOf223
 v39:=Tryz.zeroValue223
 t45:=Tryz.underlying277
 a45:=Tryz.isAgg277
 z45:=Tryz.sizeOf277
 v45:=Tryz.zeroValue277
 t46:=Tryz.underlying278
 a46:=Tryz.isAgg278
 z46:=Tryz.sizeOf278
 v46:=Tryz.zeroValue278
 t50:=Tryz.underlying132
 a50:=Tryz.isAgg132
 z50:=Tryz.sizeOf132
 v50:=Tryz.zeroValue132
 t53:=Tryz.underlying255
 a53:=Tryz.isAgg255
 z53:=Tryz.sizeOf255
 v53:=Tryz.zeroValue255
 t55:=Tryz.underlying258
 a55:=Tryz.isAgg258
 z55:=Tryz.sizeOf258
 v55:=Tryz.zeroValue258
 t66:=Tryz.underlying290
 a66:=Tryz.isAgg290
 z66:=Tryz.sizeOf290
 v66:=Tryz.zeroValue290
 t70:=Tryz.underlying294
 a70:=Tryz.isAgg294
 z70:=Tryz.sizeOf294
 v70:=Tryz.zeroValue294
 t76:=Tryz.underlying299
 a76:=Tryz.isAgg299
 z76:=Tryz.sizeOf299
 v76:=Tryz.zeroValue299
 t77:=Tryz.underlying300
 a77:=Tryz.isAgg300
 z77:=Tryz.sizeOf300
 v77:=Tryz.zeroValue300 }
end Go.Proofs
/-
 The abstract layer,part Z2: the library's sort by a function that compares,at rows of elements of k cells.
-/
namespace Go.Abs
open Go Go.Sort Go.Proofs
variable {P:Program} {X:Nat->Prop} {g0:Gh} {h:Heap} {w:World}
theorem RepVs.ofGet {c:Cx}:∀ {xs:List AV} {us:List Value},xs.length=us.length->(∀ (i:Nat) x u,xs[i]?=some x->us[i]?=some u->Rep c x u)->RepVs c xs us
 | [],[],_,_=>by simp [RepVs]
 | x::xs,u::us,hl,h=>by simp only [RepVs];exact ⟨u,us,rfl,h 0 x u rfl rfl,RepVs.ofGet (by simpa using hl) fun i x u h1 h2=>h (i+1) x u (by simpa using h1) (by simpa using h2)⟩
 | [],_::_,hl,_=>by simp at hl
 | _::_,[],hl,_=>by simp at hl
theorem flatten_len {β:Type} {k:Nat}:∀ {L:List (List β)},(∀ x∈L,x.length=k)->L.flatten.length=L.length*k
 | [],_=>by simp
 | x::L,h=>by rw [List.flatten_cons,List.length_append,flatten_len (fun y hy=>h y (by simp [hy])),h x (by simp),List.length_cons,Nat.add_mul];omega
theorem flatten_get {β:Type} {k:Nat} (hk:0<k):∀ {L:List (List β)} {i j:Nat} {x:List β},(∀ x∈L,x.length=k)->L[i]?=some x->j<k->L.flatten[i*k+j]?=x[j]?
 | [],i,j,x,_,hx,_=>by simp at hx
 | y::L,0,j,x,h,hx,hj=>by simp at hx;subst hx;have:=h y (by simp);rw [List.flatten_cons,Nat.zero_mul,Nat.zero_add,List.getElem?_append_left (by omega)]
 | y::L,i+1,j,x,h,hx,hj=>by
   have hy:=h y (by simp);have e:(i+1)*k+j=y.length+(i*k+j):=by rw [hy,Nat.add_mul];omega
   rw [List.flatten_cons,e,List.getElem?_append_right (by omega),Nat.add_sub_cancel_left];exact flatten_get hk (fun z hz=>h z (by simp [hz])) (by simpa using hx) hj
theorem divmod {t n k:Nat} (h:t<n*k):t / k<n/\t % k<k/\t=t / k*k+t % k:=by
 have k0:0<k:=by rcases Nat.eq_zero_or_pos k with h0|h0;subst h0;simp at h;exact h0
 refine ⟨(Nat.div_lt_iff_lt_mul k0).2 h,Nat.mod_lt _ k0,?_⟩;have:=Nat.div_add_mod t k;rw [Nat.mul_comm] at this;omega
theorem vec_turned2 {l1 l2:Heap} {b:Nat} {cs l:List AV} {us:List Value} {w':World} {p:Addr} {cc cc':Array Value} {t:TypeId} (hc:CW X g0 (l1++(b,.vec cs)::l2) w)
  (h1:g0.pl b=some p) (h4:w.heap[p.block]?=some (.cells cc t (0,0))) (hlen:l.length=cs.length)
  (e7:w'.os=w.os) (e8:w'.tape=w.tape/\w.drawn<=w'.drawn) (e9:w'.output=w.output) (e6:w.heap.size<=w'.heap.size) (e5:∀ blk,blk<w.heap.size->blk≠p.block->w'.heap[blk]?=w.heap[blk]?)
  (e1:w'.heap[p.block]?=some (.cells cc' t (0,0))) (e2:cc'.size=cc.size) (e4:∀ (j:Nat) u,us[j]?=some u->cc'[p.off+j]?=some u)
  (hus:RepVs ⟨g0,live X (l1++(b,.vec cs)::l2),w⟩ l us) (ho:∀ u∈us,u.oneCell'=true) :
  CW X g0 (l1++(b,.vec l)::l2) w'/\Step X g0 (l1++(b,.vec cs)::l2) w g0 (l1++(b,.vec l)::l2) w':=by
 have hob:=hc.obj b (.vec cs) (by simp);obtain ⟨p',cc0,t0,a1,h2,h3,a4,h5,h6⟩:=hob;simp only at a1 h3 a4;rw [h1] at a1;cases a1
 rw [h4] at a4;cases a4
 have hul:=hus.length;have hbk:b∈keys (l1++(b,.vec cs)::l2):=by rw [keys_mem];exact .inl rfl
 have hst:Step X g0 (l1++(b,.vec cs)::l2) w g0 (l1++(b,.vec l)::l2) w':=by
  refine ⟨e7,e8,e9,e6,fun _ _ e=>e,fun _ _ _ e _=>e,fun _ _ _ e _=>e,fun _ _ e=>e,?_,?_,?_⟩
  ·intro blk hb hn;have hne:blk≠p.block:=fun e=>hn b 0 (e ▸ h3) hbk;refine ⟨e5 blk hb hne,fun k s hk hm=>hn k s hk ?_⟩;rw [keys_mem] at hm ⊢;exact hm
  ·intro blk k s hk hm dd tt ff hdd;by_cases e:blk=p.block
   ·subst e;rw [h3] at hk;cases hk
    rw [h4] at hdd;cases hdd
    exact ⟨cc',e1,e2,fun o ho=>by omega⟩
   exact ⟨dd,(e5 blk (hc.own _ _ _ hk) e).trans hdd,rfl,fun _ _=>rfl⟩
  intro blk k s hk _ k' s' hk' _;rw [hk] at hk';cases hk';exact Nat.le_refl _
 refine ⟨?_,hst⟩;refine hc.replace hst (fun blk k s hk=>by have:=hc.own _ _ _ hk;omega) (.inl rfl) (fun k hk=>.inr hk) (fun blk s k hk=>.inr ⟨blk,s,hk⟩) ?_ ?_
 ·intro blk k s hk hm
  have hne:blk≠p.block:=by
   intro e;rw [e,h3] at hk;cases hk
   exact hc.notmem hm
  exact ⟨e5 blk (hc.own _ _ _ hk) hne,rfl⟩
 refine ⟨p,cc',t,h1,h2,h3,e1,by omega,?_⟩;intro i x hx;obtain ⟨u,hu,hr⟩:=hus.get _ _ hx;exact ⟨u,e4 i u hu,ho u (List.mem_of_getElem? hu),Rep.mono (Step.le hst) _ _ hr⟩
def SortLaw (P:Program) (f g k:Nat):Prop:=∀ (α:Type) (_:Inhabited α) (enc:α->List Value) (cf:α->α->Int) (blk off cap:Nat) (d:Array α) (w:World),
 (∀ x,(enc x).length=k)->(∀ x,∀ v∈enc x,v.oneCell'=true)->SWO (ltOf cf)->CmpLays P g #[] enc k cf blk off d.size w->HoldsK enc k w blk off d->blk<w.heap.size->d.size<4611686018427387904 ->
 Calls P f #[.slice (some ⟨blk,off,none⟩) d.size cap,.func (.func g) #[] #[]] w fun e w'=>e=.returned (.tuple #[])/\∃ d' n os,PermIn 0 d.size d d'/\SortedIn (ltOf cf) 0 d.size d'/\w'=sortWorldK enc k w blk off n d' os
theorem world_grown {w w':World} (h1:w'.os=w.os) (h2:w'.tape=w.tape/\w.drawn<=w'.drawn) (h3:w'.output=w.output) (h4:w.heap.size<=w'.heap.size) (h5:∀ b,b<w.heap.size->w'.heap[b]?=w.heap[b]?) :
  ∃ q os',w'=grow (w.drewN q) os':=by
 refine ⟨w'.drawn - w.drawn,w'.heap.extract w.heap.size w'.heap.size,?_⟩;obtain ⟨hp,tp,dr,os,out⟩:=w';simp only at h1 h2 h3 h4 h5;obtain ⟨h2,h6⟩:=h2;subst h1 h2 h3;have e1:w.drawn+(dr - w.drawn)=dr:=by omega
 have e2:hp=w.heap++hp.extract w.heap.size hp.size:=by
  refine Array.ext_getElem? fun i=>?_;by_cases hi:i<w.heap.size
  ·rw [Array.getElem?_append_left hi];exact h5 i hi
  rw [Array.getElem?_append_right (by omega),Array.getElem?_extract];by_cases hj:i<hp.size
  ·rw [if_pos (by omega)];congr 1;omega
  rw [if_neg (by omega),Array.getElem?_eq_none (by omega)]
 unfold grow World.drewN;simp only;rw [<- e2,e1]
section
variable {f g k:Nat}
theorem sortF_acalls (hk0:0<k) (hf:Callable P f) (hcg:Callable P g) (hs:SortLaw P f g k) (cmp:List AV->List AV->Int) (xs:List (List AV)) (hxk:∀ x∈xs,x.length=k) (hne:xs≠[]) (hlx:xs.length<=4294967296)
  (hcmp:∀ x∈xs,∀ y∈xs,QCall P g [.agg x,.agg y] [] (.int .i64 (cmp x y)))
  (hirr:∀ x∈xs,¬ cmp x x<0) (htr:∀ x∈xs,∀ y∈xs,∀ z∈xs,cmp x y<0->cmp y z<0->cmp x z<0) (hnt:∀ x∈xs,∀ y∈xs,∀ z∈xs,¬ cmp x y<0->¬ cmp y z<0->¬ cmp x z<0)
  (b:Nat):ACalls P f [.osl b 0 xs.length k,.fn g []] [(b,.vec xs.flatten)] (fun v h'=>v=.tup []/\∃ ys:List (List AV),h'=[(b,.vec ys.flatten)]/\ys.Perm xs/\ys.Pairwise fun x y=>¬ cmp y x<0):=by
 refine ⟨fun X g0 w us hc hr=>.inl ⟨hf,?_⟩⟩;simp only [RepVs] at hr;obtain ⟨u,r,hus,hx,u2,r2,e2,hx2,hr⟩:=hr;subst e2 hr;obtain ⟨p,cap,hp,hsp,rfl,x2,x3,x4,x5,_⟩:=hx.oslE (List.length_pos_iff.2 hne);simp only [Rep] at hx2;obtain ⟨us2,rfl,hx2⟩:=hx2;try simp only [RepVs] at hx2
 have hus2:us2=#[]:=by rw [<- Array.toList_inj];simpa using hx2
 subst hus2;try simp only at hp x5
 obtain ⟨q,cc,t,h1,h2,h3,h4,h5,h6⟩:=hc.obj b _ (List.mem_singleton.2 rfl);simp only at h1 h3 h4;rw [hp] at h1;cases h1
 have hfl:=flatten_len hxk;rw [hfl] at h5;have hn:0<xs.length:=List.length_pos_iff.2 hne;obtain ⟨n,hn'⟩:∃ n,xs.length=n:=⟨_,rfl⟩;rw [hn'] at hfl h5 hn hlx x2 x3 hus;have hlt:p.block<w.heap.size:=(Array.getElem?_eq_some_iff.1 h4).1
 let E:Fin n->List Value:=fun i=>(List.range k).map fun j=>cc[p.off+(i.val*k+j)]!
 have hEk:∀ i,(E i).length=k:=fun i=>by simp [E]
 have hEget:∀ (i:Fin n) (j:Nat),j<k->(E i)[j]?=some (cc[p.off+(i.val*k+j)]!):=fun i j hj=>by simp [E,hj]
 have hxget:∀ (i:Fin n),xs[i.val]?=some (xs[i.val]'(by have:=i.2;omega)):=fun i=>List.getElem?_eq_getElem (by have:=i.2;omega)
 let V:Fin n->List AV:=fun i=>xs[i.val]'(by have:=i.2;omega)
 have hVm:∀ i,V i∈xs:=fun i=>List.getElem_mem _;have hidx:∀ (i:Fin n) (j:Nat),j<k->i.val*k+j<n*k:=fun i j hj=>by have:(i.val+1)*k<=n*k:=Nat.mul_le_mul_right k i.2;rw [Nat.add_mul,Nat.one_mul] at this;omega
 have hcell:∀ (i:Fin n) (j:Nat),j<k->∃ x,(V i)[j]?=some x/\cc[p.off+(i.val*k+j)]?=some (cc[p.off+(i.val*k+j)]!)/\(cc[p.off+(i.val*k+j)]!).oneCell'=true/\Rep ⟨g0,live X [(b,.vec xs.flatten)],w⟩ x (cc[p.off+(i.val*k+j)]!):=fun i j hj=>by
  have hl:j<(V i).length:=by rw [hxk _ (hVm i)];exact hj
  have hg:=flatten_get hk0 hxk (hxget i) hj;obtain ⟨u,a1,a2,a3⟩:=h6 (i.val*k+j) (V i)[j] (by rw [hg];exact List.getElem?_eq_getElem hl);have a1':cc[p.off+(i.val*k+j)]! = u:=by have hlt2:=(Array.getElem?_eq_some_iff.1 a1).1;rw [getElem!_pos cc _ hlt2];exact (Array.getElem?_eq_some_iff.1 a1).2
  refine ⟨(V i)[j],List.getElem?_eq_getElem hl,?_,?_,?_⟩
  ·rw [a1'];exact a1
  ·rw [a1'];exact a2
  rw [a1'];exact a3
 have hE1:∀ i,∀ v∈E i,v.oneCell'=true:=fun i v hv=>by obtain ⟨j,hj,rfl⟩:=List.mem_map.1 hv;obtain ⟨_,_,_,a3,_⟩:=hcell i j (List.mem_range.1 hj);exact a3
 have hRepE:∀ i,RepVs ⟨g0,live X [(b,.vec xs.flatten)],w⟩ (V i) (E i):=fun i=>by
  refine RepVs.ofGet (by rw [hxk _ (hVm i),hEk]) fun j x u hx hu=>?_;have hj:j<k:=by have:=(List.getElem?_eq_some_iff.1 hu).1;rw [hEk] at this;exact this
  obtain ⟨x',b1,_,_,b4⟩:=hcell i j hj;rw [hEget i j hj] at hu;rw [hx] at b1;cases b1;cases hu
  exact b4
 let cf:Fin n->Fin n->Int:=fun i j=>cmp (V i) (V j)
 have hI:Inhabited (Fin n):=⟨⟨0,hn⟩⟩
 let d:Array (Fin n):=Array.ofFn fun i:Fin n=>i
 have hds:d.size=n:=(by simp [d]);have hdg:∀ i (hi:i<n),d[i]! = ⟨i,hi⟩:=fun i hi=>by rw [getElem!_pos d i (by rw [hds];exact hi)];simp [d]
 have hH:HoldsK E k w p.block (p.off+0) d:=by
  intro t ht;rw [size_flatK,hds] at ht;obtain ⟨m1,m2,m3⟩:=divmod ht;rw [get_flatK E k d t (by rw [hds];exact ht),hdg _ m1,Nat.add_zero];refine ⟨?_,frozen_of_row w p.block _ cc _ h4⟩;rw [cell_of_row w p.block _ cc _ _ h4];obtain ⟨x,b1,b2,b3,b4⟩:=hcell ⟨t / k,m1⟩ (t % k) m2;have hlt2:t % k<(E ⟨t / k,m1⟩).length:=by rw [hEk];exact m2
  show cc[p.off+t]?=some (id ((E ⟨t / k,m1⟩)[t % k]!));rw [getElem!_pos (E ⟨t / k,m1⟩) (t % k) hlt2];have:=hEget ⟨t / k,m1⟩ (t % k) m2;rw [List.getElem?_eq_getElem hlt2] at this;rw [id,Option.some.inj this];simp only at b2;rw [<- m3] at b2 ⊢;exact b2
 -- any row of the sort's
 have turned:∀ (dk:Array (Fin n)) (m:Nat) (os:Array Obj),dk.size=n ->
   CW X g0 [(b,.vec (dk.toList.map V).flatten)] (sortWorldK E k w p.block (p.off+0) m dk os)/\Step X g0 [(b,.vec xs.flatten)] w g0 [(b,.vec (dk.toList.map V).flatten)] (sortWorldK E k w p.block (p.off+0) m dk os):=by
  intro dk m os hdk;have hVk:∀ x∈dk.toList.map V,x.length=k:=fun x hx=>by obtain ⟨i,_,rfl⟩:=List.mem_map.1 hx;exact hxk _ (hVm i)
  have hdt:dk.toList.length=n:=(by simpa using hdk);have hfl2:((dk.toList.map V).flatten).length=n*k:=(by rw [flatten_len hVk,List.length_map,hdt]);have hEk2:∀ x∈dk.toList.map E,x.length=k:=fun x hx=>by obtain ⟨i,_,rfl⟩:=List.mem_map.1 hx;exact hEk i
  have hfl3:((dk.toList.map E).flatten).length=n*k:=(by rw [flatten_len hEk2,List.length_map,hdt]);have hheap:(putRowK E k (Sort.ahead w m) p.block (p.off+0) dk).heap=w.heap.modify p.block (onCells (putCells id (p.off+0) (flatK E k dk))):=rfl;have hdl:∀ i,i<n->dk.toList[i]?=some (dk[i]!):=fun i hi=>by rw [Array.getElem?_toList,Array.getElem?_eq_getElem (by omega),getElem!_pos dk i (by omega)]
  have hVg:∀ t,t<n*k->((dk.toList.map V).flatten)[t]?=(V dk[t / k]!)[t % k]?:=fun t ht=>by obtain ⟨m1,m2,m3⟩:=divmod ht;have:=flatten_get (i:=t / k) (j:=t % k) (x:=V dk[t / k]!) hk0 hVk (by rw [List.getElem?_map,hdl _ m1];rfl) m2;rw [<- m3] at this;exact this
  have hEg:∀ t,t<n*k->((dk.toList.map E).flatten)[t]?=(E dk[t / k]!)[t % k]?:=fun t ht=>by obtain ⟨m1,m2,m3⟩:=divmod ht;have:=flatten_get (i:=t / k) (j:=t % k) (x:=E dk[t / k]!) hk0 hEk2 (by rw [List.getElem?_map,hdl _ m1];rfl) m2;rw [<- m3] at this;exact this
  refine vec_turned2 (l1:=[]) (l2:=[]) (l:=(dk.toList.map V).flatten) (us:=(dk.toList.map E).flatten) (w':=sortWorldK E k w p.block (p.off+0) m dk os) (cc':=putCells id (p.off+0) (flatK E k dk) cc)
   hc hp h4 (by rw [hfl2,hfl]) rfl ⟨rfl,Nat.le_add_right _ _⟩ rfl (by
    have e0:(putRowK E k (Sort.ahead w m) p.block (p.off+0) dk).heap.size=w.heap.size:=by rw [hheap];simp
    unfold sortWorldK grow;simp only [Array.size_append];omega) (fun blk hb hne=>?_) ?_ (by simp [putCells]) (fun t u hu=>?_) (RepVs.ofGet (by rw [hfl2,hfl3]) fun t x u hx hu=>?_) (fun u hu=>?_)
  ·unfold sortWorldK;rw [heap_grow_old _ _ (by rw [hheap];simpa using hb),hheap,Array.getElem?_modify,if_neg (Ne.symm hne)]
  ·unfold sortWorldK;rw [heap_grow_old _ _ (by rw [hheap];simpa using hlt),hheap,Array.getElem?_modify,if_pos rfl,h4];rfl
  ·have ht:t<n*k:=by have:=(List.getElem?_eq_some_iff.1 hu).1;rw [hfl3] at this;exact this
   rw [hEg t ht] at hu;have hlt2:p.off+t<cc.size:=(by omega);simp only [putCells,Array.getElem?_mapIdx,Array.getElem?_eq_getElem hlt2,Option.map_some,Nat.add_zero,size_flatK,hdk];rw [if_pos ⟨by omega,by omega⟩,show p.off+t - p.off=t from by omega,get_flatK E k dk t (by rw [hdk];exact ht)];obtain ⟨m1,m2,m3⟩:=divmod ht;have hl:t % k<(E dk[t / k]!).length:=by rw [hEk];exact m2
   rw [List.getElem?_eq_getElem hl] at hu;rw [getElem!_pos (E dk[t / k]!) (t % k) hl];exact hu
  ·have ht:t<n*k:=by have:=(List.getElem?_eq_some_iff.1 hu).1;rw [hfl3] at this;exact this
   rw [hEg t ht] at hu;rw [hVg t ht] at hx;obtain ⟨u',a1,a2⟩:=(hRepE dk[t / k]!).get _ _ hx;rw [hu] at a1;cases a1
   exact a2
  rw [List.mem_flatten] at hu;obtain ⟨l,hl,hu⟩:=hu;obtain ⟨i,_,rfl⟩:=List.mem_map.1 hl;exact hE1 i u hu
 have hcmpL:CmpLays P g #[] E k cf p.block (p.off+0) d.size w:=by
  intro m os dk hdk x y;rw [hds] at hdk;obtain ⟨c1,s1⟩:=turned dk m os hdk;obtain ⟨c2,s2⟩:=c1.sub (h':=[]) (fun k o hm=>by cases hm) (by simp [keys]);have hq:=hcmp (V x) (hVm x) (V y) (hVm y)
  have hrx:RepVs ⟨g0,live X [],sortWorldK E k w p.block (p.off+0) m dk os⟩ [.agg (V x),.agg (V y)] [.agg (E x).toArray,.agg (E y).toArray]:=by
   have up:∀ i,RepVs ⟨g0,live X [],sortWorldK E k w p.block (p.off+0) m dk os⟩ (V i) (E i):=fun i=>RepVs.mono (Step.le (s1.trans hc.own s2)) _ _ (hRepE i);simp only [RepVs];refine ⟨_,_,rfl,?_,_,_,rfl,?_,rfl⟩
   ·rw [Rep];exact ⟨_,rfl,fun u hu=>hE1 x u (by simpa using hu),by simpa using up x⟩
   rw [Rep];exact ⟨_,rfl,fun u hu=>hE1 y u (by simpa using hu),by simpa using up y⟩
  refine (CallsE.calls hcg (hq.1 X g0 _ #[.agg (E x).toArray,.agg (E y).toArray] c2 hrx)).mono ?_;rintro e w' ⟨v,u,g',hh,rfl,⟨rfl,rfl⟩,hc3,hu,hs3⟩;rw [Rep] at hu;rw [hu.1];exact ⟨rfl,world_grown hs3.os hs3.say hs3.output hs3.size fun b hb=>(hs3.old b hb fun k s _ hk=>by cases hk).1⟩
 have hSWO:SWO (ltOf cf):=by
  refine ⟨fun x=>?_,fun x y z a b=>?_,fun x y z a b=>?_⟩
  ·unfold ltOf;simpa using hirr _ (hVm x)
  ·unfold ltOf at a b ⊢;simp only [decide_eq_true_eq] at a b ⊢;exact htr _ (hVm x) _ (hVm y) _ (hVm z) a b
  unfold ltOf at a b ⊢;simp only [decide_eq_false_iff_not] at a b ⊢;exact hnt _ (hVm x) _ (hVm y) _ (hVm z) a b
 have hu:us=#[.slice (some ⟨p.block,p.off+0,none⟩) d.size cap,.func (.func g) #[] #[]]:=by rw [<- Array.toList_inj,hds];simpa using hus
 subst hu;refine (hs (Fin n) hI E cf p.block (p.off+0) cap d w hEk hE1 hSWO hcmpL hH hlt (by rw [hds];omega)).mono ?_;rintro e w' ⟨rfl,d',m,os,hperm,hsort,rfl⟩;obtain ⟨hp1,hp2,hp3⟩:=hperm;rw [hds] at hp1;obtain ⟨c1,s1⟩:=turned d' m os hp1;refine ⟨.tup [],.tuple #[],g0,_,rfl,⟨rfl,d'.toList.map V,rfl,?_,?_⟩,c1,by rw [Rep];exact ⟨#[],rfl,by simp [RepVs]⟩,s1⟩
 ·have e1:d'.extract 0 d.size=d':=by
   have e0:d.size=d'.size:=(by omega);rw [e0];simp
  have e2:d.extract 0 d.size=d:=(by simp);rw [e1,e2] at hp3
  have e3:d.toList.map V=xs:=by
   refine List.ext_getElem? fun i=>?_;by_cases hi:i<n
   ·rw [List.getElem?_map,Array.getElem?_toList,Array.getElem?_eq_getElem (by omega)];simp [d,V,hi]
   rw [List.getElem?_eq_none (by simp [hds];omega),List.getElem?_eq_none (by omega)]
  rw [<- e3];exact hp3.map V
 rw [List.pairwise_map,List.pairwise_iff_getElem];intro i j hi hj hij;have hi':i<d'.size:=(by simpa using hi);have hj':j<d'.size:=(by simpa using hj);have:=hsort i j (Nat.zero_le _) hij (by rw [hds,<- hp1];exact hj');unfold ltOf at this;simp only [decide_eq_false_iff_not] at this;rw [getElem!_pos d' i hi',getElem!_pos d' j hj'] at this;simpa using this
end
end Go.Abs
/-
 The abstract layer,part Z3: the sort's law,out of the library's contract.
-/
namespace Go.Abs
open Go Go.Sort Go.Proofs Go.Shelf
theorem sortLaw {P:Program} {ρ:Ren} (L:SlLaysF0.n6 P ρ) (k g:Nat) (aE:∀ w,(isAgg (ρ.t 24)).run P w=.ok true w) (zE:∀ w,(Go.sizeOf (ρ.t 24)).run P w=.ok k w)
  (eg:∀ args w,(callFunc g args).run P w=.ok (.enter g args) w):SortLaw P (ρ.f 6) g k:=fun _ _ enc cf blk off cap d w hk h1 hO hcmp hH hb hs=>
 AnyQ.slices_SortFunc L k aE zE enc hk h1 cf hO g #[] blk off cap d w eg hcmp hH hb hs
end Go.Abs
