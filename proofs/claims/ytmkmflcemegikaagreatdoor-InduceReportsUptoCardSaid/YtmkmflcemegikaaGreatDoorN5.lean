/- What is proved: small laws for the walks of this seat, and contracts of its functions. No condition but those each theorem names. -/
import Derived.Test.YtmkmflcemegikaaGreatDoorN4
import Derived.Laws.RangeAny
import Derived.Sort.Walk0
set_option maxRecDepth 100000
set_option maxHeartbeats 2000000
set_option linter.unusedVariables false
set_option linter.unusedSimpArgs false
namespace Go.Abs.Wall
open Go Go.Abs Go.Proofs
def letter (y:UInt8):Bool:=small y||big y
def letC (c:Int):Bool:=(decide (97≤c)&&decide (c≤122))||(decide (65≤c)&&decide (c≤90))
def smC (c:Int):Bool:=decide (c<97)||decide (122<c)
theorem dec_ok {s:List UInt8} {pos:Nat} {y:UInt8} (h:s[pos]?=some y):(y.toNat<128∧decS s pos=(y.toNat,1))∨(128≤y.toNat∧128≤(decS s pos).1∧1≤(decS s pos).2):=by
 obtain ⟨h1,h2⟩:=List.getElem?_eq_some_iff.1 h
 have hs:pos<(⟨s.toArray⟩:ByteArray).size:=h1
 have hg:(⟨s.toArray⟩:ByteArray)[pos]'hs=y:=h2
 by_cases hy:y.toNat<128
 ·refine .inl ⟨hy,?_⟩
  unfold decS
  rw [decode_ascii _ pos hs (by rw [hg];exact hy),hg]
 ·refine .inr ⟨by omega,?_⟩
  have:=decode_high (⟨s.toArray⟩:ByteArray) pos hs (by rw [hg];omega)
  exact this
theorem let_ok {s:List UInt8} {pos:Nat} {y:UInt8} (h:s[pos]?=some y):letC ((decS s pos).1:Int)=letter y∧(letter y=true→(decS s pos).2=1):=by
 rcases dec_ok h with ⟨h1,h2⟩|⟨h1,h2,h3⟩
 ·rw [h2]
  refine ⟨?_,fun _=>rfl⟩
  unfold letC letter small big
  rw [← le_cast,← le_cast,← le_cast',← le_cast']
  rfl
 ·have e1:letter y=false:=by
   unfold letter small big
   simp only [Bool.or_eq_false_iff,Bool.and_eq_false_iff,decide_eq_false_iff_not]
   omega
  rw [e1]
  refine ⟨?_,fun h=>by cases h⟩
  unfold letC
  simp only [Bool.or_eq_false_iff,Bool.and_eq_false_iff,decide_eq_false_iff_not]
  omega
theorem sm_ok {s:List UInt8} {pos:Nat} {y:UInt8} (h:s[pos]?=some y):smC ((decS s pos).1:Int)=!small y∧(small y=true→(decS s pos).2=1):=by
 rcases dec_ok h with ⟨h1,h2⟩|⟨h1,h2,h3⟩
 ·rw [h2]
  refine ⟨?_,fun _=>rfl⟩
  unfold smC small
  rw [Bool.eq_iff_iff]
  simp
  omega
 ·have e1:small y=false:=by
   unfold small
   simp only [Bool.and_eq_false_iff,decide_eq_false_iff_not]
   omega
  rw [e1]
  refine ⟨?_,fun h=>by cases h⟩
  unfold smC
  simp
  omega
def sndOK (s:List UInt8) (most:Int):Bool:=s.all letter&&(decide (1≤(s.length:Int))&&decide ((s.length:Int)≤most))
def nameOK (s:List UInt8):Bool:=s.all small&&(decide (1≤(s.length:Int))&&decide ((s.length:Int)≤8))
def c45:Cfg:=⟨[0,1,4,6,8,9,10,26],[],[],[],[],[]⟩
def c47:Cfg:=⟨[0,2,4,6,7,8,15],[],[],[],[],[]⟩
theorem soundsW (s:List UInt8) (most:Int) (hs:s.length≤LMAX):QCall Tryz.prog 45 [.str s,.int .i64 most] [] (.bool (sndOK s most)):=by
 unfold LMAX at hs
 refine QCall.of' ?_
 refine fcalls (F:=Tryz.f45) c45 rfl rfl rfl mixed rfl fun X=>?_
 conv=>whnf
 intro it
 conv=>whnf
 refine sloop rfl mixed [0,1,8] [] (fun m r h=>∃ (pos:Nat),r=[(0,[],.str s),(1,[],.int .i64 most),(8,[],.oit it)]∧h=[(it,.siter s pos)]∧m=s.length - pos∧pos≤s.length∧s.all letter=(s.drop pos).all letter) ?_ ?_
 ·conv=>whnf
  exact ⟨_,0,rfl,rfl,rfl,by omega,rfl⟩
 ·rintro m r h ⟨pos,rfl,rfl,rfl,hp,ha⟩
  conv=>whnf
  refine ⟨s,pos,.head _,fun hf=>?_,fun hf=>⟨_,.here _,?_⟩⟩
  ·rw [List.drop_eq_nil_of_le hf,List.all_nil] at ha
   conv=>whnf
   refine cF rfl ?_
   conv=>whnf
   skip
   unfold sndOK
   rw [ha];rfl
  ·obtain ⟨y,hy⟩:=get_lt hf
   obtain ⟨h1,h2⟩:=let_ok hy
   rw [List.drop_eq_getElem_cons hf,List.all_cons,(List.getElem?_eq_some_iff.1 hy).2] at ha
   conv=>whnf
   refine cT rfl ?_
   conv=>whnf
   skip
   refine ⟨fun hq=>?_,fun hq=>?_⟩
   ·have hq:(!letC ((decS s pos).1:Int))=true:=hq
    have hl:letter y=false:=by rw [← h1];simpa using hq
    conv=>whnf
    skip
    unfold sndOK
    rw [ha,hl];rfl
   ·have hq:(!letC ((decS s pos).1:Int))=false:=hq
    have hl:letter y=true:=by rw [← h1];simpa using hq
    rw [hl,Bool.true_and] at ha
    conv=>whnf
    skip
    rw [h2 hl]
    exact ⟨_,by omega,pos+1,rfl,rfl,rfl,by omega,ha⟩
theorem namedW (s:List UInt8) (hs:s.length≤LMAX):QCall Tryz.prog 47 [.str s] [] (.bool (nameOK s)):=by
 unfold LMAX at hs
 refine QCall.of' ?_
 refine fcalls (F:=Tryz.f47) c47 rfl rfl rfl mixed rfl fun X=>?_
 conv=>whnf
 intro it
 conv=>whnf
 refine sloop rfl mixed [0,6] [] (fun m r h=>∃ (pos:Nat),r=[(0,[],.str s),(6,[],.oit it)]∧h=[(it,.siter s pos)]∧m=s.length - pos∧pos≤s.length∧s.all small=(s.drop pos).all small) ?_ ?_
 ·conv=>whnf
  exact ⟨_,0,rfl,rfl,rfl,by omega,rfl⟩
 ·rintro m r h ⟨pos,rfl,rfl,rfl,hp,ha⟩
  conv=>whnf
  refine ⟨s,pos,.head _,fun hf=>?_,fun hf=>⟨_,.here _,?_⟩⟩
  ·rw [List.drop_eq_nil_of_le hf,List.all_nil] at ha
   conv=>whnf
   refine cF rfl ?_
   conv=>whnf
   skip
   unfold nameOK
   rw [ha];rfl
  ·obtain ⟨y,hy⟩:=get_lt hf
   obtain ⟨h1,h2⟩:=sm_ok hy
   rw [List.drop_eq_getElem_cons hf,List.all_cons,(List.getElem?_eq_some_iff.1 hy).2] at ha
   conv=>whnf
   refine cT rfl ?_
   conv=>whnf
   skip
   refine ⟨fun hq=>?_,fun hq=>?_⟩
   ·have hq:smC ((decS s pos).1:Int)=true:=hq
    have hl:small y=false:=by rw [h1] at hq;simpa using hq
    conv=>whnf
    skip
    unfold nameOK
    rw [ha,hl];rfl
   ·have hq:smC ((decS s pos).1:Int)=false:=hq
    have hl:small y=true:=by rw [h1] at hq;simpa using hq
    rw [hl,Bool.true_and] at ha
    conv=>whnf
    skip
    rw [h2 hl]
    exact ⟨_,by omega,pos+1,rfl,rfl,rfl,by omega,ha⟩
end Go.Abs.Wall
namespace Go.Abs.Wall
open Go Go.Abs Go.Proofs
structure Ent where
 root:List UInt8
 kind:Int
 cls:List UInt8
 weight:Int
deriving DecidableEq
structure Edn where
 kind:Int
 text:List UInt8
 name:List UInt8
 weight:Int
deriving DecidableEq
structure Cli where
 text:List UInt8
 name:List UInt8
 weight:Int
deriving DecidableEq
structure Lex where
 entries:List Ent
 endings:List Edn
 clitics:List Cli
def encEnt (e:Ent):List AV:=[.str e.root,.int .i64 e.kind,.str e.cls,.int .i64 e.weight]
def encEdn (e:Edn):List AV:=[.int .i64 e.kind,.str e.text,.str e.name,.int .i64 e.weight]
def encCli (e:Cli):List AV:=[.str e.text,.str e.name,.int .i64 e.weight]
def encLex (x:Lex):List AV:=[.sl 4 none (x.entries.map encEnt),.sl 4 none (x.endings.map encEdn),.sl 3 none (x.clitics.map encCli)]
structure EntFit (e:Ent):Prop where
 root:e.root.length≤LMAX
 cls:e.cls.length≤LMAX
structure EdnFit (e:Edn):Prop where
 text:e.text.length≤LMAX
 name:e.name.length≤LMAX
structure CliFit (e:Cli):Prop where
 text:e.text.length≤LMAX
 name:e.name.length≤LMAX
structure LexFit (x:Lex):Prop where
 entries:x.entries.length≤LMAX
 endings:x.endings.length≤LMAX
 clitics:x.clitics.length≤LMAX
 ent:∀ e∈x.entries,EntFit e
 edn:∀ e∈x.endings,EdnFit e
 cli:∀ e∈x.clitics,CliFit e
def wthn (n lo hi:Int):Bool:=decide (lo≤n)&&decide (n≤hi)
def entSame (w v:Ent):Bool:=decide (v.root=w.root)&&decide (v.kind=w.kind)&&decide (v.cls=w.cls)
def ednSame (w v:Edn):Bool:=decide (v.kind=w.kind)&&decide (v.name=w.name)
def cliSame (w v:Cli):Bool:=decide (v.name=w.name)
def entBad (before:List Ent) (w:Ent):Bool:=!sndOK w.root 8||!wthn w.kind 1 9||(!decide (w.cls=[])&&!nameOK w.cls)||!wthn w.weight 0 1000||before.any (entSame w)
def ednBad (before:List Edn) (w:Edn):Bool:=!wthn w.kind 1 9||!sndOK w.text 4||!nameOK w.name||!wthn w.weight 0 1000||before.any (ednSame w)
def cliBad (before:List Cli) (w:Cli):Bool:=!sndOK w.text 4||!nameOK w.name||!wthn w.weight 0 1000||before.any (cliSame w)
def badGo {α:Type} (bad:List α→α→Bool) (l:List α):List α→Nat→Bool
 | [],_=>false
 | w::t,i=>bad (l.take i) w||badGo bad l t (i+1)
def bads {α:Type} (bad:List α→α→Bool) (l:List α):Bool:=badGo bad l l 0
def lexErr (x:Lex):Int:=
 if 200<x.entries.length∨40<x.endings.length∨10<x.clitics.length then 2
 else if bads entBad x.entries=true then 45
 else if bads ednBad x.endings=true then 46
 else if bads cliBad x.clitics=true then 47
 else 0
def c71:Cfg:=⟨[0,1,4,5,7,8,9,16],[],[],[],[],[]⟩
def c48:Cfg:=⟨[0,1,4],[],[],[],[],[]⟩
theorem indexFuncE (l:List Ent) (hl:l.length≤LMAX) (f:FuncId) (caps:List AV) (p:Ent→Bool) (hp:∀ w∈l,QCall Tryz.prog f (.agg (encEnt w)::caps) [] (.bool (p w))) :
  QCall Tryz.prog 71 [.sl 4 none (l.map encEnt),.fn f caps] [] (.int .i64 (firstI p l)):=by
 refine fcalls (F:=Tryz.f71) c71 rfl rfl rfl mixed rfl fun X=>?_
 conv=>whnf
 unfold LMAX at hl
 refine sloop rfl mixed [0,1,7,8] [] (fun m r h=>∃ (i:Nat),r=[(0,[],.sl 4 none (l.map encEnt)),(1,[],.fn f caps),(7,[],.int .i64 (l.map encEnt).length),(8,[],.int .i64 i)]∧h=[]∧m=l.length - i∧i≤l.length∧Below p l i) ?_ ?_
 ·conv=>whnf
  exact ⟨_,0,rfl,rfl,rfl,by omega,.zero⟩
 ·rintro m r h ⟨i,rfl,rfl,rfl,hi,hg⟩
  conv=>whnf
  refine ⟨fun hc=>?_,fun hc=>?_⟩<;>simp at hc
  ·obtain ⟨x,hx⟩:=get_lt hc
   conv=>whnf
   repeat ((first|refine ix (by assumption) ?_|(refine QCall.k0 (hp x (List.mem_of_getElem? hx)) ?_));conv=>whnf)
   refine ⟨fun hd=>?_,fun hd=>?_⟩
   ·conv=>whnf
    exact ⟨by rw [hg.at hx hd],rfl⟩
   ·conv=>whnf
    repeat (refine ⟨gP_of ⟨by omega,by omega⟩,?_⟩;conv=>whnf)
    exact ⟨_,by omega,i+1,rfl,rfl,rfl,by omega,hg.succ hx hd⟩
  ·conv=>whnf
   exact ⟨by rw [hg.end hc],rfl⟩
theorem containsFuncE (l:List Ent) (hl:l.length≤LMAX) (f:FuncId) (caps:List AV) (p:Ent→Bool) (hp:∀ w∈l,QCall Tryz.prog f (.agg (encEnt w)::caps) [] (.bool (p w))) :
  QCall Tryz.prog 48 [.sl 4 none (l.map encEnt),.fn f caps] [] (.bool (l.any p)):=by
 refine fcalls (F:=Tryz.f48) c48 rfl rfl rfl mixed rfl fun X=>?_
 conv=>whnf
 refine QCall.k0 (indexFuncE l hl f caps p hp) ?_
 conv=>whnf
 exact ⟨congrArg AV.bool (firstI_any p l),rfl⟩
def c72:Cfg:=⟨[0,1,4,5,7,8,9,16],[],[],[],[],[]⟩
def c50:Cfg:=⟨[0,1,4],[],[],[],[],[]⟩
theorem indexFuncN (l:List Edn) (hl:l.length≤LMAX) (f:FuncId) (caps:List AV) (p:Edn→Bool) (hp:∀ w∈l,QCall Tryz.prog f (.agg (encEdn w)::caps) [] (.bool (p w))) :
  QCall Tryz.prog 72 [.sl 4 none (l.map encEdn),.fn f caps] [] (.int .i64 (firstI p l)):=by
 refine fcalls (F:=Tryz.f72) c72 rfl rfl rfl mixed rfl fun X=>?_
 conv=>whnf
 unfold LMAX at hl
 refine sloop rfl mixed [0,1,7,8] [] (fun m r h=>∃ (i:Nat),r=[(0,[],.sl 4 none (l.map encEdn)),(1,[],.fn f caps),(7,[],.int .i64 (l.map encEdn).length),(8,[],.int .i64 i)]∧h=[]∧m=l.length - i∧i≤l.length∧Below p l i) ?_ ?_
 ·conv=>whnf
  exact ⟨_,0,rfl,rfl,rfl,by omega,.zero⟩
 ·rintro m r h ⟨i,rfl,rfl,rfl,hi,hg⟩
  conv=>whnf
  refine ⟨fun hc=>?_,fun hc=>?_⟩<;>simp at hc
  ·obtain ⟨x,hx⟩:=get_lt hc
   conv=>whnf
   repeat ((first|refine ix (by assumption) ?_|(refine QCall.k0 (hp x (List.mem_of_getElem? hx)) ?_));conv=>whnf)
   refine ⟨fun hd=>?_,fun hd=>?_⟩
   ·conv=>whnf
    exact ⟨by rw [hg.at hx hd],rfl⟩
   ·conv=>whnf
    repeat (refine ⟨gP_of ⟨by omega,by omega⟩,?_⟩;conv=>whnf)
    exact ⟨_,by omega,i+1,rfl,rfl,rfl,by omega,hg.succ hx hd⟩
  ·conv=>whnf
   exact ⟨by rw [hg.end hc],rfl⟩
theorem containsFuncN (l:List Edn) (hl:l.length≤LMAX) (f:FuncId) (caps:List AV) (p:Edn→Bool) (hp:∀ w∈l,QCall Tryz.prog f (.agg (encEdn w)::caps) [] (.bool (p w))) :
  QCall Tryz.prog 50 [.sl 4 none (l.map encEdn),.fn f caps] [] (.bool (l.any p)):=by
 refine fcalls (F:=Tryz.f50) c50 rfl rfl rfl mixed rfl fun X=>?_
 conv=>whnf
 refine QCall.k0 (indexFuncN l hl f caps p hp) ?_
 conv=>whnf
 exact ⟨congrArg AV.bool (firstI_any p l),rfl⟩
def c73:Cfg:=⟨[0,1,4,5,7,8,9,16],[],[],[],[],[]⟩
def c52:Cfg:=⟨[0,1,4],[],[],[],[],[]⟩
theorem indexFuncK (l:List Cli) (hl:l.length≤LMAX) (f:FuncId) (caps:List AV) (p:Cli→Bool) (hp:∀ w∈l,QCall Tryz.prog f (.agg (encCli w)::caps) [] (.bool (p w))) :
  QCall Tryz.prog 73 [.sl 3 none (l.map encCli),.fn f caps] [] (.int .i64 (firstI p l)):=by
 refine fcalls (F:=Tryz.f73) c73 rfl rfl rfl mixed rfl fun X=>?_
 conv=>whnf
 unfold LMAX at hl
 refine sloop rfl mixed [0,1,7,8] [] (fun m r h=>∃ (i:Nat),r=[(0,[],.sl 3 none (l.map encCli)),(1,[],.fn f caps),(7,[],.int .i64 (l.map encCli).length),(8,[],.int .i64 i)]∧h=[]∧m=l.length - i∧i≤l.length∧Below p l i) ?_ ?_
 ·conv=>whnf
  exact ⟨_,0,rfl,rfl,rfl,by omega,.zero⟩
 ·rintro m r h ⟨i,rfl,rfl,rfl,hi,hg⟩
  conv=>whnf
  refine ⟨fun hc=>?_,fun hc=>?_⟩<;>simp at hc
  ·obtain ⟨x,hx⟩:=get_lt hc
   conv=>whnf
   repeat ((first|refine ix (by assumption) ?_|(refine QCall.k0 (hp x (List.mem_of_getElem? hx)) ?_));conv=>whnf)
   refine ⟨fun hd=>?_,fun hd=>?_⟩
   ·conv=>whnf
    exact ⟨by rw [hg.at hx hd],rfl⟩
   ·conv=>whnf
    repeat (refine ⟨gP_of ⟨by omega,by omega⟩,?_⟩;conv=>whnf)
    exact ⟨_,by omega,i+1,rfl,rfl,rfl,by omega,hg.succ hx hd⟩
  ·conv=>whnf
   exact ⟨by rw [hg.end hc],rfl⟩
theorem containsFuncK (l:List Cli) (hl:l.length≤LMAX) (f:FuncId) (caps:List AV) (p:Cli→Bool) (hp:∀ w∈l,QCall Tryz.prog f (.agg (encCli w)::caps) [] (.bool (p w))) :
  QCall Tryz.prog 52 [.sl 3 none (l.map encCli),.fn f caps] [] (.bool (l.any p)):=by
 refine fcalls (F:=Tryz.f52) c52 rfl rfl rfl mixed rfl fun X=>?_
 conv=>whnf
 refine QCall.k0 (indexFuncK l hl f caps p hp) ?_
 conv=>whnf
 exact ⟨congrArg AV.bool (firstI_any p l),rfl⟩
def c44:Cfg:=⟨[0,1,2,3],[],[],[],[],[]⟩
def c49:Cfg:=⟨[0,1,2,3],[],[],[],[],[]⟩
def c51:Cfg:=⟨[0,1,2,3],[],[],[],[],[]⟩
theorem entSameF (w v:Ent):QCall Tryz.prog 44 [.agg (encEnt v),.iptr (encEnt w)] [] (.bool (entSame w v)):=by
 refine fcalls (F:=Tryz.f44) c44 rfl rfl rfl mixed rfl fun X=>?_
 conv=>whnf
 skip
 exact ⟨rfl,rfl⟩
theorem ednSameF (w v:Edn):QCall Tryz.prog 49 [.agg (encEdn v),.iptr (encEdn w)] [] (.bool (ednSame w v)):=by
 refine fcalls (F:=Tryz.f49) c49 rfl rfl rfl mixed rfl fun X=>?_
 conv=>whnf
 skip
 exact ⟨rfl,rfl⟩
theorem cliSameF (w v:Cli):QCall Tryz.prog 51 [.agg (encCli v),.iptr (encCli w)] [] (.bool (cliSame w v)):=by
 refine fcalls (F:=Tryz.f51) c51 rfl rfl rfl mixed rfl fun X=>?_
 conv=>whnf
 skip
 exact ⟨rfl,rfl⟩
def c30:Cfg:=⟨[0,1,2,3,4,5,6,7,8,9,10,11,27,29,30,31,32,71,74,75,76,77,111,114,115,116,117,145],[],[4,7,10],[],[],[]⟩
set_option maxHeartbeats 2000000 in
theorem lexCheck (x:Lex) (hx:LexFit x):QCall Tryz.prog 30 [.agg (encLex x)] [] (.int .i64 (lexErr x)):=by
 have hx1:=hx.entries
 have hx2:=hx.endings
 have hx3:=hx.clitics
 unfold LMAX at hx1 hx2 hx3
 refine fcalls (F:=Tryz.f30) c30 rfl rfl rfl mixed rfl fun X=>?_
 conv=>whnf
 skip
 refine ⟨fun hc=>?_,fun hc=>?_⟩
 ·have hc:(decide (200<((x.entries.map encEnt).length:Int))||decide (40<((x.endings.map encEdn).length:Int))||decide (10<((x.clitics.map encCli).length:Int)))=true:=hc
  simp [or_assoc] at hc
  conv=>whnf
  exact ⟨by rw [lexErr,if_pos (by omega)],rfl⟩
 have hc:(decide (200<((x.entries.map encEnt).length:Int))||decide (40<((x.endings.map encEdn).length:Int))||decide (10<((x.clitics.map encCli).length:Int)))=false:=hc
 simp at hc
 have h0:lexErr x=if bads entBad x.entries=true then 45 else if bads ednBad x.endings=true then 46 else if bads cliBad x.clitics=true then 47 else 0:=by rw [lexErr,if_neg (by omega)]
 conv=>whnf
 refine sloop rfl mixed [1,29,30,31] [] (fun m r h=>∃ (i:Nat),r=[(1,[],.iptr (encLex x)),(29,[],.sl 4 none (x.entries.map encEnt)),(30,[],.int .i64 (x.entries.map encEnt).length),(31,[],.int .i64 i)]∧h=[]∧m=x.entries.length - i∧i≤x.entries.length∧bads entBad x.entries=badGo entBad x.entries (x.entries.drop i) i) ?_ ?_
 ·conv=>whnf
  exact ⟨_,0,rfl,rfl,rfl,by omega,rfl⟩
 ·rintro m r h ⟨i,rfl,rfl,rfl,hi,hb⟩
  conv=>whnf
  refine ⟨fun he=>?_,fun he=>?_⟩<;>simp at he
  ·obtain ⟨w,hw⟩:=get_lt he
   have hm:=List.mem_of_getElem? hw
   rw [drop_cons hw,badGo] at hb
   have hq:=containsFuncE (x.entries.take i) (by simp [LMAX];omega) 44 [.iptr (encEnt w)] (entSame w) (fun v _=>entSameF w v)
   rw [List.map_take] at hq
   conv=>whnf
   repeat ((first|refine ix (by assumption) ?_|refine QCall.k0 (soundsW w.root 8 (hx.ent w hm).root) ?_|refine gcall (lwithin _ _ _) ?_|refine gcall (namedW w.cls (hx.ent w hm).cls) ?_|(refine gcall hq ?_)|(refine ⟨gP_of ⟨by omega,by omega,by simp;omega⟩,?_⟩)|refine ⟨_,_,Rem.here _,⟨Nat.le_of_ble_eq_true rfl,rfl⟩,?_⟩|intro (nb:Nat));conv=>whnf)
   refine ⟨fun hd=>?_,fun hd=>?_⟩
   ·have hd:entBad (x.entries.take i) w=true:=hd
    rw [hd,Bool.true_or] at hb
    conv=>whnf
    exact ⟨by rw [h0,if_pos hb],rfl⟩
   ·have hd:entBad (x.entries.take i) w=false:=hd
    rw [hd,Bool.false_or] at hb
    conv=>whnf
    repeat (refine ⟨gP_of ⟨by omega,by omega⟩,?_⟩;conv=>whnf)
    exact ⟨_,by omega,i+1,rfl,rfl,rfl,by omega,hb⟩
  ·rw [drop_nil he,badGo] at hb
   have h1:lexErr x=if bads ednBad x.endings=true then 46 else if bads cliBad x.clitics=true then 47 else 0:=by rw [h0,if_neg (by rw [hb];decide)]
   conv=>whnf
   refine sloop rfl mixed [1,74,75,76] [] (fun m r h=>∃ (i:Nat),r=[(1,[],.iptr (encLex x)),(74,[],.sl 4 none (x.endings.map encEdn)),(75,[],.int .i64 (x.endings.map encEdn).length),(76,[],.int .i64 i)]∧h=[]∧m=x.endings.length - i∧i≤x.endings.length∧bads ednBad x.endings=badGo ednBad x.endings (x.endings.drop i) i) ?_ ?_
   ·conv=>whnf
    exact ⟨_,0,rfl,rfl,rfl,by omega,rfl⟩
   ·rintro m r h ⟨i,rfl,rfl,rfl,hi,hb⟩
    conv=>whnf
    refine ⟨fun he=>?_,fun he=>?_⟩<;>simp at he
    ·obtain ⟨w,hw⟩:=get_lt he
     have hm:=List.mem_of_getElem? hw
     rw [drop_cons hw,badGo] at hb
     have hq:=containsFuncN (x.endings.take i) (by simp [LMAX];omega) 49 [.iptr (encEdn w)] (ednSame w) (fun v _=>ednSameF w v)
     rw [List.map_take] at hq
     conv=>whnf
     repeat ((first|refine ix (by assumption) ?_|refine QCall.k0 (lwithin _ _ _) ?_|refine gcall (lwithin _ _ _) ?_|refine gcall (soundsW w.text 4 (hx.edn w hm).text) ?_|refine gcall (namedW w.name (hx.edn w hm).name) ?_|(refine gcall hq ?_)|(refine ⟨gP_of ⟨by omega,by omega,by simp;omega⟩,?_⟩)|refine ⟨_,_,Rem.here _,⟨Nat.le_of_ble_eq_true rfl,rfl⟩,?_⟩|intro (nb:Nat));conv=>whnf)
     refine ⟨fun hd=>?_,fun hd=>?_⟩
     ·have hd:ednBad (x.endings.take i) w=true:=hd
      rw [hd,Bool.true_or] at hb
      conv=>whnf
      exact ⟨by rw [h1,if_pos hb],rfl⟩
     ·have hd:ednBad (x.endings.take i) w=false:=hd
      rw [hd,Bool.false_or] at hb
      conv=>whnf
      repeat (refine ⟨gP_of ⟨by omega,by omega⟩,?_⟩;conv=>whnf)
      exact ⟨_,by omega,i+1,rfl,rfl,rfl,by omega,hb⟩
    ·rw [drop_nil he,badGo] at hb
     have h2:lexErr x=if bads cliBad x.clitics=true then 47 else 0:=by rw [h1,if_neg (by rw [hb];decide)]
     conv=>whnf
     refine sloop rfl mixed [1,114,115,116] [] (fun m r h=>∃ (i:Nat),r=[(1,[],.iptr (encLex x)),(114,[],.sl 3 none (x.clitics.map encCli)),(115,[],.int .i64 (x.clitics.map encCli).length),(116,[],.int .i64 i)]∧h=[]∧m=x.clitics.length - i∧i≤x.clitics.length∧bads cliBad x.clitics=badGo cliBad x.clitics (x.clitics.drop i) i) ?_ ?_
     ·conv=>whnf
      exact ⟨_,0,rfl,rfl,rfl,by omega,rfl⟩
     ·rintro m r h ⟨i,rfl,rfl,rfl,hi,hb⟩
      conv=>whnf
      refine ⟨fun he=>?_,fun he=>?_⟩<;>simp at he
      ·obtain ⟨w,hw⟩:=get_lt he
       have hm:=List.mem_of_getElem? hw
       rw [drop_cons hw,badGo] at hb
       have hq:=containsFuncK (x.clitics.take i) (by simp [LMAX];omega) 51 [.iptr (encCli w)] (cliSame w) (fun v _=>cliSameF w v)
       rw [List.map_take] at hq
       conv=>whnf
       repeat ((first|refine ix (by assumption) ?_|refine QCall.k0 (soundsW w.text 4 (hx.cli w hm).text) ?_|refine gcall (namedW w.name (hx.cli w hm).name) ?_|refine gcall (lwithin _ _ _) ?_|(refine gcall hq ?_)|(refine ⟨gP_of ⟨by omega,by omega,by simp;omega⟩,?_⟩)|refine ⟨_,_,Rem.here _,⟨Nat.le_of_ble_eq_true rfl,rfl⟩,?_⟩|intro (nb:Nat));conv=>whnf)
       refine ⟨fun hd=>?_,fun hd=>?_⟩
       ·have hd:cliBad (x.clitics.take i) w=true:=hd
        rw [hd,Bool.true_or] at hb
        conv=>whnf
        exact ⟨by rw [h2,if_pos hb],rfl⟩
       ·have hd:cliBad (x.clitics.take i) w=false:=hd
        rw [hd,Bool.false_or] at hb
        conv=>whnf
        repeat (refine ⟨gP_of ⟨by omega,by omega⟩,?_⟩;conv=>whnf)
        exact ⟨_,by omega,i+1,rfl,rfl,rfl,by omega,hb⟩
      ·rw [drop_nil he,badGo] at hb
       have h3:lexErr x=0:=by rw [h2,if_neg (by rw [hb];decide)]
       conv=>whnf
       exact ⟨by rw [h3],rfl⟩
end Go.Abs.Wall
namespace Go.Abs.Wall
open Go Go.Abs Go.Proofs
structure Frm where
 entry:Int
 ending:Int
 clitics:List Int
deriving DecidableEq
def encFrm (f:Frm):List AV:=[.int .i64 f.entry,.int .i64 f.ending,.sl 1 none (ints f.clitics)]
def entAt (x:Lex) (n:Int):Ent:=x.entries.getD n.toNat ⟨[],0,[],0⟩
def ednAt (x:Lex) (n:Int):Edn:=x.endings.getD n.toNat ⟨0,[],[],0⟩
def cliAt (x:Lex) (n:Int):Cli:=x.clitics.getD n.toNat ⟨[],[],0⟩
def badEnd (x:Lex) (f:Frm):Bool:=!decide (f.ending = -1)&&(!wthn f.ending 0 ((x.endings.length:Int) - 1)||!decide ((ednAt x f.ending).kind=(entAt x f.entry).kind))
def cliOK (n:Nat):List Int→Int→Bool
 | [],_=>true
 | c::t,last=>!(decide (c≤last)||decide ((n:Int)≤c))&&cliOK n t c
def frmErr (x:Lex) (f:Frm):Int:=
 if lexErr x≠0 then lexErr x
 else if wthn f.entry 0 ((x.entries.length:Int) - 1)=false then 45
 else if badEnd x f=true then 46
 else if 3<f.clitics.length then 47
 else if cliOK x.clitics.length f.clitics (-1)=true then 0
 else 47
theorem wthn_iff {n lo hi:Int}:wthn n lo hi=true↔lo≤n∧n≤hi:=by unfold wthn;simp
theorem badGo_not {α:Type} {bad:List α→α→Bool} {l:List α}:∀ (t:List α) (k:Nat),l.drop k=t→badGo bad l t k=false→∀ (i:Nat) w,k≤i→l[i]?=some w→bad (l.take i) w=false
 | [],k,hd,_,i,w,hi,hw=>by
   have h1:=List.drop_eq_nil_iff.1 hd
   have h2:=(List.getElem?_eq_some_iff.1 hw).1
   omega
 | a::t,k,hd,h,i,w,hi,hw=>by
   rw [badGo,Bool.or_eq_false_iff] at h
   have hk:l[k]?=some a:=by
    have:=congrArg (fun z=>z[0]?) hd
    simpa using this
   by_cases e:i=k
   ·subst e;rw [hk] at hw;cases hw;exact h.1
   ·refine badGo_not t (k+1) ?_ h.2 i w (by omega) hw
    have:=congrArg List.tail hd
    simpa [List.tail_drop] using this
theorem bads_not {α:Type} {bad:List α→α→Bool} {l:List α} (h:bads bad l=false) (i:Nat) (w:α) (hw:l[i]?=some w):bad (l.take i) w=false:=
 badGo_not l 0 rfl h i w (Nat.zero_le _) hw
structure EntOK (e:Ent):Prop where
 root:sndOK e.root 8=true
 kind:1≤e.kind∧e.kind≤9
 cls:e.cls≠[]→nameOK e.cls=true
 weight:0≤e.weight∧e.weight≤1000
structure EdnOK (e:Edn):Prop where
 text:sndOK e.text 4=true
 weight:0≤e.weight∧e.weight≤1000
structure CliOK (e:Cli):Prop where
 text:sndOK e.text 4=true
 weight:0≤e.weight∧e.weight≤1000
structure LexOK (x:Lex):Prop where
 many:x.entries.length≤200∧x.endings.length≤40∧x.clitics.length≤10
 ent:∀ e∈x.entries,EntOK e
 edn:∀ e∈x.endings,EdnOK e
 cli:∀ e∈x.clitics,CliOK e
theorem sndOK_len {s:List UInt8} {n:Int} (h:sndOK s n=true):1≤(s.length:Int)∧(s.length:Int)≤n:=by
 unfold sndOK at h
 simp only [Bool.and_eq_true,decide_eq_true_eq] at h
 exact h.2
theorem lexOK {x:Lex} (h:lexErr x=0):LexOK x:=by
 unfold lexErr at h
 split at h
 ·cases h
 rename_i h1
 split at h
 ·cases h
 rename_i h2
 split at h
 ·cases h
 rename_i h3
 split at h
 ·cases h
 rename_i h4
 refine ⟨by omega,fun e he=>?_,fun e he=>?_,fun e he=>?_⟩
 ·obtain ⟨i,hi⟩:=List.mem_iff_getElem?.1 he
  have:=bads_not (Bool.eq_false_iff.2 h2) i e hi
  unfold entBad at this
  simp only [Bool.or_eq_false_iff,Bool.not_eq_false',Bool.and_eq_false_iff,wthn_iff,decide_eq_true_eq] at this
  exact ⟨this.1.1.1.1,this.1.1.1.2,fun hc=>by rcases this.1.1.2 with h|h;exact absurd h hc;exact h,this.1.2⟩
 ·obtain ⟨i,hi⟩:=List.mem_iff_getElem?.1 he
  have:=bads_not (Bool.eq_false_iff.2 h3) i e hi
  unfold ednBad at this
  simp only [Bool.or_eq_false_iff,Bool.not_eq_false',Bool.and_eq_false_iff,wthn_iff,decide_eq_true_eq] at this
  exact ⟨this.1.1.1.2,this.1.2⟩
 ·obtain ⟨i,hi⟩:=List.mem_iff_getElem?.1 he
  have:=bads_not (Bool.eq_false_iff.2 h4) i e hi
  unfold cliBad at this
  simp only [Bool.or_eq_false_iff,Bool.not_eq_false',Bool.and_eq_false_iff,wthn_iff,decide_eq_true_eq] at this
  exact ⟨this.1.1.1,this.1.2⟩
theorem cliOK_mem {n:Nat}:∀ {l:List Int} {last:Int},cliOK n l last=true→∀ c∈l,last<c∧c<n
 | [],_,_,c,hc=>by cases hc
 | a::t,last,h,c,hc=>by
   unfold cliOK at h
   simp only [Bool.and_eq_true,Bool.not_eq_true',Bool.or_eq_false_iff,decide_eq_false_iff_not] at h
   rcases List.mem_cons.1 hc with rfl|hc
   ·omega
   ·have:=cliOK_mem h.2 c hc
    omega
structure FrmOK (x:Lex) (f:Frm):Prop where
 lex:LexOK x
 entry:0≤f.entry∧f.entry<x.entries.length
 ending:f.ending = -1∨(0≤f.ending∧f.ending<x.endings.length∧(ednAt x f.ending).kind=(entAt x f.entry).kind)
 few:f.clitics.length≤3
 cli:∀ c∈f.clitics,0≤c∧c<x.clitics.length
 up:cliOK x.clitics.length f.clitics (-1)=true
theorem frmOK {x:Lex} {f:Frm} (h:frmErr x f=0):FrmOK x f:=by
 unfold frmErr at h
 split at h
 ·rename_i h0;exact absurd h h0
 rename_i h0
 split at h
 ·cases h
 rename_i h1
 split at h
 ·cases h
 rename_i h2
 split at h
 ·cases h
 rename_i h3
 split at h
 ·rename_i h4
  rw [Bool.not_eq_false,wthn_iff] at h1
  rw [Bool.not_eq_true] at h2
  unfold badEnd at h2
  simp only [Bool.and_eq_false_iff,Bool.or_eq_false_iff,Bool.not_eq_false',wthn_iff,decide_eq_true_eq] at h2
  refine ⟨lexOK (by omega),by omega,?_,by omega,fun c hc=>?_,h4⟩
  ·rcases h2 with h2|h2
   ·exact .inl h2
   ·exact .inr ⟨by omega,by omega,h2.2⟩
  ·have:=cliOK_mem h4 c hc
   omega
 ·cases h
theorem entAt_get {x:Lex} {n:Int} (h0:0≤n) (h1:n<x.entries.length):x.entries[n.toNat]?=some (entAt x n):=by
 have:n.toNat<x.entries.length:=by omega
 unfold entAt
 simp [List.getElem?_eq_getElem this]
theorem ednAt_get {x:Lex} {n:Int} (h0:0≤n) (h1:n<x.endings.length):x.endings[n.toNat]?=some (ednAt x n):=by
 have:n.toNat<x.endings.length:=by omega
 unfold ednAt
 simp [List.getElem?_eq_getElem this]
theorem cliAt_get {x:Lex} {n:Int} (h0:0≤n) (h1:n<x.clitics.length):x.clitics[n.toNat]?=some (cliAt x n):=by
 have:n.toNat<x.clitics.length:=by omega
 unfold cliAt
 simp [List.getElem?_eq_getElem this]
theorem LexOK.entAt {x:Lex} (hx:LexOK x) {n:Int} (h0:0≤n) (h1:n<x.entries.length):EntOK (Wall.entAt x n):=hx.ent _ (List.mem_of_getElem? (entAt_get h0 h1))
theorem LexOK.ednAt {x:Lex} (hx:LexOK x) {n:Int} (h0:0≤n) (h1:n<x.endings.length):EdnOK (Wall.ednAt x n):=hx.edn _ (List.mem_of_getElem? (ednAt_get h0 h1))
theorem LexOK.cliAt {x:Lex} (hx:LexOK x) {n:Int} (h0:0≤n) (h1:n<x.clitics.length):CliOK (Wall.cliAt x n):=hx.cli _ (List.mem_of_getElem? (cliAt_get h0 h1))
def cliW (x:Lex) (l:List Int):Int:=(l.map fun c=>(cliAt x c).weight).sum
def cliT (x:Lex) (l:List Int):List UInt8:=(l.map fun c=>(cliAt x c).text).flatten
def wgtM (x:Lex) (f:Frm):Int:=(entAt x f.entry).weight+(if 0≤f.ending then (ednAt x f.ending).weight else 0)+cliW x f.clitics
theorem cliW_bound {x:Lex} (hx:LexOK x):∀ {l:List Int},(∀ c∈l,0≤c∧c<x.clitics.length)→0≤cliW x l∧cliW x l≤1000*l.length
 | [],_=>by simp [cliW]
 | c::l,h=>by
   have ih:=cliW_bound hx (l:=l) fun d hd=>h d (by simp [hd])
   have hc:=h c (by simp)
   have hw:=(hx.cliAt hc.1 hc.2).weight
   unfold cliW at ih ⊢
   simp only [List.map_cons,List.sum_cons,List.length_cons]
   omega
theorem cliT_bound {x:Lex} (hx:LexOK x):∀ {l:List Int},(∀ c∈l,0≤c∧c<x.clitics.length)→(cliT x l).length≤4*l.length
 | [],_=>by simp [cliT]
 | c::l,h=>by
   have ih:=cliT_bound hx (l:=l) fun d hd=>h d (by simp [hd])
   have hc:=h c (by simp)
   have hw:=sndOK_len (hx.cliAt hc.1 hc.2).text
   unfold cliT at ih ⊢
   simp only [List.map_cons,List.flatten_cons,List.length_append,List.length_cons]
   omega
theorem FrmOK.wgt {x:Lex} {f:Frm} (h:FrmOK x f):0≤wgtM x f∧wgtM x f≤5000:=by
 have h1:=(h.lex.entAt h.entry.1 h.entry.2).weight
 have h2:=cliW_bound h.lex h.cli
 have h3:=h.few
 unfold wgtM
 split
 ·rename_i h4
  have h5:=(h.lex.ednAt h4 (by rcases h.ending with h|h<;>omega)).weight
  omega
 ·omega
theorem take_snoc {α:Type} {l:List α} {i:Nat} {a:α} (h:l[i]?=some a):l.take (i+1)=l.take i++[a]:=by
 rw [List.take_add_one,h];rfl
theorem cliW_snoc {x:Lex} {l:List Int} {c:Int}:cliW x (l++[c])=cliW x l+(cliAt x c).weight:=by
 unfold cliW;simp
theorem cliT_snoc {x:Lex} {l:List Int} {c:Int}:cliT x (l++[c])=cliT x l++(cliAt x c).text:=by
 unfold cliT;simp
def c123:Cfg:=⟨[0,1,2,3,4,5,6,8,12,21,51,55,57,58,59,60,72],[],[],[],[(6,[0,1,2,3,4,5,6,7,8,9,10,11,12,13,14,15,16,17,18,19,20,21,22,23,24,25,26,27,28,29],[])],[]⟩
def c124:Cfg:=⟨[0,1,2,3,4,5,7,17,28,29,30,31],[],[],[],[],[]⟩
def c108:Cfg:=⟨[0,1,2,3,4,5,6,11],[],[],[],[],[]⟩
theorem checkForm (x:Lex) (f:Frm) (hx:LexFit x) (hf:f.clitics.length≤LMAX):QCall Tryz.prog 123 [.agg (encLex x),.agg (encFrm f)] [] (.int .i64 (frmErr x f)):=by
 have hx1:=hx.entries
 have hx2:=hx.endings
 have hx3:=hx.clitics
 unfold LMAX at hx1 hx2 hx3 hf
 refine fcalls (F:=Tryz.f123) c123 rfl rfl rfl mixed rfl fun X=>?_
 conv=>whnf
 repeat (refine QCall.k0 (lexCheck x hx) ?_;conv=>whnf)
 refine ⟨fun hc=>?_,fun hc=>?_⟩<;>simp at hc
 ·conv=>whnf
  exact ⟨by rw [frmErr,if_pos hc],rfl⟩
 conv=>whnf
 repeat ((first|refine QCall.k0 (lwithin _ _ _) ?_|(refine ⟨gP_of ⟨by rw [List.length_map];omega,by rw [List.length_map];omega⟩,?_⟩));conv=>whnf)
 refine ⟨fun hd=>?_,fun hd=>?_⟩
 ·have hd:(!wthn f.entry 0 ((x.entries.map encEnt).length - 1))=true:=hd
  rw [List.length_map,Bool.not_eq_true'] at hd
  conv=>whnf
  exact ⟨by rw [frmErr,if_neg (by omega),if_pos hd],rfl⟩
 have hd:(!wthn f.entry 0 ((x.entries.map encEnt).length - 1))=false:=hd
 rw [List.length_map,Bool.not_eq_false'] at hd
 have hd':=wthn_iff.1 hd
 conv=>whnf
 repeat ((first|(refine ixg (⟨0,[],[],0⟩:Edn) ?_ ?_;(focus (conv=>whnf;skip));(focus (intro g0 g1;simp at g1;show 0≤_∧_<_;omega)))|(refine ixg (⟨[],0,[],0⟩:Ent) ?_ ?_;(focus (conv=>whnf;skip));(focus (intro g0 g1;show 0≤_∧_<_;omega)))|(refine gcall (lwithin _ _ _) ?_)|(refine ⟨gP_of ⟨by rw [List.length_map];omega,by rw [List.length_map];omega⟩,?_⟩)|refine And.intro (by show drawOK (opsAt Tryz.f123 _) _=true;decide +kernel) ?_);conv=>whnf)
 refine ⟨fun he=>?_,fun he=>?_⟩
 ·have he:badEnd x f=true:=by unfold badEnd;rw [← List.length_map (f:=encEdn)];exact he
  conv=>whnf
  exact ⟨by rw [frmErr,if_neg (by omega),if_neg (by rw [hd];decide),if_pos he],rfl⟩
 have he:badEnd x f=false:=by unfold badEnd;rw [← List.length_map (f:=encEdn)];exact he
 conv=>whnf
 refine ⟨fun h3=>?_,fun h3=>?_⟩<;>simp at h3
 ·conv=>whnf
  exact ⟨by rw [frmErr,if_neg (by omega),if_neg (by rw [hd];decide),if_neg (by rw [he];decide),if_pos (by omega)],rfl⟩
 have hg:frmErr x f=if cliOK x.clitics.length f.clitics (-1)=true then 0 else 47:=by rw [frmErr,if_neg (by omega),if_neg (by rw [hd];decide),if_neg (by rw [he];decide),if_neg (by omega)]
 conv=>whnf
 refine sloop rfl mixed [2,6,57,58,59] [] (fun m r h=>∃ (i:Nat) (last:Int),r=[(2,[],.iptr (encLex x)),(6,[],.int .i64 last),(57,[],.sl 1 none (ints f.clitics)),(58,[],.int .i64 (ints f.clitics).length),(59,[],.int .i64 i)]∧h=[]∧m=f.clitics.length - i∧i≤f.clitics.length∧cliOK x.clitics.length f.clitics (-1)=cliOK x.clitics.length (f.clitics.drop i) last) ?_ ?_
 ·conv=>whnf
  exact ⟨_,0,-1,rfl,rfl,rfl,by omega,rfl⟩
 ·rintro m r h ⟨i,last,rfl,rfl,rfl,hi,hb⟩
  conv=>whnf
  refine ⟨fun hi2=>?_,fun hi2=>?_⟩<;>simp at hi2
  ·obtain ⟨c,hc⟩:=get_lt hi2
   rw [drop_cons hc,cliOK] at hb
   conv=>whnf
   repeat (refine ix (by assumption) ?_;conv=>whnf)
   refine ⟨fun hq=>?_,fun hq=>?_⟩
   ·have hq:(decide (c≤last)||decide (((x.clitics.map encCli).length:Int)≤c))=true:=hq
    rw [List.length_map] at hq
    rw [hq] at hb
    conv=>whnf
    exact ⟨by rw [hg,hb];rfl,rfl⟩
   ·have hq:(decide (c≤last)||decide (((x.clitics.map encCli).length:Int)≤c))=false:=hq
    rw [List.length_map] at hq
    rw [hq] at hb
    conv=>whnf
    repeat (refine ⟨gP_of ⟨by omega,by omega⟩,?_⟩;conv=>whnf)
    exact ⟨_,by omega,i+1,c,rfl,rfl,rfl,by omega,hb⟩
  ·rw [drop_nil hi2,cliOK] at hb
   conv=>whnf
   exact ⟨by rw [hg,hb];rfl,rfl⟩
theorem weightW (x:Lex) (f:Frm) (h:FrmOK x f):QCall Tryz.prog 124 [.agg (encLex x),.agg (encFrm f)] [] (.int .i64 (wgtM x f)):=by
 have hfew:=h.few
 have hw1:=(h.lex.entAt h.entry.1 h.entry.2).weight
 refine fcalls (F:=Tryz.f124) c124 rfl rfl rfl mixed rfl fun X=>?_
 conv=>whnf
 repeat ((refine ixn f.entry.toNat (by have:=h.entry;omega) (entAt_get h.entry.1 h.entry.2) ?_);conv=>whnf)
 refine ⟨fun he=>?_,fun he=>?_⟩<;>simp at he
 ·have hel:f.ending<x.endings.length:=by rcases h.ending with h|h<;>omega
  have hw2:=(h.lex.ednAt he hel).weight
  conv=>whnf
  repeat ((first|refine ⟨gP_of ⟨by omega,by omega⟩,?_⟩|(refine ixn f.ending.toNat (by omega) (ednAt_get he hel) ?_));conv=>whnf)
  obtain ⟨n0,hn0⟩:∃ n:Int,n=(entAt x f.entry).weight+(ednAt x f.ending).weight:=⟨_,rfl⟩
  rw [← hn0]
  have hn1:n0=(entAt x f.entry).weight+(if 0≤f.ending then (ednAt x f.ending).weight else 0):=by rw [if_pos he];exact hn0
  replace hn0:=hn1
  refine sloop rfl mixed [2,5,28,29,30] [] (fun m r h=>∃ (i:Nat) (n:Int),r=[(2,[],.iptr (encLex x)),(5,[],.int .i64 n),(28,[],.sl 1 none (ints f.clitics)),(29,[],.int .i64 (ints f.clitics).length),(30,[],.int .i64 i)]∧h=[]∧m=f.clitics.length - i∧i≤f.clitics.length∧n=n0+cliW x (f.clitics.take i)) ?_ ?_
  ·conv=>whnf
   exact ⟨_,0,n0,rfl,rfl,rfl,by omega,by simp [cliW]⟩
  ·rintro m r h ⟨i,n,rfl,rfl,rfl,hi,hn⟩
   conv=>whnf
   refine ⟨fun hi2=>?_,fun hi2=>?_⟩<;>simp at hi2
   ·obtain ⟨c,hc⟩:=get_lt hi2
    have hcc:=h.cli c (List.mem_of_getElem? hc)
    have hcw:=(h.lex.cliAt hcc.1 hcc.2).weight
    have hb:=cliW_bound h.lex (l:=f.clitics.take i) fun d hd=>h.cli d (List.mem_of_mem_take hd)
    rw [List.length_take] at hb
    have hs:=take_snoc hc
    conv=>whnf
    repeat ((first|refine ⟨gP_of ⟨by omega,by omega⟩,?_⟩|refine ix (by assumption) ?_|(refine ixn c.toNat (by omega) (cliAt_get hcc.1 hcc.2) ?_));conv=>whnf)
    exact ⟨_,by omega,i+1,_,rfl,rfl,rfl,by omega,by rw [hs,cliW_snoc];omega⟩
   ·rw [List.take_of_length_le hi2] at hn
    conv=>whnf
    refine ⟨congrArg (AV.int .i64) ?_,rfl⟩
    rw [hn,hn0]
    rfl
 ·conv=>whnf
  obtain ⟨n0,hn0⟩:∃ n:Int,n=(entAt x f.entry).weight:=⟨_,rfl⟩
  rw [← hn0]
  have hn1:n0=(entAt x f.entry).weight+(if 0≤f.ending then (ednAt x f.ending).weight else 0):=by rw [if_neg (by omega)];omega
  replace hn0:=hn1
  refine sloop rfl mixed [2,5,28,29,30] [] (fun m r h=>∃ (i:Nat) (n:Int),r=[(2,[],.iptr (encLex x)),(5,[],.int .i64 n),(28,[],.sl 1 none (ints f.clitics)),(29,[],.int .i64 (ints f.clitics).length),(30,[],.int .i64 i)]∧h=[]∧m=f.clitics.length - i∧i≤f.clitics.length∧n=n0+cliW x (f.clitics.take i)) ?_ ?_
  ·conv=>whnf
   exact ⟨_,0,n0,rfl,rfl,rfl,by omega,by simp [cliW]⟩
  ·rintro m r h ⟨i,n,rfl,rfl,rfl,hi,hn⟩
   conv=>whnf
   refine ⟨fun hi2=>?_,fun hi2=>?_⟩<;>simp at hi2
   ·obtain ⟨c,hc⟩:=get_lt hi2
    have hcc:=h.cli c (List.mem_of_getElem? hc)
    have hcw:=(h.lex.cliAt hcc.1 hcc.2).weight
    have hb:=cliW_bound h.lex (l:=f.clitics.take i) fun d hd=>h.cli d (List.mem_of_mem_take hd)
    rw [List.length_take] at hb
    have hs:=take_snoc hc
    conv=>whnf
    repeat ((first|refine ⟨gP_of ⟨by omega,by omega⟩,?_⟩|refine ix (by assumption) ?_|(refine ixn c.toNat (by omega) (cliAt_get hcc.1 hcc.2) ?_));conv=>whnf)
    exact ⟨_,by omega,i+1,_,rfl,rfl,rfl,by omega,by rw [hs,cliW_snoc];omega⟩
   ·rw [List.take_of_length_le hi2] at hn
    conv=>whnf
    refine ⟨congrArg (AV.int .i64) ?_,rfl⟩
    rw [hn,hn0]
    rfl
theorem WeightW (x:Lex) (f:Frm) (hx:LexFit x) (hf:f.clitics.length≤LMAX):QCall Tryz.prog 108 [.agg (encLex x),.agg (encFrm f)] [] (.tup [.int .i64 (if frmErr x f=0 then wgtM x f else 0),.int .i64 (frmErr x f)]):=by
 refine fcalls (F:=Tryz.f108) c108 rfl rfl rfl mixed rfl fun X=>?_
 conv=>whnf
 repeat (refine QCall.k0 (checkForm x f hx hf) ?_;conv=>whnf)
 refine ⟨fun hc=>?_,fun hc=>?_⟩<;>simp at hc
 ·conv=>whnf
  exact ⟨by rw [if_neg hc],rfl⟩
 ·conv=>whnf
  repeat (refine QCall.k0 (weightW x f (frmOK hc)) ?_;conv=>whnf)
  exact ⟨by rw [if_pos hc,hc],rfl⟩
end Go.Abs.Wall
namespace Go.Abs.Wall
open Go Go.Abs Go.Proofs
def begins (t w:List UInt8):Bool:=decide ((w.length:Int)≤t.length)&&decide (t.take w.length=w)
def endsW (t w:List UInt8):Bool:=decide ((w.length:Int)≤t.length)&&decide (t.drop (t.length - w.length)=w)
def c147:Cfg:=⟨[0,1,4],[],[],[],[],[]⟩
def c126:Cfg:=⟨[0,1,4],[],[],[],[],[]⟩
def c127:Cfg:=⟨[0,1,4],[],[],[],[],[]⟩
def c110:Cfg:=⟨[0,1,4],[],[],[],[],[]⟩
theorem liteP (t w:List UInt8) (ht:t.length≤LMAX) (hw:w.length≤LMAX):QCall Tryz.prog 147 [.str t,.str w] [] (.bool (begins t w)):=by
 unfold LMAX at ht hw
 refine fcalls (F:=Tryz.f147) c147 rfl rfl rfl mixed rfl fun X=>?_
 conv=>whnf
 repeat ((refine And.intro ?_ ?_;(focus ((conv=>whnf);intro g0;have g0:=of_decide_eq_true g0;refine ⟨?_,?_,?_⟩<;>omega)));conv=>whnf)
 exact ⟨rfl,rfl⟩
theorem hasPrefix (t w:List UInt8) (ht:t.length≤LMAX) (hw:w.length≤LMAX):QCall Tryz.prog 126 [.str t,.str w] [] (.bool (begins t w)):=by
 refine fcalls (F:=Tryz.f126) c126 rfl rfl rfl mixed rfl fun X=>?_
 conv=>whnf
 repeat (refine QCall.k0 (liteP t w ht hw) ?_;conv=>whnf)
 exact ⟨rfl,rfl⟩
theorem liteS (t w:List UInt8) (ht:t.length≤LMAX) (hw:w.length≤LMAX):QCall Tryz.prog 127 [.str t,.str w] [] (.bool (endsW t w)):=by
 unfold LMAX at ht hw
 refine fcalls (F:=Tryz.f127) c127 rfl rfl rfl mixed rfl fun X=>?_
 conv=>whnf
 repeat ((first|refine ⟨gP_of ⟨by omega,by omega⟩,?_⟩|(refine And.intro ?_ ?_;(focus ((conv=>whnf);intro g0;have g0:=of_decide_eq_true g0;refine ⟨?_,?_,?_⟩<;>omega))));conv=>whnf)
 refine ⟨congrArg AV.bool ?_,rfl⟩
 unfold endsW
 by_cases h:(w.length:Int)≤t.length
 ·simp only [decide_eq_true h,Bool.true_and]
  rw [List.take_of_length_le (by omega),show ((t.length:Int) - (w.length:Int)).toNat=t.length - w.length by omega]
 ·simp only [decide_eq_false h,Bool.false_and]
theorem hasSuffix (t w:List UInt8) (ht:t.length≤LMAX) (hw:w.length≤LMAX):QCall Tryz.prog 110 [.str t,.str w] [] (.bool (endsW t w)):=by
 refine fcalls (F:=Tryz.f110) c110 rfl rfl rfl mixed rfl fun X=>?_
 conv=>whnf
 repeat (refine QCall.k0 (liteS t w ht hw) ?_;conv=>whnf)
 exact ⟨rfl,rfl⟩
def cmpI (a b:Int):Int:=if a<b then -1 else if b<a then 1 else 0
def cmpS (a b:List UInt8):Int:=if a<b then -1 else if a=b then 0 else 1
def orI:List Int→Int
 | []=>0
 | x::l=>if x≠0 then x else orI l
def c137:Cfg:=⟨[0,2],[],[],[],[],[]⟩
def c146:Cfg:=⟨[0,2],[],[],[],[],[]⟩
def c114:Cfg:=⟨[0,1,4,5,6,11,12,13,16,19],[],[],[],[],[]⟩
def c122:Cfg:=⟨[0,1,4,5,6,11,12,13,16,19],[],[],[],[],[]⟩
def c113:Cfg:=⟨[0,2,3,5,6,7,8,9,14],[],[],[],[],[]⟩
theorem nanI (a:Int):QCall Tryz.prog 137 [.int .i64 a] [] (.bool false):=by
 refine fcalls (F:=Tryz.f137) c137 rfl rfl rfl mixed rfl fun X=>?_
 conv=>whnf
 exact ⟨by simp,rfl⟩
theorem nanS (a:List UInt8):QCall Tryz.prog 146 [.str a] [] (.bool false):=by
 refine fcalls (F:=Tryz.f146) c146 rfl rfl rfl mixed rfl fun X=>?_
 conv=>whnf
 exact ⟨by simp,rfl⟩
theorem compareI (a b:Int):QCall Tryz.prog 114 [.int .i64 a,.int .i64 b] [] (.int .i64 (cmpI a b)):=by
 refine fcalls (F:=Tryz.f114) c114 rfl rfl rfl mixed rfl fun X=>?_
 conv=>whnf
 repeat (refine QCall.k0 (nanI _) ?_;conv=>whnf)
 refine cF rfl ?_
 conv=>whnf
 refine cF rfl ?_
 conv=>whnf
 refine ⟨fun h=>?_,fun h=>?_⟩<;>simp only [decide_eq_true_eq,decide_eq_false_iff_not] at h
 ·conv=>whnf
  exact ⟨by rw [cmpI,if_pos h],rfl⟩
 conv=>whnf
 refine ⟨fun h2=>?_,fun h2=>?_⟩<;>simp only [decide_eq_true_eq,decide_eq_false_iff_not] at h2
 ·conv=>whnf
  exact ⟨by rw [cmpI,if_neg h,if_pos h2],rfl⟩
 ·conv=>whnf
  exact ⟨by rw [cmpI,if_neg h,if_neg h2],rfl⟩
theorem compareS (a b:List UInt8):QCall Tryz.prog 122 [.str a,.str b] [] (.int .i64 (cmpS a b)):=by
 refine fcalls (F:=Tryz.f122) c122 rfl rfl rfl mixed rfl fun X=>?_
 conv=>whnf
 repeat (refine QCall.k0 (nanS _) ?_;conv=>whnf)
 refine cF rfl ?_
 conv=>whnf
 refine cF rfl ?_
 conv=>whnf
 rw [bytesLess_eq]
 refine ⟨fun h=>?_,fun h=>?_⟩<;>simp only [decide_eq_true_eq,decide_eq_false_iff_not] at h
 ·conv=>whnf
  exact ⟨by rw [cmpS,if_pos h],rfl⟩
 conv=>whnf
 rw [bytesLess_eq]
 refine ⟨fun h2=>?_,fun h2=>?_⟩<;>simp [h] at h2
 ·conv=>whnf
  exact ⟨by rw [cmpS,if_neg h,if_neg h2],rfl⟩
 ·conv=>whnf
  exact ⟨by rw [cmpS,if_neg h,if_pos h2],rfl⟩
theorem orW (l:List Int) (hl:l.length≤LMAX):QCall Tryz.prog 113 [.sl 1 none (ints l)] [] (.int .i64 (orI l)):=by
 unfold LMAX at hl
 refine fcalls (F:=Tryz.f113) c113 rfl rfl rfl mixed rfl fun X=>?_
 conv=>whnf
 refine sloop rfl mixed [3,6,7,8] [] (fun m r h=>∃ (i:Nat),r=[(3,[],.int .i64 0),(6,[],.sl 1 none (ints l)),(7,[],.int .i64 (ints l).length),(8,[],.int .i64 i)]∧h=[]∧m=l.length - i∧i≤l.length∧orI l=orI (l.drop i)) ?_ ?_
 ·conv=>whnf
  exact ⟨_,0,rfl,rfl,rfl,by omega,rfl⟩
 ·rintro m r h ⟨i,rfl,rfl,rfl,hi,hb⟩
  conv=>whnf
  refine ⟨fun hi2=>?_,fun hi2=>?_⟩<;>simp at hi2
  ·obtain ⟨c,hc⟩:=get_lt hi2
   rw [drop_cons hc,orI] at hb
   conv=>whnf
   repeat (refine ix (by assumption) ?_;conv=>whnf)
   refine ⟨fun hq=>?_,fun hq=>?_⟩<;>simp at hq
   ·rw [if_pos hq] at hb
    conv=>whnf
    exact ⟨by rw [hb],rfl⟩
   ·rw [if_neg (by simpa using hq)] at hb
    conv=>whnf
    repeat (refine ⟨gP_of ⟨by omega,by omega⟩,?_⟩;conv=>whnf)
    exact ⟨_,by omega,i+1,rfl,rfl,rfl,by omega,hb⟩
  ·rw [drop_nil hi2,orI] at hb
   conv=>whnf
   exact ⟨by rw [hb],rfl⟩
structure Use where
 kind:Int
 text:List UInt8
deriving DecidableEq
def encUse (u:Use):List AV:=[.int .i64 u.kind,.str u.text]
def useCmp (a b:Use):Int:=orI [cmpI a.kind b.kind,cmpS a.text b.text]
def c107:Cfg:=⟨[0,1,2,3,4],[],[],[],[(1,[0,1,2,3,4,5,6,7,8,9,10,11,12],[])],[]⟩
theorem compareUses (a b:Use):QCall Tryz.prog 107 [.agg (encUse a),.agg (encUse b)] [] (.int .i64 (useCmp a b)):=by
 refine fcalls (F:=Tryz.f107) c107 rfl rfl rfl mixed rfl fun X=>?_
 conv=>whnf
 repeat ((first|refine gcall (compareI _ _) ?_|refine gcall (compareS _ _) ?_|refine gcall (orW [cmpI a.kind b.kind,cmpS a.text b.text] (by simp [LMAX])) ?_|refine And.intro (by show drawOK (opsAt Tryz.f107 _) _=true;decide +kernel) ?_);conv=>whnf)
 exact ⟨rfl,rfl⟩
def c90:Cfg:=⟨[0,2,4],[5],[],[],[],[]⟩
def c91:Cfg:=⟨[0,2,4],[5],[],[],[],[]⟩
theorem ints_ne' {l:List Int} (h:l≠[]):ints l≠[]:=by simpa [ints] using h
def CloneP (k:Nat) (xs:List (List AV)) (v:AV) (h:Heap):Prop:=(xs=[]∧v=.nilS∧h=[])∨∃ q,v=.sl k (some q) xs∧h=[(q,.tok)]
theorem cloneIT (l:List Int) (hl:l.length≤AMAX):ACalls Tryz.prog 90 [.sl 1 none (ints l)] [] (CloneP 1 (ints l)):=by
 unfold AMAX at hl
 by_cases h:l=[]
 ·subst h
  refine ACalls.nilOr ?_ ?_
  ·refine fcalls (F:=Tryz.f90) c90 rfl rfl rfl mixed rfl fun X=>?_
   conv=>whnf
   refine ⟨fun hc=>?_,fun hc=>?_⟩
   ·conv=>whnf
    exact .inl ⟨rfl,rfl,rfl⟩
   ·cases hc
  ·refine fcalls (F:=Tryz.f90) c90 rfl rfl rfl mixed rfl fun X=>?_
   conv=>whnf
   refine ⟨fun hc=>?_,fun hc=>?_⟩
   ·cases hc
   ·conv=>whnf
    intro q
    conv=>whnf
    refine ⟨by simp [AMAX],fun q'=>⟨_,.here _,?_⟩⟩
    conv=>whnf
    exact .inr ⟨q',rfl,rfl⟩
 ·refine fcalls (F:=Tryz.f90) c90 rfl rfl rfl mixed rfl fun X=>?_
  conv=>whnf
  refine ⟨ints_ne' h,?_⟩
  conv=>whnf
  refine ⟨fun hc=>?_,fun hc=>?_⟩
  ·cases hc
  ·conv=>whnf
   intro q
   conv=>whnf
   refine ⟨by simp [AMAX];omega,fun q'=>⟨_,.here _,?_⟩⟩
   conv=>whnf
   exact .inr ⟨q',rfl,rfl⟩
theorem CloneP.ok {f:FuncId} {vs:List AV} {k:Nat} {xs:List (List AV)} (hk:0<k) (h:ACalls Tryz.prog f vs [] (CloneP k xs)):QCall Tryz.prog f vs [] (.sl k none xs):=by
 refine QCall.of (ACalls.mono ?_ h)
 rintro v h' (⟨rfl,rfl,rfl⟩|⟨q,rfl,rfl⟩)
 ·exact VLe.nil hk
 ·exact VLe.sl
theorem cloneI (l:List Int) (hl:l.length≤AMAX):QCall Tryz.prog 90 [.sl 1 none (ints l)] [] (.sl 1 none (ints l)):=CloneP.ok (by decide) (cloneIT l hl)
theorem map_flatten_get {l:List Use}:∀ z∈l.map encUse,z.length=2:=by
 intro z hz
 obtain ⟨u,_,rfl⟩:=List.mem_map.1 hz
 rfl
theorem cloneUO (b:Nat) (l:List Use) (Z:List AV) (hl:l.length≤AMAX):QCall Tryz.prog 91 [.osl b 0 l.length 2] [(b,.vec ((l.map encUse).flatten++Z))] (.sl 2 none (l.map encUse)):=by
 refine ACalls.post (R:=fun v h'=>∃ q,v=.sl 2 (some q) (l.map encUse)∧h'=(q,.tok)::[(b,.vec ((l.map encUse).flatten++Z))]) ?_ ?_
 ·refine fcalls (F:=Tryz.f91) c91 rfl rfl rfl mixed rfl fun X=>?_
  conv=>whnf
  refine ⟨fun hc=>?_,fun hc=>?_⟩
  ·cases hc
  ·conv=>whnf
   intro q
   conv=>whnf
   have hfl:((l.map encUse).flatten).length=l.length*2:=by rw [flat_length map_flatten_get,List.length_map]
   refine ⟨_,l.map encUse,.tail _ (.head _),⟨by rw [List.drop_zero,List.take_append_of_le_length (by omega),List.take_of_length_le (by omega)],map_flatten_get,by simp⟩,by simp only [List.nil_append,List.length_map];exact hl,fun q'=>⟨_,.here _,?_⟩⟩
   conv=>whnf
   exact ⟨q',rfl,rfl⟩
 ·rintro v h1 ⟨q,rfl,rfl⟩
  exact ⟨_,_,⟨rfl,rfl⟩,VLe.sl,fun k o hm=>List.mem_cons_of_mem _ hm,fun hnd=>(List.nodup_cons.1 hnd).2⟩
def useEq (a b:Use):Bool:=decide (a.kind=b.kind)&&(decide (a.text=b.text)&&true)
theorem useEq_iff (a b:Use):useEq a b=decide (a=b):=by
 obtain ⟨a1,a2⟩:=a
 obtain ⟨b1,b2⟩:=b
 unfold useEq
 rw [Bool.eq_iff_iff]
 simp
end Go.Abs.Wall
namespace Go.Abs.Wall
open Go Go.Abs Go.Proofs
def sortL {α:Type} (cmp:α→α→Int) (l:List α):List α:=l.mergeSort fun a b=>!decide (cmp b a<0)
structure OrdC {α:Type} (cmp:α→α→Int):Prop where
 irr:∀ x,¬ cmp x x<0
 tr:∀ x y z,cmp x y<0→cmp y z<0→cmp x z<0
 nt:∀ x y z,¬ cmp x y<0→¬ cmp y z<0→¬ cmp x z<0
 anti:∀ x y,¬ cmp x y<0→¬ cmp y x<0→x=y
structure OrdW {α:Type} (cmp:α→α→Int):Prop where
 irr:∀ x,¬ cmp x x<0
 tr:∀ x y z,cmp x y<0→cmp y z<0→cmp x z<0
 nt:∀ x y z,¬ cmp x y<0→¬ cmp y z<0→¬ cmp x z<0
theorem OrdC.w {α:Type} {cmp:α→α→Int} (h:OrdC cmp):OrdW cmp:=⟨h.irr,h.tr,h.nt⟩
theorem sortL_perm {α:Type} {cmp:α→α→Int} {l:List α}:(sortL cmp l).Perm l:=List.mergeSort_perm _ _
theorem OrdW.sorted {α:Type} {cmp:α→α→Int} (h:OrdW cmp) (l:List α):(sortL cmp l).Pairwise fun x y=>¬ cmp y x<0:=by
 have:=List.pairwise_mergeSort (le:=fun a b=>!decide (cmp b a<0)) (by
  intro a b c h1 h2
  simp only [Bool.not_eq_true',decide_eq_false_iff_not] at h1 h2 ⊢
  exact h.nt c b a h2 h1) (by
  intro a b
  simp only [Bool.or_eq_true,Bool.not_eq_true',decide_eq_false_iff_not]
  by_cases hc:cmp b a<0
  ·exact .inr fun h2=>h.irr _ (h.tr _ _ _ hc h2)
  ·exact .inl hc) l
 refine List.Pairwise.imp ?_ this
 intro a b hab
 simpa using hab
theorem OrdW.unique {α:Type} {cmp:α→α→Int} (h:OrdW cmp) {l l':List α} (ha:∀ x∈l,∀ y∈l,¬ cmp x y<0→¬ cmp y x<0→x=y) (hp:l'.Perm l) (hs:l'.Pairwise fun x y=>¬ cmp y x<0):l'=sortL cmp l:=
 List.Perm.eq_of_pairwise (le:=fun x y=>¬ cmp y x<0) (fun a b h3 h4 h1 h2=>ha a (hp.mem_iff.1 h3) b (sortL_perm.mem_iff.1 h4) h2 h1) hs (h.sorted l) (hp.trans sortL_perm.symm)
theorem sortL_length {α:Type} {cmp:α→α→Int} {l:List α}:(sortL cmp l).length=l.length:=sortL_perm.length_eq
theorem sortL_mem {α:Type} {cmp:α→α→Int} {l:List α} {a:α}:a∈sortL cmp l↔a∈l:=sortL_perm.mem_iff
section
variable {f g k:Nat} {α:Type} {enc:α→List AV} {dec:List AV→α}
theorem sortF_encW (hk0:0<k) (hf:Callable Tryz.prog f) (hg:Callable Tryz.prog g) (hs:SortLaw Tryz.prog f g k) (cmp:α→α→Int) (hd:∀ a,dec (enc a)=a) (hk:∀ a,(enc a).length=k) (ho:OrdW cmp) (xs:List α) (ha:∀ x∈xs,∀ y∈xs,¬ cmp x y<0→¬ cmp y x<0→x=y) (hne:xs≠[]) (hlx:xs.length≤4294967296)
  (hcmp:∀ x∈xs,∀ y∈xs,QCall Tryz.prog g [.agg (enc x),.agg (enc y)] [] (.int .i64 (cmp x y))) (b:Nat) :
  ACalls Tryz.prog f [.osl b 0 xs.length k,.fn g []] [(b,.vec (xs.map enc).flatten)] (fun v h'=>v=.tup []∧h'=[(b,.vec ((sortL cmp xs).map enc).flatten)]):=by
 have hinv:∀ x∈xs.map enc,enc (dec x)=x:=by
  intro x hx
  obtain ⟨a,_,rfl⟩:=List.mem_map.1 hx
  rw [hd]
 have h1:=sortF_acalls hk0 hf hg hs (fun x y=>cmp (dec x) (dec y)) (xs.map enc) (by
   intro x hx;obtain ⟨a,_,rfl⟩:=List.mem_map.1 hx;exact hk a) (by simpa using hne) (by simpa using hlx) (by
   intro x hx y hy
   obtain ⟨a,ha,rfl⟩:=List.mem_map.1 hx
   obtain ⟨c,hc,rfl⟩:=List.mem_map.1 hy
   rw [hd,hd];exact hcmp a ha c hc) (fun x _=>ho.irr _) (fun x _ y _ z _=>ho.tr _ _ _) (fun x _ y _ z _=>ho.nt _ _ _) b
 rw [List.length_map] at h1
 refine ACalls.mono ?_ h1
 rintro v h' ⟨rfl,ys,rfl,hp,hy⟩
 refine ⟨rfl,?_⟩
 have hys:ys=(ys.map dec).map enc:=by
  rw [List.map_map]
  symm
  refine (List.map_congr_left fun y hy=>?_).trans (List.map_id _)
  exact hinv y (hp.mem_iff.1 hy)
 have hp2:(ys.map dec).Perm xs:=by
  have:=hp.map dec
  rw [List.map_map] at this
  refine this.trans (List.Perm.of_eq ?_)
  refine (List.map_congr_left fun a _=>?_).trans (List.map_id _)
  exact hd a
 have hs2:(ys.map dec).Pairwise fun x y=>¬ cmp y x<0:=by
  rw [List.pairwise_map];exact hy
 rw [ho.unique ha hp2 hs2] at hys
 rw [hys]
theorem sortF_enc (hk0:0<k) (hf:Callable Tryz.prog f) (hg:Callable Tryz.prog g) (hs:SortLaw Tryz.prog f g k) (cmp:α→α→Int) (hd:∀ a,dec (enc a)=a) (hk:∀ a,(enc a).length=k) (ho:OrdC cmp) (xs:List α) (hne:xs≠[]) (hlx:xs.length≤4294967296)
  (hcmp:∀ x∈xs,∀ y∈xs,QCall Tryz.prog g [.agg (enc x),.agg (enc y)] [] (.int .i64 (cmp x y))) (b:Nat) :
  ACalls Tryz.prog f [.osl b 0 xs.length k,.fn g []] [(b,.vec (xs.map enc).flatten)] (fun v h'=>v=.tup []∧h'=[(b,.vec ((sortL cmp xs).map enc).flatten)]):=
 sortF_encW hk0 hf hg hs cmp hd hk ho.w xs (fun x _ y _=>ho.anti x y) hne hlx hcmp b
end
theorem cmpI_lt {a b:Int}:cmpI a b<0↔a<b:=by unfold cmpI;split<;>(try split)<;>omega
theorem cmpI_zero {a b:Int}:cmpI a b=0↔a=b:=by unfold cmpI;split<;>(try split)<;>omega
theorem cmpS_lt {a b:List UInt8}:cmpS a b<0↔a<b:=by
 unfold cmpS
 by_cases h:a<b
 ·simp [h]
 ·rw [if_neg h];split<;>simp [h]
theorem cmpS_zero {a b:List UInt8}:cmpS a b=0↔a=b:=by
 unfold cmpS
 by_cases h:a<b
 ·rw [if_pos h]
  exact ⟨fun h=>(by cases h),fun e=>(by subst e;exact absurd h (List.lt_irrefl _))⟩
 ·rw [if_neg h];split<;>simp_all
structure OrdZ {α:Type} (c:α→α→Int):Prop where
 zero:∀ x y,c x y=0↔x=y
 sgn:∀ x y,c x y<0↔0<c y x
 tr:∀ x y z,c x y<0→c y z<0→c x z<0
theorem OrdZ.c {α:Type} {c:α→α→Int} (h:OrdZ c):OrdC c:=by
 have hn:∀ x y,¬ c x y<0→x=y∨c y x<0:=by
  intro x y hh
  by_cases hz:c x y=0
  ·exact .inl ((h.zero _ _).1 hz)
  ·exact .inr ((h.sgn y x).2 (by omega))
 have hi:∀ x,¬ c x x<0:=fun x=>by have:=(h.zero x x).2 rfl;omega
 refine ⟨hi,h.tr,fun x y z a b=>?_,fun x y a b=>?_⟩
 ·rcases hn _ _ a with rfl|a
  ·exact b
  ·rcases hn _ _ b with rfl|b
   ·intro hh;exact hi _ (h.tr _ _ _ a hh)
   ·intro hh;exact hi _ (h.tr _ _ _ (h.tr _ _ _ b a) hh)
 ·rcases hn _ _ a with rfl|a
  ·rfl
  ·exact absurd a b
def lexC {β γ:Type} (c1:β→β→Int) (c2:γ→γ→Int) (a b:β × γ):Int:=if c1 a.1 b.1≠0 then c1 a.1 b.1 else c2 a.2 b.2
theorem OrdZ.lexC {β γ:Type} {c1:β→β→Int} {c2:γ→γ→Int} (h1:OrdZ c1) (h2:OrdZ c2):OrdZ (Wall.lexC c1 c2):=by
 have hlt:∀ a b,Wall.lexC c1 c2 a b<0↔c1 a.1 b.1<0∨(a.1=b.1∧c2 a.2 b.2<0):=by
  intro a b
  unfold Wall.lexC
  split
  ·rename_i h
   have:a.1≠b.1:=fun e=>h ((h1.zero _ _).2 e)
   simp [this]
  ·rename_i h
   have e0:c1 a.1 b.1=0:=by simpa using h
   have e:a.1=b.1:=(h1.zero _ _).1 e0
   simp [e] at *
   omega
 have hgt:∀ a b,0<Wall.lexC c1 c2 a b↔0<c1 a.1 b.1∨(a.1=b.1∧0<c2 a.2 b.2):=by
  intro a b
  unfold Wall.lexC
  split
  ·rename_i h
   have:a.1≠b.1:=fun e=>h ((h1.zero _ _).2 e)
   simp [this]
  ·rename_i h
   have e0:c1 a.1 b.1=0:=by simpa using h
   have e:a.1=b.1:=(h1.zero _ _).1 e0
   simp [e] at *
   omega
 refine ⟨fun a b=>?_,fun a b=>?_,fun a b d x y=>?_⟩
 ·unfold Wall.lexC
  split
  ·rename_i h
   exact ⟨fun e=>absurd e h,fun e=>by subst e;exact absurd ((h1.zero _ _).2 rfl) h⟩
  ·rename_i h
   have e:a.1=b.1:=(h1.zero _ _).1 (by simpa using h)
   rw [h2.zero]
   exact ⟨fun e2=>Prod.ext e e2,fun e2=>by rw [e2]⟩
 ·rw [hlt,hgt,h1.sgn,h2.sgn]
  constructor
  ·rintro (h|⟨h,h'⟩)
   ·exact .inl h
   ·exact .inr ⟨h.symm,h'⟩
  ·rintro (h|⟨h,h'⟩)
   ·exact .inl h
   ·exact .inr ⟨h.symm,h'⟩
 ·rw [hlt] at x y ⊢
  rcases x with x|⟨ex,x⟩<;>rcases y with y|⟨ey,y⟩
  ·exact .inl (h1.tr _ _ _ x y)
  ·exact .inl (by rw [← ey];exact x)
  ·exact .inl (by rw [ex];exact y)
  ·exact .inr ⟨ex.trans ey,h2.tr _ _ _ x y⟩
theorem OrdZ.of {α β:Type} {c:β→β→Int} (h:OrdZ c) (f:α→β) (hf:∀ a b,f a=f b→a=b):OrdZ fun a b=>c (f a) (f b):=
 ⟨fun a b=>by rw [h.zero];exact ⟨hf a b,fun e=>by rw [e]⟩,fun a b=>h.sgn _ _,fun a b d=>h.tr _ _ _⟩
def cmpL {α:Type} (c:α→α→Int):List α→List α→Int
 | [],[]=>0
 | [],_::_=>-1
 | _::_,[]=>1
 | a::s,b::t=>if c a b≠0 then c a b else cmpL c s t
theorem OrdZ.cmpL {α:Type} {c:α→α→Int} (h:OrdZ c):OrdZ (Wall.cmpL c):=by
 have hz:∀ x y,Wall.cmpL c x y=0↔x=y:=by
  intro x
  induction x with
  | nil=>intro y;cases y<;>simp [Wall.cmpL]
  | cons a s ih=>
    intro y
    cases y with
    | nil=>simp [Wall.cmpL]
    | cons b t=>
      unfold Wall.cmpL
      split
      ·rename_i hn
       exact ⟨fun e=>absurd e hn,fun e=>by cases e;exact absurd ((h.zero _ _).2 rfl) hn⟩
      ·rename_i hn
       have e:a=b:=(h.zero _ _).1 (by simpa using hn)
       rw [ih];simp [e]
 have hs:∀ x y,Wall.cmpL c x y<0↔0<Wall.cmpL c y x:=by
  intro x
  induction x with
  | nil=>intro y;cases y<;>simp [Wall.cmpL]
  | cons a s ih=>
    intro y
    cases y with
    | nil=>simp [Wall.cmpL]
    | cons b t=>
      unfold Wall.cmpL
      have hzz:c a b=0↔c b a=0:=by rw [h.zero,h.zero];exact ⟨Eq.symm,Eq.symm⟩
      by_cases hn:c a b=0
      ·rw [if_neg (by simpa using hn),if_neg (by simpa using hzz.1 hn)];exact ih t
      ·rw [if_pos hn,if_pos (fun e=>hn (hzz.2 e))];exact h.sgn _ _
 refine ⟨hz,hs,?_⟩
 intro x
 induction x with
 | nil=>
   intro y z h1 h2
   cases y with
   | nil=>simp [Wall.cmpL] at h1
   | cons b t=>cases z with
     | nil=>simp [Wall.cmpL] at h2
     | cons d u=>simp [Wall.cmpL]
 | cons a s ih=>
   intro y z h1 h2
   cases y with
   | nil=>simp [Wall.cmpL] at h1
   | cons b t=>cases z with
     | nil=>simp [Wall.cmpL] at h2
     | cons d u=>
       unfold Wall.cmpL at h1 h2 ⊢
       have hirr:∀ x,¬ c x x<0:=fun x=>by have:=(h.zero x x).2 rfl;omega
       by_cases e1:c a b=0
       ·have e1':=(h.zero _ _).1 e1
        subst e1'
        rw [if_neg (by simpa using e1)] at h1
        by_cases e2:c a d=0
        ·rw [if_neg (by simpa using e2)] at h2 ⊢
         exact ih t u h1 h2
        ·rw [if_pos e2] at h2 ⊢
         exact h2
       ·rw [if_pos e1] at h1
        by_cases e2:c b d=0
        ·have e2':=(h.zero _ _).1 e2
         subst e2'
         rw [if_pos e1];exact h1
        ·rw [if_pos e2] at h2
         have h3:=h.tr _ _ _ h1 h2
         rw [if_pos (by omega)];exact h3
theorem zI:OrdZ cmpI:=⟨fun _ _=>cmpI_zero,fun x y=>by unfold cmpI;split<;>(try split)<;>(try split)<;>omega,fun x y z=>by rw [cmpI_lt,cmpI_lt,cmpI_lt];omega⟩
theorem zS:OrdZ cmpS:=⟨fun _ _=>cmpS_zero,fun x y=>by
  rw [cmpS_lt]
  unfold cmpS
  by_cases h:y<x
  ·rw [if_pos h]
   exact ⟨fun h2=>absurd (List.lt_trans h h2) (List.lt_irrefl _),fun h2=>by omega⟩
  ·rw [if_neg h]
   by_cases e:y=x
   ·rw [if_pos e,e];exact ⟨fun h2=>absurd h2 (List.lt_irrefl _),fun h2=>by omega⟩
   ·rw [if_neg e]
    refine ⟨fun _=>by omega,fun _=>?_⟩
    refine Classical.byContradiction fun hx=>?_
    rw [List.not_lt] at h hx
    exact e (List.le_antisymm hx h),
 fun x y z=>by rw [cmpS_lt,cmpS_lt,cmpS_lt];exact List.lt_trans⟩
theorem orI2 (x y:Int):orI [x,y]=if x≠0 then x else y:=by
 simp only [orI]
 split
 ·rfl
 ·split
  ·rfl
  ·omega
theorem zU:OrdZ useCmp:=by
 have h:=(OrdZ.lexC zI zS).of (fun u:Use=>(u.kind,u.text)) (fun a b h=>by cases a;cases b;simp_all)
 have he:useCmp=fun a b=>lexC cmpI cmpS (a.kind,a.text) (b.kind,b.text):=by
  funext a b
  exact orI2 _ _
 rw [he];exact h
def decUse:List AV→Use
 | [.int _ k,.str t]=>⟨k,t⟩
 | _=>⟨0,[]⟩
def sortU (l:List Use):List Use:=sortL useCmp l
theorem sortLawU:SortLaw Tryz.prog 106 107 2:=
 sortLaw Tryz.sortUse 2 107 Tryz.isAgg155 Tryz.sizeOf155 (fun args w=>run_call ⟨Tryz.f107,_,rfl,rfl,rfl⟩)
def c106:Cfg:=⟨[0,1,4],[],[],[],[],[]⟩
def c121:Cfg:=⟨[0,1,2,3,4,10,11,12,13,14,15,16,17,18,19,20,25,32,39,56,75,80,97,125],[],[],[],[(17,[0,1,2,3,4,5,6,7,8,9,10,11,12,13,14,15,16],[])],[]⟩
def c112:Cfg:=⟨[0,2],[],[],[],[],[]⟩
def c100:Cfg:=⟨[0,2,4,8,14],[],[],[],[],[]⟩
def c138:Cfg:=⟨[0,1,2,3,8,9,14,34],[],[],[],[(4,[0,1,2,3,4,5,6,7,8,9,10,11,12,13,14,15,16],[]),(6,[0,1,2,3,4,5,6,7,8,9,10,11,12,13,14,15,16,17],[])],[]⟩
theorem bitsLen64:QCall Tryz.prog 100 [.int .u64 0] [] (.int .i64 0):=by
 refine fcalls (F:=Tryz.f100) c100 rfl rfl rfl mixed rfl fun X=>?_
 conv=>whnf
 refine cF rfl ?_
 conv=>whnf
 refine cF rfl ?_
 conv=>whnf
 refine cF rfl ?_
 conv=>whnf
 repeat ((first|(refine ⟨0,0,gP_of ⟨rfl,rfl⟩,?_⟩)|(refine ⟨gP_of ⟨by decide,by decide⟩,?_⟩));conv=>whnf)
 exact ⟨rfl,rfl⟩
theorem bitsLen:QCall Tryz.prog 112 [.int .u64 0] [] (.int .i64 0):=by
 refine fcalls (F:=Tryz.f112) c112 rfl rfl rfl mixed rfl fun X=>?_
 conv=>whnf
 refine cF rfl ?_
 conv=>whnf
 repeat (refine QCall.k0 (bitsLen64) ?_;conv=>whnf)
 exact ⟨rfl,rfl⟩
theorem insNil (c:FuncId):QCall Tryz.prog 138 [.nilS,.int .i64 0,.int .i64 0,.fn c []] [] (.tup []):=by
 refine fcalls (F:=Tryz.f138) c138 rfl rfl rfl mixed rfl fun X=>?_
 conv=>whnf
 repeat (refine ⟨gP_of ⟨by omega,by omega⟩,?_⟩;conv=>whnf)
 refine sloop rfl mixed [0,1,2,3,8] [] (fun m r h=>r=[(0,[],.nilS),(1,[],.int .i64 0),(2,[],.int .i64 0),(3,[],.fn c []),(8,[],.int .i64 1)]∧h=[]∧m=0∧True) ?_ ?_
 ·conv=>whnf
  exact ⟨_,rfl,rfl,rfl,trivial⟩
 ·rintro m r h ⟨rfl,rfl,rfl,_⟩
  conv=>whnf
  refine cF rfl ?_
  conv=>whnf
  exact ⟨rfl,rfl⟩
theorem pdqNil (c:FuncId):QCall Tryz.prog 121 [.nilS,.int .i64 0,.int .i64 0,.int .i64 0,.fn c []] [] (.tup []):=by
 refine fcalls (F:=Tryz.f121) c121 rfl rfl rfl mixed rfl fun X=>?_
 conv=>whnf
 skip
 refine sloop rfl mixed [0,1,2,3,4,10,11] [] (fun m r h=>r=[(0,[],.nilS),(1,[],.int .i64 0),(2,[],.int .i64 0),(3,[],.int .i64 0),(4,[],.fn c []),(10,[],.bool true),(11,[],.bool true)]∧h=[]∧m=0∧True) ?_ ?_
 ·conv=>whnf
  exact ⟨_,rfl,rfl,rfl,trivial⟩
 ·rintro m r h ⟨rfl,rfl,rfl,_⟩
  conv=>whnf
  repeat (refine ⟨gP_of ⟨by omega,by omega⟩,?_⟩;conv=>whnf)
  refine cT rfl ?_
  conv=>whnf
  repeat (refine QCall.k0 (insNil c) ?_;conv=>whnf)
  exact ⟨rfl,rfl⟩
theorem sortNilU (c:FuncId):QCall Tryz.prog 106 [.nilO,.fn c []] [] (.tup []):=by
 refine QCall.args (args':=[.nilS,.fn c []]) ?_ (.cons (by intro c u h;simpa [Rep] using h) (.cons (VLe.refl _) .nil))
 refine fcalls (F:=Tryz.f106) c106 rfl rfl rfl mixed rfl fun X=>?_
 conv=>whnf
 repeat ((first|refine QCall.k0 (bitsLen) ?_|refine QCall.k0 (pdqNil c) ?_);conv=>whnf)
 exact ⟨rfl,rfl⟩
theorem sortOwnU (b:Nat) (xs:List Use) (hne:xs≠[]) (hlx:xs.length≤4294967296) :
  ACalls Tryz.prog 106 [.osl b 0 xs.length 2,.fn 107 []] [(b,.vec (xs.map encUse).flatten)] (fun v h'=>v=.tup []∧h'=[(b,.vec ((sortU xs).map encUse).flatten)]):=
 sortF_enc (by decide) ⟨Tryz.f106,_,rfl,rfl,rfl⟩ ⟨Tryz.f107,_,rfl,rfl,rfl⟩ sortLawU useCmp (dec:=decUse) (fun a=>rfl) (fun a=>rfl) zU.c xs hne hlx (fun x _ y _=>compareUses x y) b
end Go.Abs.Wall
namespace Go.Abs.Wall
open Go Go.Abs Go.Proofs
structure Cos where
 spell:Int
 stand:Int
 rpt:Int
 cls:Int
 opn:Int
structure Hou where
 list:Lst
 lex:Lex
 costs:Cos
 period:Int
def encCos (c:Cos):List AV:=[.int .i64 c.spell,.int .i64 c.stand,.int .i64 c.rpt,.int .i64 c.cls,.int .i64 c.opn]
def encHou (H:Hou):List AV:=encLst H.list++(encLex H.lex++(encCos H.costs++[.int .i64 H.period]))
structure HouFit (H:Hou):Prop where
 list:LstFit H.list
 lex:LexFit H.lex
def costL (c:Cos):List Int:=[c.spell,c.stand,c.rpt,c.cls,c.opn]
def houErr (H:Hou):Int:=
 if lstErr H.list≠0 then lstErr H.list
 else if lexErr H.lex≠0 then lexErr H.lex
 else if (costL H.costs).all (wthn · 0 1000)=false then 50
 else if wthn H.period 1 H.list.periods=false then 13
 else 0
def c11:Cfg:=⟨[0,1,2,3,4,6,11,17,34,35,36,37,42,50],[],[],[],[],[]⟩
theorem checkHouse (H:Hou) (hh:HouFit H):QCall Tryz.prog 11 [.agg (encHou H)] [] (.int .i64 (houErr H)):=by
 refine fcalls (F:=Tryz.f11) c11 rfl rfl rfl mixed rfl fun X=>?_
 conv=>whnf
 repeat (refine QCall.k0 (signsCheck H.list hh.list) ?_;conv=>whnf)
 refine ⟨fun hc=>?_,fun hc=>?_⟩<;>simp at hc
 ·conv=>whnf
  exact ⟨by rw [houErr,if_pos hc],rfl⟩
 conv=>whnf
 repeat (refine QCall.k0 (lexCheck H.lex hh.lex) ?_;conv=>whnf)
 refine ⟨fun hd=>?_,fun hd=>?_⟩<;>simp at hd
 ·conv=>whnf
  exact ⟨by rw [houErr,if_neg (by omega),if_pos hd],rfl⟩
 have h0:houErr H=if (costL H.costs).all (wthn · 0 1000)=false then 50 else if wthn H.period 1 H.list.periods=false then 13 else 0:=by rw [houErr,if_neg (by omega),if_neg (by omega)]
 conv=>whnf
 skip
 refine sloop rfl mixed [1,34,35,36] [] (fun m r h=>∃ (i:Nat),r=[(1,[],.iptr (encHou H)),(34,[],.sl 1 none (ints (costL H.costs))),(35,[],.int .i64 5),(36,[],.int .i64 i)]∧h=[]∧m=5 - i∧i≤5∧(costL H.costs).all (wthn · 0 1000)=((costL H.costs).drop i).all (wthn · 0 1000)) ?_ ?_
 ·conv=>whnf
  exact ⟨_,0,rfl,rfl,rfl,by omega,rfl⟩
 ·rintro m r h' ⟨i,rfl,rfl,rfl,hi,hb⟩
  conv=>whnf
  refine ⟨fun hi2=>?_,fun hi2=>?_⟩<;>simp at hi2
  ·obtain ⟨c,hc⟩:=get_lt (l:=costL H.costs) (i:=i) (by show i<5;omega)
   rw [drop_cons hc,List.all_cons] at hb
   conv=>whnf
   repeat ((first|refine ix (by assumption) ?_|refine QCall.k0 (within _ _ _) ?_);conv=>whnf)
   refine ⟨fun hq=>?_,fun hq=>?_⟩
   ·have hq:(!wthn c 0 1000)=true:=hq
    rw [Bool.not_eq_true'] at hq
    rw [hq,Bool.false_and] at hb
    conv=>whnf
    exact ⟨by rw [h0,if_pos hb],rfl⟩
   ·have hq:(!wthn c 0 1000)=false:=hq
    rw [Bool.not_eq_false'] at hq
    rw [hq,Bool.true_and] at hb
    conv=>whnf
    repeat (refine ⟨gP_of ⟨by omega,by omega⟩,?_⟩;conv=>whnf)
    exact ⟨_,by omega,i+1,rfl,rfl,rfl,by omega,hb⟩
  ·rw [drop_nil (by show 5≤i;omega),List.all_nil] at hb
   conv=>whnf
   repeat (refine QCall.k0 (within _ _ _) ?_;conv=>whnf)
   refine ⟨fun hq=>?_,fun hq=>?_⟩
   ·have hq:(!wthn H.period 1 H.list.periods)=true:=hq
    rw [Bool.not_eq_true'] at hq
    conv=>whnf
    exact ⟨by rw [h0,if_neg (by rw [hb];decide),if_pos hq],rfl⟩
   ·have hq:(!wthn H.period 1 H.list.periods)=false:=hq
    rw [Bool.not_eq_false'] at hq
    conv=>whnf
    exact ⟨by rw [h0,if_neg (by rw [hb];decide),if_neg (by rw [hq];decide)],rfl⟩
def lineErr (H:Hou) (line:List Int):Int:=
 if houErr H≠0 then houErr H
 else if 60<line.length then 2
 else if line.any (fun s=>!wthn s 0 ((H.list.signs.length:Int) - 1))=true then 23
 else 0
def c65:Cfg:=⟨[0,1,2,4,5,9,13,16],[],[],[],[],[]⟩
def c85:Cfg:=⟨[0,1,3],[],[],[],[],[]⟩
theorem badSign (H:Hou) (hh:HouFit H) (s:Int):QCall Tryz.prog 85 [.int .i64 s,.iptr (encHou H)] [] (.bool (!wthn s 0 ((H.list.signs.length:Int) - 1))):=by
 have h1:=hh.list.signs
 unfold LMAX at h1
 refine fcalls (F:=Tryz.f85) c85 rfl rfl rfl mixed rfl fun X=>?_
 conv=>whnf
 repeat ((first|refine QCall.k0 (within _ _ _) ?_|(refine ⟨gP_of ⟨by rw [List.length_map];omega,by rw [List.length_map];omega⟩,?_⟩));conv=>whnf)
 refine ⟨?_,rfl⟩
 rw [List.length_map]
 rfl
theorem checkW (H:Hou) (line:List Int) (hh:HouFit H) (hl:line.length≤LMAX):QCall Tryz.prog 65 [.agg (encHou H),.sl 1 none (ints line)] [] (.int .i64 (lineErr H line)):=by
 refine fcalls (F:=Tryz.f65) c65 rfl rfl rfl mixed rfl fun X=>?_
 conv=>whnf
 repeat (refine QCall.k0 (checkHouse H hh) ?_;conv=>whnf)
 refine ⟨fun hc=>?_,fun hc=>?_⟩<;>simp at hc
 ·conv=>whnf
  exact ⟨by rw [lineErr,if_pos hc],rfl⟩
 conv=>whnf
 refine ⟨fun hd=>?_,fun hd=>?_⟩<;>simp at hd
 ·conv=>whnf
  exact ⟨by rw [lineErr,if_neg (by omega),if_pos (by omega)],rfl⟩
 conv=>whnf
 repeat (refine QCall.k0 (containsFuncI line hl 85 [.iptr (encHou H)] (fun s=>!wthn s 0 ((H.list.signs.length:Int) - 1)) (fun s _=>badSign H hh s)) ?_;conv=>whnf)
 refine ⟨fun he=>?_,fun he=>?_⟩
 ·conv=>whnf
  exact ⟨by rw [lineErr,if_neg (by omega),if_neg (by omega),if_pos he],rfl⟩
 ·conv=>whnf
  exact ⟨by rw [lineErr,if_neg (by omega),if_neg (by omega),if_neg (by rw [he];decide)],rfl⟩
def useOf (v:Val):List Use:=
 if v.kind=1 then [⟨1,v.text⟩,⟨3,v.text⟩]
 else if v.kind=2 then [⟨2,v.text⟩]
 else if v.kind=3 then [⟨4,v.text⟩]
 else []
def useGo (p:Int):List Val→List Use
 | []=>[]
 | v::t=>(if wthn p v.fr v.to then useOf v else [])++useGo p t
def usesM (p:Int) (s:Sgn):List Use:=sortU (useGo p s.values)
theorem useOf_len (v:Val):(useOf v).length≤2:=by unfold useOf;split<;>(try split)<;>(try split)<;>simp
theorem useGo_len (p:Int):∀ l:List Val,(useGo p l).length≤2*l.length
 | []=>by simp [useGo]
 | v::t=>by
   have h1:=useGo_len p t
   have h2:=useOf_len v
   unfold useGo
   rw [List.length_append,List.length_cons]
   split
   ·omega
   ·simp;omega
theorem useGo_snoc (p:Int) (v:Val):∀ l:List Val,useGo p (l++[v])=useGo p l++(if wthn p v.fr v.to then useOf v else [])
 | []=>by simp [useGo]
 | a::t=>by
   have:=useGo_snoc p v t
   simp only [List.cons_append,useGo,this,List.append_assoc]
def Row {α:Type} (k:Nat) (enc:α→List AV) (L:List α) (v:AV) (hp:Heap):Prop:=(L=[]∧v=.nilO∧hp=[])∨(L≠[]∧∃ b,v=.osl b 0 L.length k∧hp=[(b,.vec (L.map enc).flatten)])
theorem nil_le_nilO:VLe .nilS .nilO:=by intro c u h;simpa [Rep] using h
theorem nilO_le {k:Nat} (hk:0<k):VLe .nilO (.sl k none []):=by
 intro c u h
 simp only [Rep] at h
 exact VLe.nil hk c u (by simpa [Rep] using h)
theorem enc_len {α:Type} {k:Nat} {enc:α→List AV} {L:List α} (hk:∀ a,(enc a).length=k):((L.map enc).flatten).length=L.length*k:=by
 rw [flat_length (k:=k) (by intro x hx;obtain ⟨a,_,rfl⟩:=List.mem_map.1 hx;exact hk a),List.length_map]
theorem fzEnc {α:Type} {b k n:Nat} {enc:α→List AV} {L:List α} (hk:∀ a,(enc a).length=k) (hn:L.length=n):FzV b (L.map enc).flatten (.osl b 0 n k) (.sl k none (L.map enc)):=
 FzV.row (pre:=[]) (post:=[]) (xs':=[]) (by simp) rfl (by simpa using hn) (by intro x hx;obtain ⟨a,_,rfl⟩:=List.mem_map.1 hx;exact hk a)
theorem Row.ok {α:Type} {f:FuncId} {vs:List AV} {k:Nat} {enc:α→List AV} {L:List α} (hk0:0<k) (hk:∀ a,(enc a).length=k)
  (h:ACalls Tryz.prog f vs [] (fun v h'=>∃ hp Z,Row k enc L v hp∧h'=hp++Z)):QCall Tryz.prog f vs [] (.sl k none (L.map enc)):=by
 refine QCall.of (ACalls.frzOr h ?_)
 rintro v h1 ⟨hp,Z,⟨rfl,rfl,rfl⟩|⟨_,b,rfl,rfl⟩,rfl⟩
 ·exact .inl (nilO_le hk0)
 ·exact .inr ⟨b,_,Z,Z,_,.here _,FzH.refl _,fzEnc hk rfl,VLe.refl _⟩
def c86:Cfg:=⟨[0,1,2,4,6,13,14,15,16,26,28,29,40,48],[],[6],[],[],[]⟩
theorem usesA (H:Hou) (n:Int) (s:Sgn) (h0:0≤n) (hs:H.list.signs[n.toNat]?=some s) (hv:s.values.length≤1048576) :
  ACalls Tryz.prog 86 [.agg (encHou H),.int .i64 n] [] (fun v h'=>∃ hp Z,Row 2 encUse (usesM H.period s) v hp∧h'=hp++Z):=by
 refine fcalls (F:=Tryz.f86) c86 rfl rfl rfl mixed rfl fun X=>?_
 conv=>whnf
 repeat ((refine ixn n.toNat (by omega) hs ?_);conv=>whnf)
 refine tloop rfl mixed [2,4,13,14,15] [] (fun m r h=>∃ (i:Nat) (v:AV) (hp:Heap),r=[(2,[],.iptr (encHou H)),(4,[],v),(13,[],.sl 4 none (s.values.map encVal)),(14,[],.int .i64 (s.values.map encVal).length),(15,[],.int .i64 i)]∧h=hp∧m=s.values.length - i∧i≤s.values.length∧Row 2 encUse (useGo H.period (s.values.take i)) v hp) ?_ ?_
 ·conv=>whnf
  exact ⟨_,_,Turn.weak (.cons (VLe.refl _) (.cons nil_le_nilO (RLe.refl _))),_,0,_,_,rfl,rfl,rfl,by omega,.inl ⟨rfl,rfl,rfl⟩⟩
 ·rintro m r h' ⟨i,v,hp,rfl,rfl,rfl,hi,hr⟩
  conv=>whnf
  refine ⟨fun hi2=>?_,fun hi2=>?_⟩<;>simp at hi2
  ·obtain ⟨x,hx⟩:=get_lt hi2
   have hsn:=useGo_snoc H.period x (s.values.take i)
   rw [← take_snoc hx] at hsn
   have hbd:(useGo H.period (s.values.take i)).length+2≤AMAX:=by
    have:=useGo_len H.period (s.values.take i)
    rw [List.length_take] at this
    unfold AMAX;omega
   conv=>whnf
   repeat ((first|refine ix (by assumption) ?_|refine QCall.k0 (within _ _ _) ?_|refine ⟨_,_,Rem.here _,⟨Nat.le_of_ble_eq_true rfl,rfl⟩,?_⟩|intro (nb:Nat));conv=>whnf)
   refine ⟨fun hq=>?_,fun hq=>?_⟩
   ·have hq:(!wthn H.period x.fr x.to)=true:=hq
    rw [Bool.not_eq_true'] at hq
    rw [hq] at hsn
    simp only [Bool.false_eq_true,if_false,List.append_nil] at hsn
    conv=>whnf
    repeat (refine ⟨gP_of ⟨by omega,by omega⟩,?_⟩;conv=>whnf)
    exact ⟨_,_,Turn.refl _ _,_,by omega,i+1,_,_,rfl,rfl,rfl,by omega,by rw [hsn];exact hr⟩
   have hq:(!wthn H.period x.fr x.to)=false:=hq
   rw [Bool.not_eq_false'] at hq
   rw [hq,if_pos rfl,useOf] at hsn
   conv=>whnf
   refine ⟨fun hk=>?_,fun hk=>?_⟩<;>simp only [decide_eq_true_eq,decide_eq_false_iff_not] at hk
   ·rw [if_pos hk] at hsn
    rcases hr with ⟨he,rfl,rfl⟩|⟨hne,b,rfl,rfl⟩
    ·conv=>whnf
     repeat ((first|refine ⟨gP_of ⟨by omega,by omega⟩,?_⟩|(refine ⟨⟨Nat.le_of_ble_eq_true rfl,Nat.le_of_ble_eq_true rfl⟩,fun b'=>?_⟩));conv=>whnf)
     refine ⟨_,_,Turn.refl _ _,_,by omega,i+1,_,_,rfl,rfl,rfl,by omega,?_⟩
     rw [hsn,he]
     exact .inr ⟨by simp,b',rfl,rfl⟩
    ·conv=>whnf
     repeat ((first|refine ⟨gP_of ⟨by omega,by omega⟩,?_⟩|(refine ⟨_,.head _,⟨enc_len (fun _=>rfl),Nat.le_trans (Nat.add_le_add_left (Nat.le_of_ble_eq_true rfl) _) hbd⟩,fun b'=>⟨_,.here _,?_⟩⟩));conv=>whnf)
     refine ⟨_,_,Turn.refl _ _,_,by omega,i+1,_,_,rfl,rfl,rfl,by omega,?_⟩
     rw [hsn]
     refine .inr ⟨by simp,b',?_,?_⟩
     ·rw [List.length_append];rfl
     ·rw [List.map_append,List.flatten_append];rfl
   rw [if_neg hk] at hsn
   conv=>whnf
   refine ⟨fun hk2=>?_,fun hk2=>?_⟩<;>simp only [decide_eq_true_eq,decide_eq_false_iff_not] at hk2
   ·rw [if_pos hk2] at hsn
    rcases hr with ⟨he,rfl,rfl⟩|⟨hne,b,rfl,rfl⟩
    ·conv=>whnf
     repeat ((first|refine ⟨gP_of ⟨by omega,by omega⟩,?_⟩|(refine ⟨⟨Nat.le_of_ble_eq_true rfl,Nat.le_of_ble_eq_true rfl⟩,fun b'=>?_⟩));conv=>whnf)
     refine ⟨_,_,Turn.refl _ _,_,by omega,i+1,_,_,rfl,rfl,rfl,by omega,?_⟩
     rw [hsn,he]
     exact .inr ⟨by simp,b',rfl,rfl⟩
    ·conv=>whnf
     repeat ((first|refine ⟨gP_of ⟨by omega,by omega⟩,?_⟩|(refine ⟨_,.head _,⟨enc_len (fun _=>rfl),Nat.le_trans (Nat.add_le_add_left (Nat.le_of_ble_eq_true rfl) _) hbd⟩,fun b'=>⟨_,.here _,?_⟩⟩));conv=>whnf)
     refine ⟨_,_,Turn.refl _ _,_,by omega,i+1,_,_,rfl,rfl,rfl,by omega,?_⟩
     rw [hsn]
     refine .inr ⟨by simp,b',?_,?_⟩
     ·rw [List.length_append];rfl
     ·rw [List.map_append,List.flatten_append];rfl
   rw [if_neg hk2] at hsn
   conv=>whnf
   refine ⟨fun hk3=>?_,fun hk3=>?_⟩<;>simp only [decide_eq_true_eq,decide_eq_false_iff_not] at hk3
   ·rw [if_pos hk3] at hsn
    rcases hr with ⟨he,rfl,rfl⟩|⟨hne,b,rfl,rfl⟩
    ·conv=>whnf
     repeat ((first|refine ⟨gP_of ⟨by omega,by omega⟩,?_⟩|(refine ⟨⟨Nat.le_of_ble_eq_true rfl,Nat.le_of_ble_eq_true rfl⟩,fun b'=>?_⟩));conv=>whnf)
     refine ⟨_,_,Turn.refl _ _,_,by omega,i+1,_,_,rfl,rfl,rfl,by omega,?_⟩
     rw [hsn,he]
     exact .inr ⟨by simp,b',rfl,rfl⟩
    ·conv=>whnf
     repeat ((first|refine ⟨gP_of ⟨by omega,by omega⟩,?_⟩|(refine ⟨_,.head _,⟨enc_len (fun _=>rfl),Nat.le_trans (Nat.add_le_add_left (Nat.le_of_ble_eq_true rfl) _) hbd⟩,fun b'=>⟨_,.here _,?_⟩⟩));conv=>whnf)
     refine ⟨_,_,Turn.refl _ _,_,by omega,i+1,_,_,rfl,rfl,rfl,by omega,?_⟩
     rw [hsn]
     refine .inr ⟨by simp,b',?_,?_⟩
     ·rw [List.length_append];rfl
     ·rw [List.map_append,List.flatten_append];rfl
   rw [if_neg hk3,List.append_nil] at hsn
   conv=>whnf
   repeat (refine ⟨gP_of ⟨by omega,by omega⟩,?_⟩;conv=>whnf)
   exact ⟨_,_,Turn.refl _ _,_,by omega,i+1,_,_,rfl,rfl,rfl,by omega,by rw [hsn];exact hr⟩
  ·rw [List.take_of_length_le hi2] at hr
   have hbd:(useGo H.period s.values).length≤4294967296:=by
    have:=useGo_len H.period s.values
    omega
   rcases hr with ⟨he,rfl,rfl⟩|⟨hne,b,rfl,rfl⟩
   ·conv=>whnf
    repeat (refine QCall.k0 (sortNilU _) ?_;conv=>whnf)
    exact ⟨[],[],.inl ⟨by unfold usesM;rw [he];simp [sortU,sortL],rfl,rfl⟩,rfl⟩
   ·conv=>whnf
    skip
    refine ACalls.mono ?_ (sortOwnU b _ hne hbd)
    rintro v h1 ⟨rfl,rfl⟩
    conv=>whnf
    skip
    exact ⟨_,[],.inr ⟨by intro h;have:=congrArg List.length h;rw [usesM,sortU,sortL_length] at this;exact hne (List.eq_nil_of_length_eq_zero this),b,by rw [usesM,sortU,sortL_length],rfl⟩,by rw [List.append_nil];rfl⟩
theorem usesW (H:Hou) (n:Int) (s:Sgn) (h0:0≤n) (hs:H.list.signs[n.toNat]?=some s) (hv:s.values.length≤1048576) :
  QCall Tryz.prog 86 [.agg (encHou H),.int .i64 n] [] (.sl 2 none ((usesM H.period s).map encUse)):=Row.ok (by decide) (fun _=>rfl) (usesA H n s h0 hs hv)
end Go.Abs.Wall
namespace Go.Abs.Wall
open Go Go.Abs Go.Proofs
structure Sp where
 H:Hou
 e:Ent
 body:List UInt8
structure Prg where
 sounds:List UInt8
 closed:Bool
 cl:List Int
 last:Use
deriving DecidableEq
def encSp (s:Sp):List AV:=encHou s.H++(encEnt s.e++[.str s.body])
def encPrg (p:Prg):List AV:=[.str p.sounds,.int .i64 0,.bool p.closed,.sl 1 none (ints p.cl),.int .i64 p.last.kind,.str p.last.text]
def tot (s:Sp) (cl:List Int):List UInt8:=s.body++cliT s.H.lex cl
structure SpOK (s:Sp):Prop where
 lex:LexOK s.H.lex
 body:1≤s.body.length∧s.body.length≤12
 root:s.e.root.length≤s.body.length
structure PrgOK (s:Sp) (p:Prg):Prop where
 few:p.cl.length≤3
 cli:∀ c∈p.cl,0≤c∧c<s.H.lex.clitics.length
 sounds:p.sounds.length≤(tot s p.cl).length
 new:p.last.kind=0→p.cl=[]∧p.sounds=[]
theorem SpOK.tot {s:Sp} (h:SpOK s) {cl:List Int} (hc:∀ c∈cl,0≤c∧c<s.H.lex.clitics.length):(Wall.tot s cl).length≤12+4*cl.length:=by
 have h1:=h.body
 have h2:=cliT_bound h.lex hc
 unfold Wall.tot
 rw [List.length_append]
 omega
theorem tot_snoc (s:Sp) (cl:List Int) (c:Int):tot s (cl++[c])=tot s cl++(cliAt s.H.lex c).text:=by
 unfold tot
 rw [cliT_snoc,List.append_assoc]
def c89:Cfg:=⟨[0,1,3,4,5,7,14,15,16,17],[],[],[],[],[]⟩
def c125:Cfg:=⟨[0,1,3,4,5,7,11,25,26,27,28],[],[],[],[(2,[0,1,2,3,4,5,6,7,8],[])],[]⟩
theorem endsA (s:Sp) (p:Prg) (hs:SpOK s) (hp:PrgOK s p):QCall Tryz.prog 89 [.iptr (encSp s),.agg (encPrg p)] [] (.bool (decide (p.sounds.length=(tot s p.cl).length))):=by
 have hb:=hs.body
 have hfew:=hp.few
 refine fcalls (F:=Tryz.f89) c89 rfl rfl rfl mixed rfl fun X=>?_
 conv=>whnf
 refine sloop rfl mixed [0,3,5,14,15,16] [] (fun m r h=>∃ (i:Nat) (n:Int),r=[(0,[],.iptr (encSp s)),(3,[],.iptr (encPrg p)),(5,[],.int .i64 n),(14,[],.sl 1 none (ints p.cl)),(15,[],.int .i64 (ints p.cl).length),(16,[],.int .i64 i)]∧h=[]∧m=p.cl.length - i∧i≤p.cl.length∧n=(tot s (p.cl.take i)).length) ?_ ?_
 ·conv=>whnf
  exact ⟨_,0,_,rfl,rfl,rfl,by omega,by simp [tot,cliT]⟩
 ·rintro m r h' ⟨i,n,rfl,rfl,rfl,hi,hn⟩
  conv=>whnf
  refine ⟨fun hi2=>?_,fun hi2=>?_⟩<;>simp at hi2
  ·obtain ⟨c,hc⟩:=get_lt hi2
   have hcc:=hp.cli c (List.mem_of_getElem? hc)
   have hcw:=sndOK_len (hs.lex.cliAt hcc.1 hcc.2).text
   have hb:=hs.tot (cl:=p.cl.take i) fun d hd=>hp.cli d (List.mem_of_mem_take hd)
   rw [List.length_take] at hb
   have hs':=take_snoc hc
   conv=>whnf
   repeat ((first|refine ⟨gP_of ⟨by omega,by omega⟩,?_⟩|refine ix (by assumption) ?_|(refine ixn c.toNat (by omega) (cliAt_get hcc.1 hcc.2) ?_));conv=>whnf)
   exact ⟨_,by omega,i+1,_,rfl,rfl,rfl,by omega,by rw [hs',tot_snoc,List.length_append,hn];omega⟩
  ·rw [List.take_of_length_le hi2] at hn
   conv=>whnf
   refine ⟨congrArg AV.bool ?_,rfl⟩
   rw [hn,decide_eq_decide]
   omega
theorem partA (s:Sp) (p:Prg) (hs:SpOK s) (hp:PrgOK s p):QCall Tryz.prog 125 [.iptr (encSp s),.agg (encPrg p)] [] (.str ((tot s p.cl).drop p.sounds.length)):=by
 have hb:=hs.body
 have hfew:=hp.few
 have hsn:=hp.sounds
 refine fcalls (F:=Tryz.f125) c125 rfl rfl rfl mixed rfl fun X=>?_
 conv=>whnf
 refine ⟨fun hc=>?_,fun hc=>?_⟩<;>simp at hc
 ·have ht:tot s p.cl=s.body:=by rw [hc];simp [tot,cliT]
  rw [ht] at hsn ⊢
  conv=>whnf
  repeat ((first|refine ⟨gP_of ⟨by omega,by omega⟩,?_⟩|refine And.intro (by show drawOK (opsAt Tryz.f125 _) _=true;decide +kernel) ?_);conv=>whnf)
  refine ⟨congrArg AV.str ?_,rfl⟩
  rw [List.take_of_length_le (by omega)]
  rfl
 ·conv=>whnf
  skip
  refine sloop rfl mixed [0,3,5,25,26,27] [] (fun m r h=>∃ (i:Nat) (t:List UInt8),r=[(0,[],.iptr (encSp s)),(3,[],.iptr (encPrg p)),(5,[],.str t),(25,[],.sl 1 none (ints p.cl)),(26,[],.int .i64 (ints p.cl).length),(27,[],.int .i64 i)]∧h=[]∧m=p.cl.length - i∧i≤p.cl.length∧t=tot s (p.cl.take i)) ?_ ?_
  ·conv=>whnf
   exact ⟨_,0,_,rfl,rfl,rfl,by omega,by simp [tot,cliT]⟩
  ·rintro m r h' ⟨i,t,rfl,rfl,rfl,hi,hn⟩
   conv=>whnf
   refine ⟨fun hi2=>?_,fun hi2=>?_⟩<;>simp at hi2
   ·obtain ⟨c,hc⟩:=get_lt hi2
    have hcc:=hp.cli c (List.mem_of_getElem? hc)
    have hcw:=sndOK_len (hs.lex.cliAt hcc.1 hcc.2).text
    have hb:=hs.tot (cl:=p.cl.take i) fun d hd=>hp.cli d (List.mem_of_mem_take hd)
    rw [List.length_take] at hb
    have hs':=take_snoc hc
    have hl:(t++(cliAt s.H.lex c).text).length≤LMAX:=by rw [hn];simp [LMAX];omega
    conv=>whnf
    repeat ((first|refine ⟨gP_of ⟨by omega,by omega⟩,?_⟩|refine ix (by assumption) ?_|(refine ixn c.toNat (by omega) (cliAt_get hcc.1 hcc.2) ?_)|(refine ⟨gP_of hl,?_⟩));conv=>whnf)
    exact ⟨_,by omega,i+1,_,rfl,rfl,rfl,by omega,by rw [hs',tot_snoc,hn]⟩
   ·rw [List.take_of_length_le hi2] at hn
    subst hn
    conv=>whnf
    repeat (refine ⟨gP_of ⟨by omega,by omega⟩,?_⟩;conv=>whnf)
    refine ⟨congrArg AV.str ?_,rfl⟩
    rw [List.take_of_length_le (by omega)]
    rfl
end Go.Abs.Wall
