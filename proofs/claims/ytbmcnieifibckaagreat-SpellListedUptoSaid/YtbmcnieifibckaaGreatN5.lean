/- What is proved: small laws for the walks of this seat, and contracts of its functions. No condition but those each theorem names. -/
import Derived.Test.YtbmcnieifibckaaGreatN4
import Derived.Laws.RangeAny
import Derived.Sort.Walk0
set_option maxRecDepth 100000
set_option maxHeartbeats 2000000
set_option linter.unusedVariables false
set_option linter.unusedSimpArgs false
namespace Go.Abs.Wall
open Go Go.Abs Go.Proofs
def sP (y:UInt8):Bool:=small y||lS y
def Di (c:Int):Bool:=(decide (97<=c)&&decide (c<=122))||(decide (65<=c)&&decide (c<=90))
def Dj (c:Int):Bool:=decide (c<97)||decide (122<c)
theorem RQ {s:List UInt8} {pos:Nat} {y:UInt8} (h:s[pos]?=some y):(y.toNat<128/\kz s pos=(y.toNat,1))\/(128<=y.toNat/\128<=(kz s pos).1/\1<=(kz s pos).2):=by
 obtain ⟨h1,h2⟩:=List.getElem?_eq_some_iff.1 h;have hs:pos<(⟨s.toArray⟩:ByteArray).size:=h1;have hg:(⟨s.toArray⟩:ByteArray)[pos]'hs=y:=h2;by_cases hy:y.toNat<128
 ·refine .inl ⟨hy,?_⟩;unfold kz;rw [decode_ascii _ pos hs (by rw [hg];exact hy),hg]
 refine .inr ⟨by omega,?_⟩;have:=decode_high (⟨s.toArray⟩:ByteArray) pos hs (by rw [hg];omega);exact this
theorem n9 {s:List UInt8} {pos:Nat} {y:UInt8} (h:s[pos]?=some y):Di ((kz s pos).1:Int)=sP y/\(sP y=true->(kz s pos).2=1):=by
 rcases RQ h with ⟨h1,h2⟩|⟨h1,h2,h3⟩
 ·rw [h2];refine ⟨?_,fun _=>rfl⟩;unfold Di sP small lS;rw [<- wU,<- wU,<- wV,<- wV];rfl
 have e1:sP y=false:=by unfold sP small lS;simp only [Bool.or_eq_false_iff,Bool.and_eq_false_iff,decide_eq_false_iff_not];omega
 rw [e1];refine ⟨?_,fun h=>by cases h⟩;unfold Di;simp only [Bool.or_eq_false_iff,Bool.and_eq_false_iff,decide_eq_false_iff_not];omega
theorem o0 {s:List UInt8} {pos:Nat} {y:UInt8} (h:s[pos]?=some y):Dj ((kz s pos).1:Int)=!small y/\(small y=true->(kz s pos).2=1):=by
 rcases RQ h with ⟨h1,h2⟩|⟨h1,h2,h3⟩
 ·rw [h2];refine ⟨?_,fun _=>rfl⟩;unfold Dj small;rw [Bool.eq_iff_iff];simp;omega
 have e1:small y=false:=by unfold small;simp only [Bool.and_eq_false_iff,decide_eq_false_iff_not];omega
 rw [e1];refine ⟨?_,fun h=>by cases h⟩;unfold Dj;simp;omega
def nN (s:List UInt8) (most:Int):Bool:=s.all sP&&(decide (1<=(s.length:Int))&&decide ((s.length:Int)<=most))
def rn (s:List UInt8):Bool:=s.all small&&(decide (1<=(s.length:Int))&&decide ((s.length:Int)<=8))
def c183:aw:=⟨[0,1,4,6,8,9,10,26],[],[],[],[],[]⟩
def c184:aw:=⟨[0,2,4,6,7,8,15],[],[],[],[],[]⟩
theorem KO (s:List UInt8) (most:Int) (hs:s.length<=aq):ae Tryz.prog 183 [.str s,.int .i64 most] [] (.bool (nN s most)):=by
 unfold aq at hs;refine ae.yk ?_;refine aG (F:=Tryz.f183) c183 rfl rfl rfl mixed rfl fun X=>?_;(conv=>whnf);intro it;(conv=>whnf);refine bM rfl mixed [0,1,8] [] (fun m r h=>∃ (pos:Nat),r=[(0,[],.str s),(1,[],.int .i64 most),(8,[],.sU it)]/\h=[(it,.nT s pos)]/\m=s.length - pos/\pos<=s.length/\s.all sP=(s.drop pos).all sP) ?_ ?_
 ·(conv=>whnf);exact ⟨_,0,rfl,rfl,rfl,by omega,rfl⟩
 rintro m r h ⟨pos,rfl,rfl,rfl,hp,ha⟩;(conv=>whnf);refine ⟨s,pos,.head _,fun hf=>?_,fun hf=>⟨_,.here _,?_⟩⟩
 ·rw [List.drop_eq_nil_of_le hf,List.all_nil] at ha;(conv=>whnf);refine cF rfl ?_;(conv=>whnf);skip;unfold nN;rw [ha];rfl
 obtain ⟨y,hy⟩:=aN hf;obtain ⟨h1,h2⟩:=n9 hy;rw [List.drop_eq_getElem_cons hf,List.all_cons,(List.getElem?_eq_some_iff.1 hy).2] at ha;(conv=>whnf);refine cT rfl ?_;(conv=>whnf);skip;refine ⟨fun hq=>?_,fun hq=>?_⟩
 ·have hq:(!Di ((kz s pos).1:Int))=true:=hq;have hl:sP y=false:=by rw [<- h1];simpa using hq
  (conv=>whnf);skip;unfold nN;rw [ha,hl];rfl
 have hq:(!Di ((kz s pos).1:Int))=false:=hq;have hl:sP y=true:=by rw [<- h1];simpa using hq
 rw [hl,Bool.true_and] at ha;(conv=>whnf);skip;rw [h2 hl];exact ⟨_,by omega,pos+1,rfl,rfl,rfl,by omega,ha⟩
theorem KP (s:List UInt8) (hs:s.length<=aq):ae Tryz.prog 184 [.str s] [] (.bool (rn s)):=by
 unfold aq at hs;refine ae.yk ?_;refine aG (F:=Tryz.f184) c184 rfl rfl rfl mixed rfl fun X=>?_;(conv=>whnf);intro it;(conv=>whnf);refine bM rfl mixed [0,6] [] (fun m r h=>∃ (pos:Nat),r=[(0,[],.str s),(6,[],.sU it)]/\h=[(it,.nT s pos)]/\m=s.length - pos/\pos<=s.length/\s.all small=(s.drop pos).all small) ?_ ?_
 ·(conv=>whnf);exact ⟨_,0,rfl,rfl,rfl,by omega,rfl⟩
 rintro m r h ⟨pos,rfl,rfl,rfl,hp,ha⟩;(conv=>whnf);refine ⟨s,pos,.head _,fun hf=>?_,fun hf=>⟨_,.here _,?_⟩⟩
 ·rw [List.drop_eq_nil_of_le hf,List.all_nil] at ha;(conv=>whnf);refine cF rfl ?_;(conv=>whnf);skip;unfold rn;rw [ha];rfl
 obtain ⟨y,hy⟩:=aN hf;obtain ⟨h1,h2⟩:=o0 hy;rw [List.drop_eq_getElem_cons hf,List.all_cons,(List.getElem?_eq_some_iff.1 hy).2] at ha;(conv=>whnf);refine cT rfl ?_;(conv=>whnf);skip;refine ⟨fun hq=>?_,fun hq=>?_⟩
 ·have hq:Dj ((kz s pos).1:Int)=true:=hq;have hl:small y=false:=by rw [h1] at hq;simpa using hq
  (conv=>whnf);skip;unfold rn;rw [ha,hl];rfl
 have hq:Dj ((kz s pos).1:Int)=false:=hq;have hl:small y=true:=by rw [h1] at hq;simpa using hq
 rw [hl,Bool.true_and] at ha;(conv=>whnf);skip;rw [h2 hl];exact ⟨_,by omega,pos+1,rfl,rfl,rfl,by omega,ha⟩
end Go.Abs.Wall
namespace Go.Abs.Wall
open Go Go.Abs Go.Proofs
structure kB where
 root:List UInt8
 kind:Int
 cls:List UInt8
 weight:Int
deriving DecidableEq
structure lp where
 kind:Int
 text:List UInt8
 name:List UInt8
 weight:Int
deriving DecidableEq
structure iO where
 text:List UInt8
 name:List UInt8
 weight:Int
deriving DecidableEq
structure Lex where
 entries:List kB
 bL:List lp
 ah:List iO
def fu (e:kB):List AV:=[.str e.root,.int .i64 e.kind,.str e.cls,.int .i64 e.weight]
def iL (e:lp):List AV:=[.int .i64 e.kind,.str e.text,.str e.name,.int .i64 e.weight]
def gI (e:iO):List AV:=[.str e.text,.str e.name,.int .i64 e.weight]
def eV (x:Lex):List AV:=[.sl 4 none (x.entries.map fu),.sl 4 none (x.bL.map iL),.sl 3 none (x.ah.map gI)]
structure RR (e:kB):Prop where
 root:e.root.length<=aq
 cls:e.cls.length<=aq
structure RT (e:lp):Prop where
 text:e.text.length<=aq
 name:e.name.length<=aq
structure RU (e:iO):Prop where
 text:e.text.length<=aq
 name:e.name.length<=aq
structure rh (x:Lex):Prop where
 entries:x.entries.length<=aq
 bL:x.bL.length<=aq
 ah:x.ah.length<=aq
 dv:∀ e∈x.entries,RR e
 AB:∀ e∈x.bL,RT e
 dO:∀ e∈x.ah,RU e
def bG (n lo hi:Int):Bool:=decide (lo<=n)&&decide (n<=hi)
def vz (w v:kB):Bool:=decide (v.root=w.root)&&decide (v.kind=w.kind)&&decide (v.cls=w.cls)
def vA (w v:lp):Bool:=decide (v.kind=w.kind)&&decide (v.name=w.name)
def vB (w v:iO):Bool:=decide (v.name=w.name)
def rp (before:List kB) (w:kB):Bool:=!nN w.root 8||!bG w.kind 1 9||(!decide (w.cls=[])&&!rn w.cls)||!bG w.weight 0 1000||before.any (vz w)
def pH (before:List lp) (w:lp):Bool:=!bG w.kind 1 9||!nN w.text 4||!rn w.name||!bG w.weight 0 1000||before.any (vA w)
def nO (before:List iO) (w:iO):Bool:=!nN w.text 4||!rn w.name||!bG w.weight 0 1000||before.any (vB w)
def jR {α:Type} (bad:List α->α->Bool) (l:List α):List α->Nat->Bool
 | [],_=>false
 | w::t,i=>bad (l.take i) w||jR bad l t (i+1)
def jS {α:Type} (bad:List α->α->Bool) (l:List α):Bool:=jR bad l l 0
def gN (x:Lex):Int:=
 if 200<x.entries.length\/40<x.bL.length\/10<x.ah.length then 2
 else if jS rp x.entries=true then 45
 else if jS pH x.bL=true then 46
 else if jS nO x.ah=true then 47
 else 0
def c237:aw:=⟨[0,1,4,5,7,8,9,16],[],[],[],[],[]⟩
def c185:aw:=⟨[0,1,4],[],[],[],[],[]⟩
theorem o7 (l:List kB) (hl:l.length<=aq) (f:FuncId) (bB:List AV) (p:kB->Bool) (hp:∀ w∈l,ae Tryz.prog f (.agg (fu w)::bB) [] (.bool (p w))) :
  ae Tryz.prog 237 [.sl 4 none (l.map fu),.fn f bB] [] (.int .i64 (jK p l)):=by
 refine aG (F:=Tryz.f237) c237 rfl rfl rfl mixed rfl fun X=>?_;(conv=>whnf);unfold aq at hl;refine bM rfl mixed [0,1,7,8] [] (fun m r h=>∃ (i:Nat),r=[(0,[],.sl 4 none (l.map fu)),(1,[],.fn f bB),(7,[],.int .i64 (l.map fu).length),(8,[],.int .i64 i)]/\h=[]/\m=l.length - i/\i<=l.length/\Below p l i) ?_ ?_
 ·(conv=>whnf);exact ⟨_,0,rfl,rfl,rfl,by omega,.zero⟩
 rintro m r h ⟨i,rfl,rfl,rfl,hi,hg⟩;(conv=>whnf);refine ⟨fun hc=>?_,fun hc=>?_⟩<;>simp at hc
 ·obtain ⟨x,hx⟩:=aN hc;(conv=>whnf);repeat ((first|refine ix (by assumption) ?_|(refine ae.k0 (hp x (List.mem_of_getElem? hx)) ?_));conv=>whnf)
  refine ⟨fun hd=>?_,fun hd=>?_⟩
  ·(conv=>whnf);exact ⟨by rw [hg.at hx hd],rfl⟩
  (conv=>whnf);repeat (refine ⟨af ⟨by omega,by omega⟩,?_⟩;conv=>whnf)
  exact ⟨_,by omega,i+1,rfl,rfl,rfl,by omega,hg.succ hx hd⟩
 (conv=>whnf);exact ⟨by rw [hg.end hc],rfl⟩
theorem o8 (l:List kB) (hl:l.length<=aq) (f:FuncId) (bB:List AV) (p:kB->Bool) (hp:∀ w∈l,ae Tryz.prog f (.agg (fu w)::bB) [] (.bool (p w))) :
  ae Tryz.prog 185 [.sl 4 none (l.map fu),.fn f bB] [] (.bool (l.any p)):=by
 refine aG (F:=Tryz.f185) c185 rfl rfl rfl mixed rfl fun X=>?_;(conv=>whnf);refine ae.k0 (o7 l hl f bB p hp) ?_;(conv=>whnf);exact ⟨congrArg AV.bool (vc p l),rfl⟩
def c238:aw:=⟨[0,1,4,5,7,8,9,16],[],[],[],[],[]⟩
def c187:aw:=⟨[0,1,4],[],[],[],[],[]⟩
theorem o9 (l:List lp) (hl:l.length<=aq) (f:FuncId) (bB:List AV) (p:lp->Bool) (hp:∀ w∈l,ae Tryz.prog f (.agg (iL w)::bB) [] (.bool (p w))) :
  ae Tryz.prog 238 [.sl 4 none (l.map iL),.fn f bB] [] (.int .i64 (jK p l)):=by
 refine aG (F:=Tryz.f238) c238 rfl rfl rfl mixed rfl fun X=>?_;(conv=>whnf);unfold aq at hl;refine bM rfl mixed [0,1,7,8] [] (fun m r h=>∃ (i:Nat),r=[(0,[],.sl 4 none (l.map iL)),(1,[],.fn f bB),(7,[],.int .i64 (l.map iL).length),(8,[],.int .i64 i)]/\h=[]/\m=l.length - i/\i<=l.length/\Below p l i) ?_ ?_
 ·(conv=>whnf);exact ⟨_,0,rfl,rfl,rfl,by omega,.zero⟩
 rintro m r h ⟨i,rfl,rfl,rfl,hi,hg⟩;(conv=>whnf);refine ⟨fun hc=>?_,fun hc=>?_⟩<;>simp at hc
 ·obtain ⟨x,hx⟩:=aN hc;(conv=>whnf);repeat ((first|refine ix (by assumption) ?_|(refine ae.k0 (hp x (List.mem_of_getElem? hx)) ?_));conv=>whnf)
  refine ⟨fun hd=>?_,fun hd=>?_⟩
  ·(conv=>whnf);exact ⟨by rw [hg.at hx hd],rfl⟩
  (conv=>whnf);repeat (refine ⟨af ⟨by omega,by omega⟩,?_⟩;conv=>whnf)
  exact ⟨_,by omega,i+1,rfl,rfl,rfl,by omega,hg.succ hx hd⟩
 (conv=>whnf);exact ⟨by rw [hg.end hc],rfl⟩
theorem p7 (l:List lp) (hl:l.length<=aq) (f:FuncId) (bB:List AV) (p:lp->Bool) (hp:∀ w∈l,ae Tryz.prog f (.agg (iL w)::bB) [] (.bool (p w))) :
  ae Tryz.prog 187 [.sl 4 none (l.map iL),.fn f bB] [] (.bool (l.any p)):=by
 refine aG (F:=Tryz.f187) c187 rfl rfl rfl mixed rfl fun X=>?_;(conv=>whnf);refine ae.k0 (o9 l hl f bB p hp) ?_;(conv=>whnf);exact ⟨congrArg AV.bool (vc p l),rfl⟩
def c239:aw:=⟨[0,1,4,5,7,8,9,16],[],[],[],[],[]⟩
def c189:aw:=⟨[0,1,4],[],[],[],[],[]⟩
theorem p8 (l:List iO) (hl:l.length<=aq) (f:FuncId) (bB:List AV) (p:iO->Bool) (hp:∀ w∈l,ae Tryz.prog f (.agg (gI w)::bB) [] (.bool (p w))) :
  ae Tryz.prog 239 [.sl 3 none (l.map gI),.fn f bB] [] (.int .i64 (jK p l)):=by
 refine aG (F:=Tryz.f239) c239 rfl rfl rfl mixed rfl fun X=>?_;(conv=>whnf);unfold aq at hl;refine bM rfl mixed [0,1,7,8] [] (fun m r h=>∃ (i:Nat),r=[(0,[],.sl 3 none (l.map gI)),(1,[],.fn f bB),(7,[],.int .i64 (l.map gI).length),(8,[],.int .i64 i)]/\h=[]/\m=l.length - i/\i<=l.length/\Below p l i) ?_ ?_
 ·(conv=>whnf);exact ⟨_,0,rfl,rfl,rfl,by omega,.zero⟩
 rintro m r h ⟨i,rfl,rfl,rfl,hi,hg⟩;(conv=>whnf);refine ⟨fun hc=>?_,fun hc=>?_⟩<;>simp at hc
 ·obtain ⟨x,hx⟩:=aN hc;(conv=>whnf);repeat ((first|refine ix (by assumption) ?_|(refine ae.k0 (hp x (List.mem_of_getElem? hx)) ?_));conv=>whnf)
  refine ⟨fun hd=>?_,fun hd=>?_⟩
  ·(conv=>whnf);exact ⟨by rw [hg.at hx hd],rfl⟩
  (conv=>whnf);repeat (refine ⟨af ⟨by omega,by omega⟩,?_⟩;conv=>whnf)
  exact ⟨_,by omega,i+1,rfl,rfl,rfl,by omega,hg.succ hx hd⟩
 (conv=>whnf);exact ⟨by rw [hg.end hc],rfl⟩
theorem p9 (l:List iO) (hl:l.length<=aq) (f:FuncId) (bB:List AV) (p:iO->Bool) (hp:∀ w∈l,ae Tryz.prog f (.agg (gI w)::bB) [] (.bool (p w))) :
  ae Tryz.prog 189 [.sl 3 none (l.map gI),.fn f bB] [] (.bool (l.any p)):=by
 refine aG (F:=Tryz.f189) c189 rfl rfl rfl mixed rfl fun X=>?_;(conv=>whnf);refine ae.k0 (p8 l hl f bB p hp) ?_;(conv=>whnf);exact ⟨congrArg AV.bool (vc p l),rfl⟩
def c182:aw:=⟨[0,1,2,3],[],[],[],[],[]⟩
def c186:aw:=⟨[0,1,2,3],[],[],[],[],[]⟩
def c188:aw:=⟨[0,1,2,3],[],[],[],[],[]⟩
theorem q7 (w v:kB):ae Tryz.prog 182 [.agg (fu v),.au (fu w)] [] (.bool (vz w v)):=by refine aG (F:=Tryz.f182) c182 rfl rfl rfl mixed rfl fun X=>?_;(conv=>whnf);skip;exact ⟨rfl,rfl⟩
theorem q8 (w v:lp):ae Tryz.prog 186 [.agg (iL v),.au (iL w)] [] (.bool (vA w v)):=by refine aG (F:=Tryz.f186) c186 rfl rfl rfl mixed rfl fun X=>?_;(conv=>whnf);skip;exact ⟨rfl,rfl⟩
theorem q9 (w v:iO):ae Tryz.prog 188 [.agg (gI v),.au (gI w)] [] (.bool (vB w v)):=by refine aG (F:=Tryz.f188) c188 rfl rfl rfl mixed rfl fun X=>?_;(conv=>whnf);skip;exact ⟨rfl,rfl⟩
def c127:aw:=⟨[0,1,2,3,4,5,6,7,8,9,10,11,27,29,30,31,32,71,74,75,76,77,111,114,115,116,117,145],[],[4,7,10],[],[],[]⟩
set_option maxHeartbeats 2000000 in
theorem RV (x:Lex) (hx:rh x):ae Tryz.prog 127 [.agg (eV x)] [] (.int .i64 (gN x)):=by
 have pW:=hx.entries;have ee:=hx.bL;have uU:=hx.ah;unfold aq at pW ee uU;refine aG (F:=Tryz.f127) c127 rfl rfl rfl mixed rfl fun X=>?_;(conv=>whnf);skip;refine ⟨fun hc=>?_,fun hc=>?_⟩
 ·have hc:(decide (200<((x.entries.map fu).length:Int))||decide (40<((x.bL.map iL).length:Int))||decide (10<((x.ah.map gI).length:Int)))=true:=hc;simp [or_assoc] at hc;(conv=>whnf);exact ⟨by rw [gN,if_pos (by omega)],rfl⟩
 have hc:(decide (200<((x.entries.map fu).length:Int))||decide (40<((x.bL.map iL).length:Int))||decide (10<((x.ah.map gI).length:Int)))=false:=hc;simp at hc;have h0:gN x=if jS rp x.entries=true then 45 else if jS pH x.bL=true then 46 else if jS nO x.ah=true then 47 else 0:=(by rw [gN,if_neg (by omega)]);(conv=>whnf);refine bM rfl mixed [1,29,30,31] [] (fun m r h=>∃ (i:Nat),r=[(1,[],.au (eV x)),(29,[],.sl 4 none (x.entries.map fu)),(30,[],.int .i64 (x.entries.map fu).length),(31,[],.int .i64 i)]/\h=[]/\m=x.entries.length - i/\i<=x.entries.length/\jS rp x.entries=jR rp x.entries (x.entries.drop i) i) ?_ ?_
 ·(conv=>whnf);exact ⟨_,0,rfl,rfl,rfl,by omega,rfl⟩
 rintro m r h ⟨i,rfl,rfl,rfl,hi,hb⟩;(conv=>whnf);refine ⟨fun he=>?_,fun he=>?_⟩<;>simp at he
 ·obtain ⟨w,hw⟩:=aN he;have hm:=List.mem_of_getElem? hw;rw [drop_cons hw,jR] at hb;have hq:=o8 (x.entries.take i) (by simp [aq];omega) 182 [.au (fu w)] (vz w) (fun v _=>q7 w v);rw [List.map_take] at hq;(conv=>whnf);repeat ((first|refine ix (by assumption) ?_|refine ae.k0 (KO w.root 8 (hx.dv w hm).root) ?_|refine aX (As _ _ _) ?_|refine aX (KP w.cls (hx.dv w hm).cls) ?_|(refine aX hq ?_)|(refine ⟨af ⟨by omega,by omega,by simp;omega⟩,?_⟩)|refine ⟨_,_,aK.here _,⟨Nat.le_of_ble_eq_true rfl,rfl⟩,?_⟩|intro (nb:Nat));conv=>whnf)
  refine ⟨fun hd=>?_,fun hd=>?_⟩
  ·have hd:rp (x.entries.take i) w=true:=hd;rw [hd,Bool.true_or] at hb;(conv=>whnf);exact ⟨by rw [h0,if_pos hb],rfl⟩
  have hd:rp (x.entries.take i) w=false:=hd;rw [hd,Bool.false_or] at hb;(conv=>whnf);repeat (refine ⟨af ⟨by omega,by omega⟩,?_⟩;conv=>whnf)
  exact ⟨_,by omega,i+1,rfl,rfl,rfl,by omega,hb⟩
 rw [drop_nil he,jR] at hb;have h1:gN x=if jS pH x.bL=true then 46 else if jS nO x.ah=true then 47 else 0:=(by rw [h0,if_neg (by rw [hb];decide)]);(conv=>whnf);refine bM rfl mixed [1,74,75,76] [] (fun m r h=>∃ (i:Nat),r=[(1,[],.au (eV x)),(74,[],.sl 4 none (x.bL.map iL)),(75,[],.int .i64 (x.bL.map iL).length),(76,[],.int .i64 i)]/\h=[]/\m=x.bL.length - i/\i<=x.bL.length/\jS pH x.bL=jR pH x.bL (x.bL.drop i) i) ?_ ?_
 ·(conv=>whnf);exact ⟨_,0,rfl,rfl,rfl,by omega,rfl⟩
 rintro m r h ⟨i,rfl,rfl,rfl,hi,hb⟩;(conv=>whnf);refine ⟨fun he=>?_,fun he=>?_⟩<;>simp at he
 ·obtain ⟨w,hw⟩:=aN he;have hm:=List.mem_of_getElem? hw;rw [drop_cons hw,jR] at hb;have hq:=p7 (x.bL.take i) (by simp [aq];omega) 186 [.au (iL w)] (vA w) (fun v _=>q8 w v);rw [List.map_take] at hq;(conv=>whnf);repeat ((first|refine ix (by assumption) ?_|refine ae.k0 (As _ _ _) ?_|refine aX (As _ _ _) ?_|refine aX (KO w.text 4 (hx.AB w hm).text) ?_|refine aX (KP w.name (hx.AB w hm).name) ?_|(refine aX hq ?_)|(refine ⟨af ⟨by omega,by omega,by simp;omega⟩,?_⟩)|refine ⟨_,_,aK.here _,⟨Nat.le_of_ble_eq_true rfl,rfl⟩,?_⟩|intro (nb:Nat));conv=>whnf)
  refine ⟨fun hd=>?_,fun hd=>?_⟩
  ·have hd:pH (x.bL.take i) w=true:=hd;rw [hd,Bool.true_or] at hb;(conv=>whnf);exact ⟨by rw [h1,if_pos hb],rfl⟩
  have hd:pH (x.bL.take i) w=false:=hd;rw [hd,Bool.false_or] at hb;(conv=>whnf);repeat (refine ⟨af ⟨by omega,by omega⟩,?_⟩;conv=>whnf)
  exact ⟨_,by omega,i+1,rfl,rfl,rfl,by omega,hb⟩
 rw [drop_nil he,jR] at hb;have h2:gN x=if jS nO x.ah=true then 47 else 0:=(by rw [h1,if_neg (by rw [hb];decide)]);(conv=>whnf);refine bM rfl mixed [1,114,115,116] [] (fun m r h=>∃ (i:Nat),r=[(1,[],.au (eV x)),(114,[],.sl 3 none (x.ah.map gI)),(115,[],.int .i64 (x.ah.map gI).length),(116,[],.int .i64 i)]/\h=[]/\m=x.ah.length - i/\i<=x.ah.length/\jS nO x.ah=jR nO x.ah (x.ah.drop i) i) ?_ ?_
 ·(conv=>whnf);exact ⟨_,0,rfl,rfl,rfl,by omega,rfl⟩
 rintro m r h ⟨i,rfl,rfl,rfl,hi,hb⟩;(conv=>whnf);refine ⟨fun he=>?_,fun he=>?_⟩<;>simp at he
 ·obtain ⟨w,hw⟩:=aN he;have hm:=List.mem_of_getElem? hw;rw [drop_cons hw,jR] at hb;have hq:=p9 (x.ah.take i) (by simp [aq];omega) 188 [.au (gI w)] (vB w) (fun v _=>q9 w v);rw [List.map_take] at hq;(conv=>whnf);repeat ((first|refine ix (by assumption) ?_|refine ae.k0 (KO w.text 4 (hx.dO w hm).text) ?_|refine aX (KP w.name (hx.dO w hm).name) ?_|refine aX (As _ _ _) ?_|(refine aX hq ?_)|(refine ⟨af ⟨by omega,by omega,by simp;omega⟩,?_⟩)|refine ⟨_,_,aK.here _,⟨Nat.le_of_ble_eq_true rfl,rfl⟩,?_⟩|intro (nb:Nat));conv=>whnf)
  refine ⟨fun hd=>?_,fun hd=>?_⟩
  ·have hd:nO (x.ah.take i) w=true:=hd;rw [hd,Bool.true_or] at hb;(conv=>whnf);exact ⟨by rw [h2,if_pos hb],rfl⟩
  have hd:nO (x.ah.take i) w=false:=hd;rw [hd,Bool.false_or] at hb;(conv=>whnf);repeat (refine ⟨af ⟨by omega,by omega⟩,?_⟩;conv=>whnf)
  exact ⟨_,by omega,i+1,rfl,rfl,rfl,by omega,hb⟩
 rw [drop_nil he,jR] at hb;have h3:gN x=0:=(by rw [h2,if_neg (by rw [hb];decide)]);(conv=>whnf);exact ⟨by rw [h3],rfl⟩
end Go.Abs.Wall
namespace Go.Abs.Wall
open Go Go.Abs Go.Proofs
structure bc where
 entry:Int
 ending:Int
 ah:List Int
deriving DecidableEq
def dm (f:bc):List AV:=[.int .i64 f.entry,.int .i64 f.ending,.sl 1 none (ints f.ah)]
def cd (x:Lex) (n:Int):kB:=x.entries.getD n.toNat ⟨[],0,[],0⟩
def gT (x:Lex) (n:Int):lp:=x.bL.getD n.toNat ⟨0,[],[],0⟩
def cE (x:Lex) (n:Int):iO:=x.ah.getD n.toNat ⟨[],[],0⟩
def sd (x:Lex) (f:bc):Bool:=!decide (f.ending = -1)&&(!bG f.ending 0 ((x.bL.length:Int) - 1)||!decide ((gT x f.ending).kind=(cd x f.entry).kind))
def iz (n:Nat):List Int->Int->Bool
 | [],_=>true
 | c::t,last=>!(decide (c<=last)||decide ((n:Int)<=c))&&iz n t c
def dT (x:Lex) (f:bc):Int:=
 if gN x≠0 then gN x
 else if bG f.entry 0 ((x.entries.length:Int) - 1)=false then 45
 else if sd x f=true then 46
 else if 3<f.ah.length then 47
 else if iz x.ah.length f.ah (-1)=true then 0
 else 47
theorem dS {n lo hi:Int}:bG n lo hi=true↔lo<=n/\n<=hi:=by unfold bG;simp
theorem RW {α:Type} {bad:List α->α->Bool} {l:List α}:∀ (t:List α) (k:Nat),l.drop k=t->jR bad l t k=false->∀ (i:Nat) w,k<=i->l[i]?=some w->bad (l.take i) w=false
 | [],k,hd,_,i,w,hi,hw=>by have h1:=List.drop_eq_nil_iff.1 hd;have h2:=(List.getElem?_eq_some_iff.1 hw).1;omega
 | a::t,k,hd,h,i,w,hi,hw=>by
   rw [jR,Bool.or_eq_false_iff] at h;have hk:l[k]?=some a:=by have:=congrArg (fun z=>z[0]?) hd;simpa using this
   by_cases e:i=k
   ·subst e;rw [hk] at hw;cases hw;exact h.1
   refine RW t (k+1) ?_ h.2 i w (by omega) hw;have:=congrArg List.tail hd;simpa [List.tail_drop] using this
theorem KQ {α:Type} {bad:List α->α->Bool} {l:List α} (h:jS bad l=false) (i:Nat) (w:α) (hw:l[i]?=some w):bad (l.take i) w=false:=
 RW l 0 rfl h i w (Nat.zero_le _) hw
structure RX (e:kB):Prop where
 root:nN e.root 8=true
 kind:1<=e.kind/\e.kind<=9
 cls:e.cls≠[]->rn e.cls=true
 weight:0<=e.weight/\e.weight<=1000
structure RY (e:lp):Prop where
 text:nN e.text 4=true
 weight:0<=e.weight/\e.weight<=1000
structure RZ (e:iO):Prop where
 text:nN e.text 4=true
 weight:0<=e.weight/\e.weight<=1000
structure pI (x:Lex):Prop where
 many:x.entries.length<=200/\x.bL.length<=40/\x.ah.length<=10
 dv:∀ e∈x.entries,RX e
 AB:∀ e∈x.bL,RY e
 dO:∀ e∈x.ah,RZ e
theorem mR {s:List UInt8} {n:Int} (h:nN s n=true):1<=(s.length:Int)/\(s.length:Int)<=n:=by unfold nN at h;simp only [Bool.and_eq_true,decide_eq_true_eq] at h;exact h.2
theorem Sa {x:Lex} (h:gN x=0):pI x:=by
 unfold gN at h;split at h
 ·cases h
 rename_i h1;split at h
 ·cases h
 rename_i h2;split at h
 ·cases h
 rename_i h3;split at h
 ·cases h
 rename_i h4;refine ⟨by omega,fun e he=>?_,fun e he=>?_,fun e he=>?_⟩
 ·obtain ⟨i,hi⟩:=List.mem_iff_getElem?.1 he;have:=KQ (Bool.eq_false_iff.2 h2) i e hi;unfold rp at this;simp only [Bool.or_eq_false_iff,Bool.not_eq_false',Bool.and_eq_false_iff,dS,decide_eq_true_eq] at this;exact ⟨this.1.1.1.1,this.1.1.1.2,fun hc=>by rcases this.1.1.2 with h|h;exact absurd h hc;exact h,this.1.2⟩
 ·obtain ⟨i,hi⟩:=List.mem_iff_getElem?.1 he;have:=KQ (Bool.eq_false_iff.2 h3) i e hi;unfold pH at this;simp only [Bool.or_eq_false_iff,Bool.not_eq_false',Bool.and_eq_false_iff,dS,decide_eq_true_eq] at this;exact ⟨this.1.1.1.2,this.1.2⟩
 obtain ⟨i,hi⟩:=List.mem_iff_getElem?.1 he;have:=KQ (Bool.eq_false_iff.2 h4) i e hi;unfold nO at this;simp only [Bool.or_eq_false_iff,Bool.not_eq_false',Bool.and_eq_false_iff,dS,decide_eq_true_eq] at this;exact ⟨this.1.1.1,this.1.2⟩
theorem Kf {n:Nat}:∀ {l:List Int} {last:Int},iz n l last=true->∀ c∈l,last<c/\c<n
 | [],_,_,c,hc=>by cases hc
 | a::t,last,h,c,hc=>by
   unfold iz at h;simp only [Bool.and_eq_true,Bool.not_eq_true',Bool.or_eq_false_iff,decide_eq_false_iff_not] at h;rcases List.mem_cons.1 hc with rfl|hc
   ·omega
   have:=Kf h.2 c hc;omega
structure kL (x:Lex) (f:bc):Prop where
 lex:pI x
 entry:0<=f.entry/\f.entry<x.entries.length
 ending:f.ending = -1\/(0<=f.ending/\f.ending<x.bL.length/\(gT x f.ending).kind=(cd x f.entry).kind)
 bE:f.ah.length<=3
 dO:∀ c∈f.ah,0<=c/\c<x.ah.length
 up:iz x.ah.length f.ah (-1)=true
theorem mG {x:Lex} {f:bc} (h:dT x f=0):kL x f:=by
 unfold dT at h;split at h
 ·rename_i h0;exact absurd h h0
 rename_i h0;split at h
 ·cases h
 rename_i h1;split at h
 ·cases h
 rename_i h2;split at h
 ·cases h
 rename_i h3;split at h
 ·rename_i h4;rw [Bool.not_eq_false,dS] at h1;rw [Bool.not_eq_true] at h2;unfold sd at h2;simp only [Bool.and_eq_false_iff,Bool.or_eq_false_iff,Bool.not_eq_false',dS,decide_eq_true_eq] at h2;refine ⟨Sa (by omega),by omega,?_,by omega,fun c hc=>?_,h4⟩
  ·rcases h2 with h2|h2
   ·exact .inl h2
   exact .inr ⟨by omega,by omega,h2.2⟩
  have:=Kf h4 c hc;omega
 cases h
theorem oB {x:Lex} {n:Int} (h0:0<=n) (h1:n<x.entries.length):x.entries[n.toNat]?=some (cd x n):=by have:n.toNat<x.entries.length:=(by omega);unfold cd;simp [List.getElem?_eq_getElem this]
theorem AD {x:Lex} {n:Int} (h0:0<=n) (h1:n<x.bL.length):x.bL[n.toNat]?=some (gT x n):=by have:n.toNat<x.bL.length:=(by omega);unfold gT;simp [List.getElem?_eq_getElem this]
theorem kM {x:Lex} {n:Int} (h0:0<=n) (h1:n<x.ah.length):x.ah[n.toNat]?=some (cE x n):=by have:n.toNat<x.ah.length:=(by omega);unfold cE;simp [List.getElem?_eq_getElem this]
theorem pI.cd {x:Lex} (hx:pI x) {n:Int} (h0:0<=n) (h1:n<x.entries.length):RX (Wall.cd x n):=hx.dv _ (List.mem_of_getElem? (oB h0 h1))
theorem pI.gT {x:Lex} (hx:pI x) {n:Int} (h0:0<=n) (h1:n<x.bL.length):RY (Wall.gT x n):=hx.AB _ (List.mem_of_getElem? (AD h0 h1))
theorem pI.cE {x:Lex} (hx:pI x) {n:Int} (h0:0<=n) (h1:n<x.ah.length):RZ (Wall.cE x n):=hx.dO _ (List.mem_of_getElem? (kM h0 h1))
def nP (x:Lex) (l:List Int):Int:=(l.map fun c=>(cE x c).weight).sum
def jq (x:Lex) (l:List Int):List UInt8:=(l.map fun c=>(cE x c).text).flatten
def mQ (x:Lex) (f:bc):Int:=(cd x f.entry).weight+(if 0<=f.ending then (gT x f.ending).weight else 0)+nP x f.ah
def jL (x:Lex) (f:bc):List UInt8:=(cd x f.entry).root++(if 0<=f.ending then (gT x f.ending).text else [])
def qh (x:Lex) (f:bc):List UInt8:=jL x f++jq x f.ah
theorem AE {x:Lex} (hx:pI x):∀ {l:List Int},(∀ c∈l,0<=c/\c<x.ah.length)->0<=nP x l/\nP x l<=1000*l.length
 | [],_=>by simp [nP]
 | c::l,h=>by have ih:=AE hx (l:=l) fun d hd=>h d (by simp [hd]);have hc:=h c (by simp);have hw:=(hx.cE hc.1 hc.2).weight;unfold nP at ih ⊢;simp only [List.map_cons,List.sum_cons,List.length_cons];omega
theorem Fa {x:Lex} (hx:pI x):∀ {l:List Int},(∀ c∈l,0<=c/\c<x.ah.length)->(jq x l).length<=4*l.length
 | [],_=>by simp [jq]
 | c::l,h=>by have ih:=Fa hx (l:=l) fun d hd=>h d (by simp [hd]);have hc:=h c (by simp);have hw:=mR (hx.cE hc.1 hc.2).text;unfold jq at ih ⊢;simp only [List.map_cons,List.flatten_cons,List.length_append,List.length_cons];omega
theorem kL.EZ {x:Lex} {f:bc} (h:kL x f):1<=(jL x f).length/\(jL x f).length<=12:=by
 have h1:=mR (h.lex.cd h.entry.1 h.entry.2).root;unfold jL;rw [List.length_append];split
 ·rename_i h2;have h3:=mR (h.lex.gT h2 (by rcases h.ending with h|h<;>omega)).text
  omega
 simp;omega
theorem kL.kj {x:Lex} {f:bc} (h:kL x f):0<=mQ x f/\mQ x f<=5000:=by
 have h1:=(h.lex.cd h.entry.1 h.entry.2).weight;have h2:=AE h.lex h.dO;have h3:=h.bE;unfold mQ;split
 ·rename_i h4;have h5:=(h.lex.gT h4 (by rcases h.ending with h|h<;>omega)).weight
  omega
 omega
theorem dg {α:Type} {l:List α} {i:Nat} {a:α} (h:l[i]?=some a):l.take (i+1)=l.take i++[a]:=by rw [List.take_add_one,h];rfl
theorem FX {x:Lex} {l:List Int} {c:Int}:nP x (l++[c])=nP x l+(cE x c).weight:=by unfold nP;simp
theorem Pc {x:Lex} {l:List Int} {c:Int}:jq x (l++[c])=jq x l++(cE x c).text:=by unfold jq;simp
def c93:aw:=⟨[0,1,2,3,4,5,6,8,12,21,51,55,57,58,59,60,72],[],[],[],[(6,[0,1,2,3,4,5,6,7,8,9,10,11,12,13,14,15,16,17,18,19,20,21,22,23,24,25,26,27,28,29],[])],[]⟩
def c224:aw:=⟨[0,1,2,3,4,5,7,17,28,29,30,31],[],[],[],[],[]⟩
def c159:aw:=⟨[0,1,2,3,4,5,6,11],[],[],[],[],[]⟩
def c163:aw:=⟨[0,1,2,3,4,5,15],[],[],[],[],[]⟩
def c102:aw:=⟨[0,1,2,3,4,5,6,11],[],[],[],[],[]⟩
theorem Fe (x:Lex) (f:bc) (hx:rh x) (hf:f.ah.length<=aq):ae Tryz.prog 93 [.agg (eV x),.agg (dm f)] [] (.int .i64 (dT x f)):=by
 have pW:=hx.entries;have ee:=hx.bL;have uU:=hx.ah;unfold aq at pW ee uU hf;refine aG (F:=Tryz.f93) c93 rfl rfl rfl mixed rfl fun X=>?_;(conv=>whnf);repeat (refine ae.k0 (RV x hx) ?_;conv=>whnf)
 refine ⟨fun hc=>?_,fun hc=>?_⟩<;>simp at hc
 ·(conv=>whnf);exact ⟨by rw [dT,if_pos hc],rfl⟩
 (conv=>whnf);repeat ((first|refine ae.k0 (As _ _ _) ?_|(refine ⟨af ⟨by rw [List.length_map];omega,by rw [List.length_map];omega⟩,?_⟩));conv=>whnf)
 refine ⟨fun hd=>?_,fun hd=>?_⟩
 ·have hd:(!bG f.entry 0 ((x.entries.map fu).length - 1))=true:=hd;rw [List.length_map,Bool.not_eq_true'] at hd;(conv=>whnf);exact ⟨by rw [dT,if_neg (by omega),if_pos hd],rfl⟩
 have hd:(!bG f.entry 0 ((x.entries.map fu).length - 1))=false:=hd;rw [List.length_map,Bool.not_eq_false'] at hd;have cU:=dS.1 hd;(conv=>whnf);repeat ((first|(refine qQ (⟨0,[],[],0⟩:lp) ?_ ?_;(focus (conv=>whnf;skip));(focus (intro g0 g1;simp at g1;show 0<=_/\_<_;omega)))|(refine qQ (⟨[],0,[],0⟩:kB) ?_ ?_;(focus (conv=>whnf;skip));(focus (intro g0 g1;show 0<=_/\_<_;omega)))|(refine aX (As _ _ _) ?_)|(refine ⟨af ⟨by rw [List.length_map];omega,by rw [List.length_map];omega⟩,?_⟩)|refine And.intro (by show aJ (aH Tryz.f93 _) _=true;decide +kernel) ?_);conv=>whnf)
 refine ⟨fun he=>?_,fun he=>?_⟩
 ·have he:sd x f=true:=by unfold sd;rw [<- List.length_map (f:=iL)];exact he
  (conv=>whnf);exact ⟨by rw [dT,if_neg (by omega),if_neg (by rw [hd];decide),if_pos he],rfl⟩
 have he:sd x f=false:=by unfold sd;rw [<- List.length_map (f:=iL)];exact he
 (conv=>whnf);refine ⟨fun h3=>?_,fun h3=>?_⟩<;>simp at h3
 ·(conv=>whnf);exact ⟨by rw [dT,if_neg (by omega),if_neg (by rw [hd];decide),if_neg (by rw [he];decide),if_pos (by omega)],rfl⟩
 have hg:dT x f=if iz x.ah.length f.ah (-1)=true then 0 else 47:=(by rw [dT,if_neg (by omega),if_neg (by rw [hd];decide),if_neg (by rw [he];decide),if_neg (by omega)]);(conv=>whnf);refine bM rfl mixed [2,6,57,58,59] [] (fun m r h=>∃ (i:Nat) (last:Int),r=[(2,[],.au (eV x)),(6,[],.int .i64 last),(57,[],.sl 1 none (ints f.ah)),(58,[],.int .i64 (ints f.ah).length),(59,[],.int .i64 i)]/\h=[]/\m=f.ah.length - i/\i<=f.ah.length/\iz x.ah.length f.ah (-1)=iz x.ah.length (f.ah.drop i) last) ?_ ?_
 ·(conv=>whnf);exact ⟨_,0,-1,rfl,rfl,rfl,by omega,rfl⟩
 rintro m r h ⟨i,last,rfl,rfl,rfl,hi,hb⟩;(conv=>whnf);refine ⟨fun aD=>?_,fun aD=>?_⟩<;>simp at aD
 ·obtain ⟨c,hc⟩:=aN aD;rw [drop_cons hc,iz] at hb;(conv=>whnf);repeat (refine ix (by assumption) ?_;conv=>whnf)
  refine ⟨fun hq=>?_,fun hq=>?_⟩
  ·have hq:(decide (c<=last)||decide (((x.ah.map gI).length:Int)<=c))=true:=hq;rw [List.length_map] at hq;rw [hq] at hb;(conv=>whnf);exact ⟨by rw [hg,hb];rfl,rfl⟩
  have hq:(decide (c<=last)||decide (((x.ah.map gI).length:Int)<=c))=false:=hq;rw [List.length_map] at hq;rw [hq] at hb;(conv=>whnf);repeat (refine ⟨af ⟨by omega,by omega⟩,?_⟩;conv=>whnf)
  exact ⟨_,by omega,i+1,c,rfl,rfl,rfl,by omega,hb⟩
 rw [drop_nil aD,iz] at hb;(conv=>whnf);exact ⟨by rw [hg,hb];rfl,rfl⟩
theorem r5 (x:Lex) (f:bc) (h:kL x f):ae Tryz.prog 224 [.agg (eV x),.agg (dm f)] [] (.int .i64 (mQ x f)):=by
 have dI:=h.bE;have r6:=(h.lex.cd h.entry.1 h.entry.2).weight;refine aG (F:=Tryz.f224) c224 rfl rfl rfl mixed rfl fun X=>?_;(conv=>whnf);repeat ((refine cj f.entry.toNat (by have:=h.entry;omega) (oB h.entry.1 h.entry.2) ?_);conv=>whnf)
 refine ⟨fun he=>?_,fun he=>?_⟩<;>simp at he
 ·have jf:f.ending<x.bL.length:=by rcases h.ending with h|h<;>omega
  have pb:=(h.lex.gT he jf).weight;(conv=>whnf);repeat ((first|refine ⟨af ⟨by omega,by omega⟩,?_⟩|(refine cj f.ending.toNat (by omega) (AD he jf) ?_));conv=>whnf)
  obtain ⟨n0,fy⟩:∃ n:Int,n=(cd x f.entry).weight+(gT x f.ending).weight:=⟨_,rfl⟩;rw [<- fy];have jh:n0=(cd x f.entry).weight+(if 0<=f.ending then (gT x f.ending).weight else 0):=by rw [if_pos he];exact fy
  replace fy:=jh;refine bM rfl mixed [2,5,28,29,30] [] (fun m r h=>∃ (i:Nat) (n:Int),r=[(2,[],.au (eV x)),(5,[],.int .i64 n),(28,[],.sl 1 none (ints f.ah)),(29,[],.int .i64 (ints f.ah).length),(30,[],.int .i64 i)]/\h=[]/\m=f.ah.length - i/\i<=f.ah.length/\n=n0+nP x (f.ah.take i)) ?_ ?_
  ·(conv=>whnf);exact ⟨_,0,n0,rfl,rfl,rfl,by omega,by simp [nP]⟩
  rintro m r h ⟨i,n,rfl,rfl,rfl,hi,hn⟩;(conv=>whnf);refine ⟨fun aD=>?_,fun aD=>?_⟩<;>simp at aD
  ·obtain ⟨c,hc⟩:=aN aD;have bA:=h.dO c (List.mem_of_getElem? hc);have dw:=(h.lex.cE bA.1 bA.2).weight;have hb:=AE h.lex (l:=f.ah.take i) fun d hd=>h.dO d (List.mem_of_mem_take hd);rw [List.length_take] at hb;have hs:=dg hc;(conv=>whnf);repeat ((first|refine ⟨af ⟨by omega,by omega⟩,?_⟩|refine ix (by assumption) ?_|(refine cj c.toNat (by omega) (kM bA.1 bA.2) ?_));conv=>whnf)
   exact ⟨_,by omega,i+1,_,rfl,rfl,rfl,by omega,by rw [hs,FX];omega⟩
  rw [List.take_of_length_le aD] at hn;(conv=>whnf);refine ⟨congrArg (AV.int .i64) ?_,rfl⟩;rw [hn,fy];rfl
 (conv=>whnf);obtain ⟨n0,fy⟩:∃ n:Int,n=(cd x f.entry).weight:=⟨_,rfl⟩;rw [<- fy];have jh:n0=(cd x f.entry).weight+(if 0<=f.ending then (gT x f.ending).weight else 0):=by rw [if_neg (by omega)];omega
 replace fy:=jh;refine bM rfl mixed [2,5,28,29,30] [] (fun m r h=>∃ (i:Nat) (n:Int),r=[(2,[],.au (eV x)),(5,[],.int .i64 n),(28,[],.sl 1 none (ints f.ah)),(29,[],.int .i64 (ints f.ah).length),(30,[],.int .i64 i)]/\h=[]/\m=f.ah.length - i/\i<=f.ah.length/\n=n0+nP x (f.ah.take i)) ?_ ?_
 ·(conv=>whnf);exact ⟨_,0,n0,rfl,rfl,rfl,by omega,by simp [nP]⟩
 rintro m r h ⟨i,n,rfl,rfl,rfl,hi,hn⟩;(conv=>whnf);refine ⟨fun aD=>?_,fun aD=>?_⟩<;>simp at aD
 ·obtain ⟨c,hc⟩:=aN aD;have bA:=h.dO c (List.mem_of_getElem? hc);have dw:=(h.lex.cE bA.1 bA.2).weight;have hb:=AE h.lex (l:=f.ah.take i) fun d hd=>h.dO d (List.mem_of_mem_take hd);rw [List.length_take] at hb;have hs:=dg hc;(conv=>whnf);repeat ((first|refine ⟨af ⟨by omega,by omega⟩,?_⟩|refine ix (by assumption) ?_|(refine cj c.toNat (by omega) (kM bA.1 bA.2) ?_));conv=>whnf)
  exact ⟨_,by omega,i+1,_,rfl,rfl,rfl,by omega,by rw [hs,FX];omega⟩
 rw [List.take_of_length_le aD] at hn;(conv=>whnf);refine ⟨congrArg (AV.int .i64) ?_,rfl⟩;rw [hn,fy];rfl
theorem Pd (x:Lex) (f:bc) (hx:rh x) (hf:f.ah.length<=aq):ae Tryz.prog 159 [.agg (eV x),.agg (dm f)] [] (.aQ [.int .i64 (if dT x f=0 then mQ x f else 0),.int .i64 (dT x f)]):=by
 refine aG (F:=Tryz.f159) c159 rfl rfl rfl mixed rfl fun X=>?_;(conv=>whnf);repeat (refine ae.k0 (Fe x f hx hf) ?_;conv=>whnf)
 refine ⟨fun hc=>?_,fun hc=>?_⟩<;>simp at hc
 ·(conv=>whnf);exact ⟨by rw [if_neg hc],rfl⟩
 (conv=>whnf);repeat (refine ae.k0 (r5 x f (mG hc)) ?_;conv=>whnf)
 exact ⟨by rw [if_pos hc,hc],rfl⟩
theorem r7 (x:Lex) (f:bc) (h:kL x f):ae Tryz.prog 163 [.agg (eV x),.agg (dm f)] [] (.str (jL x f)):=by
 have aA:=h.EZ;refine aG (F:=Tryz.f163) c163 rfl rfl rfl mixed rfl fun X=>?_;(conv=>whnf);repeat ((refine cj f.entry.toNat (by have:=h.entry;omega) (oB h.entry.1 h.entry.2) ?_);conv=>whnf)
 refine ⟨fun he=>?_,fun he=>?_⟩<;>simp at he
 ·have jf:f.ending<x.bL.length:=by rcases h.ending with h|h<;>omega
  have hs:jL x f=(cd x f.entry).root++(gT x f.ending).text:=(by rw [jL,if_pos he]);rw [hs] at aA ⊢;(conv=>whnf);repeat ((first|(refine cj f.ending.toNat (by omega) (AD he jf) ?_)|(refine ⟨af (by unfold aq;omega),?_⟩));conv=>whnf)
  exact ⟨rfl,rfl⟩
 have hs:jL x f=(cd x f.entry).root:=(by rw [jL,if_neg (by omega),List.append_nil]);rw [hs];(conv=>whnf);exact ⟨rfl,rfl⟩
theorem Wt (x:Lex) (f:bc) (hx:rh x) (hf:f.ah.length<=aq):ae Tryz.prog 102 [.agg (eV x),.agg (dm f)] [] (.aQ [.str (if dT x f=0 then jL x f else []),.int .i64 (dT x f)]):=by
 refine aG (F:=Tryz.f102) c102 rfl rfl rfl mixed rfl fun X=>?_;(conv=>whnf);repeat (refine ae.k0 (Fe x f hx hf) ?_;conv=>whnf)
 refine ⟨fun hc=>?_,fun hc=>?_⟩<;>simp at hc
 ·(conv=>whnf);exact ⟨by rw [if_neg hc],rfl⟩
 (conv=>whnf);repeat (refine ae.k0 (r7 x f (mG hc)) ?_;conv=>whnf)
 exact ⟨by rw [if_pos hc,hc],rfl⟩
end Go.Abs.Wall
namespace Go.Abs.Wall
open Go Go.Abs Go.Proofs
def fG (t w:List UInt8):Bool:=decide ((w.length:Int)<=t.length)&&decide (t.take w.length=w)
def qg (t w:List UInt8):Bool:=decide ((w.length:Int)<=t.length)&&decide (t.drop (t.length - w.length)=w)
def c284:aw:=⟨[0,1,4],[],[],[],[],[]⟩
def c256:aw:=⟨[0,1,4],[],[],[],[],[]⟩
def c257:aw:=⟨[0,1,4],[],[],[],[],[]⟩
def c222:aw:=⟨[0,1,4],[],[],[],[],[]⟩
theorem r8 (t w:List UInt8) (ht:t.length<=aq) (hw:w.length<=aq):ae Tryz.prog 284 [.str t,.str w] [] (.bool (fG t w)):=by
 unfold aq at ht hw;refine aG (F:=Tryz.f284) c284 rfl rfl rfl mixed rfl fun X=>?_;(conv=>whnf);repeat ((refine And.intro ?_ ?_;(focus ((conv=>whnf);intro g0;have g0:=of_decide_eq_true g0;refine ⟨?_,?_,?_⟩<;>omega)));conv=>whnf)
 exact ⟨rfl,rfl⟩
theorem hasPrefix (t w:List UInt8) (ht:t.length<=aq) (hw:w.length<=aq):ae Tryz.prog 256 [.str t,.str w] [] (.bool (fG t w)):=by
 refine aG (F:=Tryz.f256) c256 rfl rfl rfl mixed rfl fun X=>?_;(conv=>whnf);repeat (refine ae.k0 (r8 t w ht hw) ?_;conv=>whnf)
 exact ⟨rfl,rfl⟩
theorem r9 (t w:List UInt8) (ht:t.length<=aq) (hw:w.length<=aq):ae Tryz.prog 257 [.str t,.str w] [] (.bool (qg t w)):=by
 unfold aq at ht hw;refine aG (F:=Tryz.f257) c257 rfl rfl rfl mixed rfl fun X=>?_;(conv=>whnf);repeat ((first|refine ⟨af ⟨by omega,by omega⟩,?_⟩|(refine And.intro ?_ ?_;(focus ((conv=>whnf);intro g0;have g0:=of_decide_eq_true g0;refine ⟨?_,?_,?_⟩<;>omega))));conv=>whnf)
 refine ⟨congrArg AV.bool ?_,rfl⟩;unfold qg;by_cases h:(w.length:Int)<=t.length
 ·simp only [decide_eq_true h,Bool.true_and];rw [List.take_of_length_le (by omega),show ((t.length:Int) - (w.length:Int)).toNat=t.length - w.length by omega]
 simp only [decide_eq_false h,Bool.false_and]
theorem hasSuffix (t w:List UInt8) (ht:t.length<=aq) (hw:w.length<=aq):ae Tryz.prog 222 [.str t,.str w] [] (.bool (qg t w)):=by
 refine aG (F:=Tryz.f222) c222 rfl rfl rfl mixed rfl fun X=>?_;(conv=>whnf);repeat (refine ae.k0 (r9 t w ht hw) ?_;conv=>whnf)
 exact ⟨rfl,rfl⟩
def bN (a b:Int):Int:=if a<b then -1 else if b<a then 1 else 0
def oF (a b:List UInt8):Int:=if a<b then -1 else if a=b then 0 else 1
def fT:List Int->Int
 | []=>0
 | x::l=>if x≠0 then x else fT l
def c210:aw:=⟨[0,2],[],[],[],[],[]⟩
def c283:aw:=⟨[0,2],[],[],[],[],[]⟩
def c137:aw:=⟨[0,1,4,5,6,11,12,13,16,19],[],[],[],[],[]⟩
def c254:aw:=⟨[0,1,4,5,6,11,12,13,16,19],[],[],[],[],[]⟩
def c136:aw:=⟨[0,2,3,5,6,7,8,9,14],[],[],[],[],[]⟩
theorem s6 (a:Int):ae Tryz.prog 210 [.int .i64 a] [] (.bool false):=by refine aG (F:=Tryz.f210) c210 rfl rfl rfl mixed rfl fun X=>?_;(conv=>whnf);exact ⟨by simp,rfl⟩
theorem s7 (a:List UInt8):ae Tryz.prog 283 [.str a] [] (.bool false):=by refine aG (F:=Tryz.f283) c283 rfl rfl rfl mixed rfl fun X=>?_;(conv=>whnf);exact ⟨by simp,rfl⟩
theorem zm (a b:Int):ae Tryz.prog 137 [.int .i64 a,.int .i64 b] [] (.int .i64 (bN a b)):=by
 refine aG (F:=Tryz.f137) c137 rfl rfl rfl mixed rfl fun X=>?_;(conv=>whnf);repeat (refine ae.k0 (s6 _) ?_;conv=>whnf)
 refine cF rfl ?_;(conv=>whnf);refine cF rfl ?_;(conv=>whnf);refine ⟨fun h=>?_,fun h=>?_⟩<;>simp only [decide_eq_true_eq,decide_eq_false_iff_not] at h
 ·(conv=>whnf);exact ⟨by rw [bN,if_pos h],rfl⟩
 (conv=>whnf);refine ⟨fun h2=>?_,fun h2=>?_⟩<;>simp only [decide_eq_true_eq,decide_eq_false_iff_not] at h2
 ·(conv=>whnf);exact ⟨by rw [bN,if_neg h,if_pos h2],rfl⟩
 (conv=>whnf);exact ⟨by rw [bN,if_neg h,if_neg h2],rfl⟩
theorem s8 (a b:List UInt8):ae Tryz.prog 254 [.str a,.str b] [] (.int .i64 (oF a b)):=by
 refine aG (F:=Tryz.f254) c254 rfl rfl rfl mixed rfl fun X=>?_;(conv=>whnf);repeat (refine ae.k0 (s7 _) ?_;conv=>whnf)
 refine cF rfl ?_;(conv=>whnf);refine cF rfl ?_;(conv=>whnf);rw [bytesLess_eq];refine ⟨fun h=>?_,fun h=>?_⟩<;>simp only [decide_eq_true_eq,decide_eq_false_iff_not] at h
 ·(conv=>whnf);exact ⟨by rw [oF,if_pos h],rfl⟩
 (conv=>whnf);rw [bytesLess_eq];refine ⟨fun h2=>?_,fun h2=>?_⟩<;>simp [h] at h2
 ·(conv=>whnf);exact ⟨by rw [oF,if_neg h,if_neg h2],rfl⟩
 (conv=>whnf);exact ⟨by rw [oF,if_neg h,if_pos h2],rfl⟩
theorem Bu (l:List Int) (hl:l.length<=aq):ae Tryz.prog 136 [.sl 1 none (ints l)] [] (.int .i64 (fT l)):=by
 unfold aq at hl;refine aG (F:=Tryz.f136) c136 rfl rfl rfl mixed rfl fun X=>?_;(conv=>whnf);refine bM rfl mixed [3,6,7,8] [] (fun m r h=>∃ (i:Nat),r=[(3,[],.int .i64 0),(6,[],.sl 1 none (ints l)),(7,[],.int .i64 (ints l).length),(8,[],.int .i64 i)]/\h=[]/\m=l.length - i/\i<=l.length/\fT l=fT (l.drop i)) ?_ ?_
 ·(conv=>whnf);exact ⟨_,0,rfl,rfl,rfl,by omega,rfl⟩
 rintro m r h ⟨i,rfl,rfl,rfl,hi,hb⟩;(conv=>whnf);refine ⟨fun aD=>?_,fun aD=>?_⟩<;>simp at aD
 ·obtain ⟨c,hc⟩:=aN aD;rw [drop_cons hc,fT] at hb;(conv=>whnf);repeat (refine ix (by assumption) ?_;conv=>whnf)
  refine ⟨fun hq=>?_,fun hq=>?_⟩<;>simp at hq
  ·rw [if_pos hq] at hb;(conv=>whnf);exact ⟨by rw [hb],rfl⟩
  rw [if_neg (by simpa using hq)] at hb;(conv=>whnf);repeat (refine ⟨af ⟨by omega,by omega⟩,?_⟩;conv=>whnf)
  exact ⟨_,by omega,i+1,rfl,rfl,rfl,by omega,hb⟩
 rw [drop_nil aD,fT] at hb;(conv=>whnf);exact ⟨by rw [hb],rfl⟩
structure ao where
 kind:Int
 text:List UInt8
deriving DecidableEq
def aT (u:ao):List AV:=[.int .i64 u.kind,.str u.text]
def fl (a b:ao):Int:=fT [bN a.kind b.kind,oF a.text b.text]
def c220:aw:=⟨[0,1,2,3,4],[],[],[],[(1,[0,1,2,3,4,5,6,7,8,9,10,11,12],[])],[]⟩
theorem Sb (a b:ao):ae Tryz.prog 220 [.agg (aT a),.agg (aT b)] [] (.int .i64 (fl a b)):=by
 refine aG (F:=Tryz.f220) c220 rfl rfl rfl mixed rfl fun X=>?_;(conv=>whnf);repeat ((first|refine aX (zm _ _) ?_|refine aX (s8 _ _) ?_|refine aX (Bu [bN a.kind b.kind,oF a.text b.text] (by simp [aq])) ?_|refine And.intro (by show aJ (aH Tryz.f220 _) _=true;decide +kernel) ?_);conv=>whnf)
 exact ⟨rfl,rfl⟩
def c195:aw:=⟨[0,2,4],[5],[],[],[],[]⟩
def c196:aw:=⟨[0,2,4],[5],[],[],[],[]⟩
theorem s9 {l:List Int} (h:l≠[]):ints l≠[]:=by simpa [ints] using h
def Dk (k:Nat) (xs:List (List AV)) (v:AV) (h:ab):Prop:=(xs=[]/\v=.aW/\h=[])\/∃ q,v=.sl k (some q) xs/\h=[(q,.tok)]
theorem KR (l:List Int) (hl:l.length<=aV):ay Tryz.prog 195 [.sl 1 none (ints l)] [] (Dk 1 (ints l)):=by
 unfold aV at hl;by_cases h:l=[]
 ·subst h;refine ay.PT ?_ ?_
  ·refine aG (F:=Tryz.f195) c195 rfl rfl rfl mixed rfl fun X=>?_;(conv=>whnf);refine ⟨fun hc=>?_,fun hc=>?_⟩
   ·(conv=>whnf);exact .inl ⟨rfl,rfl,rfl⟩
   cases hc
  refine aG (F:=Tryz.f195) c195 rfl rfl rfl mixed rfl fun X=>?_;(conv=>whnf);refine ⟨fun hc=>?_,fun hc=>?_⟩
  ·cases hc
  (conv=>whnf);intro q;(conv=>whnf);refine ⟨by simp [aV],fun q'=>⟨_,.here _,?_⟩⟩;(conv=>whnf);exact .inr ⟨q',rfl,rfl⟩
 refine aG (F:=Tryz.f195) c195 rfl rfl rfl mixed rfl fun X=>?_;(conv=>whnf);refine ⟨s9 h,?_⟩;(conv=>whnf);refine ⟨fun hc=>?_,fun hc=>?_⟩
 ·cases hc
 (conv=>whnf);intro q;(conv=>whnf);refine ⟨by simp [aV];omega,fun q'=>⟨_,.here _,?_⟩⟩;(conv=>whnf);exact .inr ⟨q',rfl,rfl⟩
theorem Dk.ok {f:FuncId} {vs:List AV} {k:Nat} {xs:List (List AV)} (hk:0<k) (h:ay Tryz.prog f vs [] (Dk k xs)):ae Tryz.prog f vs [] (.sl k none xs):=by
 refine ae.of (ay.mono ?_ h);rintro v h' (⟨rfl,rfl,rfl⟩|⟨q,rfl,rfl⟩)
 ·exact ag.nil hk
 exact ag.sl
theorem KT (l:List Int) (hl:l.length<=aV):ae Tryz.prog 195 [.sl 1 none (ints l)] [] (.sl 1 none (ints l)):=Dk.ok (by decide) (KR l hl)
theorem u0 {α β:Type} {f:α->β} {l:List α} (h:l≠[]):l.map f≠[]:=by simpa using h
theorem u6 (l:List ao) (hl:l.length<=aV):ae Tryz.prog 196 [.sl 2 none (l.map aT)] [] (.sl 2 none (l.map aT)):=by
 refine Dk.ok (by decide) ?_;unfold aV at hl;by_cases h:l=[]
 ·subst h;refine ay.PT ?_ ?_
  ·refine aG (F:=Tryz.f196) c196 rfl rfl rfl mixed rfl fun X=>?_;(conv=>whnf);refine ⟨fun hc=>?_,fun hc=>?_⟩
   ·(conv=>whnf);exact .inl ⟨rfl,rfl,rfl⟩
   cases hc
  refine aG (F:=Tryz.f196) c196 rfl rfl rfl mixed rfl fun X=>?_;(conv=>whnf);refine ⟨fun hc=>?_,fun hc=>?_⟩
  ·cases hc
  (conv=>whnf);intro q;(conv=>whnf);refine ⟨by simp [aV],fun q'=>⟨_,.here _,?_⟩⟩;(conv=>whnf);exact .inr ⟨q',rfl,rfl⟩
 refine aG (F:=Tryz.f196) c196 rfl rfl rfl mixed rfl fun X=>?_;(conv=>whnf);refine ⟨u0 h,?_⟩;(conv=>whnf);refine ⟨fun hc=>?_,fun hc=>?_⟩
 ·cases hc
 (conv=>whnf);intro q;(conv=>whnf);refine ⟨by simp [aV];omega,fun q'=>⟨_,.here _,?_⟩⟩;(conv=>whnf);exact .inr ⟨q',rfl,rfl⟩
theorem Sc {l:List ao}:∀ z∈l.map aT,z.length=2:=by intro z hz;obtain ⟨u,_,rfl⟩:=List.mem_map.1 hz;rfl
theorem u7 (b:Nat) (l:List ao) (Z:List AV) (hl:l.length<=aV):ae Tryz.prog 196 [.aR b 0 l.length 2] [(b,.vec ((l.map aT).flatten++Z))] (.sl 2 none (l.map aT)):=by
 refine ay.post (R:=fun v h'=>∃ q,v=.sl 2 (some q) (l.map aT)/\h'=(q,.tok)::[(b,.vec ((l.map aT).flatten++Z))]) ?_ ?_
 ·refine aG (F:=Tryz.f196) c196 rfl rfl rfl mixed rfl fun X=>?_;(conv=>whnf);refine ⟨fun hc=>?_,fun hc=>?_⟩
  ·cases hc
  (conv=>whnf);intro q;(conv=>whnf);have eO:((l.map aT).flatten).length=l.length*2:=(by rw [kZ Sc,List.length_map]);refine ⟨_,l.map aT,.tail _ (.head _),⟨by rw [List.drop_zero,List.take_append_of_le_length (by omega),List.take_of_length_le (by omega)],Sc,by simp⟩,by simp only [List.nil_append,List.length_map];exact hl,fun q'=>⟨_,.here _,?_⟩⟩;(conv=>whnf);exact ⟨q',rfl,rfl⟩
 rintro v h1 ⟨q,rfl,rfl⟩;exact ⟨_,_,⟨rfl,rfl⟩,ag.sl,fun k o hm=>List.mem_cons_of_mem _ hm,fun dZ=>(List.nodup_cons.1 dZ).2⟩
def c158:aw:=⟨[0,1,4,5,10,12,13,14,24],[],[],[],[(6,[0,1,2,3,4,5,6,7,8],[])],[]⟩
def c218:aw:=⟨[0,1,3,4,5,7,8,9,16],[],[],[],[(4,[0,1,2,3,4,5],[])],[]⟩
def c152:aw:=⟨[0,1,3,4],[],[],[],[],[]⟩
theorem u9 (a b:List Int) (ha:a.length<=aq) (hb:b.length<=aq):ae Tryz.prog 158 [.sl 1 none (ints a),.sl 1 none (ints b)] [] (.bool (decide (a=b))):=by
 unfold aq at ha hb;refine aG (F:=Tryz.f158) c158 rfl rfl rfl mixed rfl fun X=>?_;(conv=>whnf);refine ⟨fun hc=>?_,fun hc=>?_⟩<;>simp at hc
 ·(conv=>whnf);exact ⟨congrArg AV.bool (decide_eq_false fun e=>hc (by rw [e])).symm,rfl⟩
 (conv=>whnf);refine bM rfl mixed [0,1,12,13] [] (fun m r h=>∃ (i:Nat),r=[(0,[],.sl 1 none (ints a)),(1,[],.sl 1 none (ints b)),(12,[],.int .i64 (ints a).length),(13,[],.int .i64 i)]/\h=[]/\m=a.length - i/\i<=a.length/\∀ j,j<i->a[j]?=b[j]?) ?_ ?_
 ·(conv=>whnf);exact ⟨_,0,rfl,rfl,rfl,by omega,fun j hj=>by omega⟩
 rintro m r h ⟨i,rfl,rfl,rfl,hi,hg⟩;(conv=>whnf);refine ⟨fun aD=>?_,fun aD=>?_⟩<;>simp at aD
 ·obtain ⟨x,hx⟩:=aN aD;obtain ⟨y,hy⟩:=aN (show i<b.length by omega);(conv=>whnf);repeat ((first|refine ix (by assumption) ?_|refine And.intro (by show aJ (aH Tryz.f158 _) _=true;decide +kernel) ?_);conv=>whnf)
  refine ⟨fun hq=>?_,fun hq=>?_⟩<;>simp at hq
  ·(conv=>whnf);exact ⟨congrArg AV.bool (decide_eq_false fun e=>hq (by rw [e,hy] at hx;exact (Option.some.inj hx).symm)).symm,rfl⟩
  (conv=>whnf);repeat (refine ⟨af ⟨by omega,by omega⟩,?_⟩;conv=>whnf)
  refine ⟨_,by omega,i+1,rfl,rfl,rfl,by omega,fun j hj=>?_⟩;rcases Nat.lt_succ_iff_lt_or_eq.1 hj with h'|rfl
  ·exact hg j h'
  rw [hx,hy,hq]
 (conv=>whnf);refine ⟨congrArg AV.bool (decide_eq_true ?_).symm,rfl⟩;refine List.ext_getElem? fun j=>?_;by_cases hj:j<i
 ·exact hg j hj
 rw [List.getElem?_eq_none (by omega),List.getElem?_eq_none (by omega)]
theorem Dg:pQ Tryz.prog 128=true:=by decide +kernel
def mg (a b:ao):Bool:=decide (a.kind=b.kind)&&(decide (a.text=b.text)&&true)
theorem tE (a b:ao):mg a b=decide (a=b):=by obtain ⟨a1,a2⟩:=a;obtain ⟨b1,b2⟩:=b;unfold mg;rw [Bool.eq_iff_iff];simp
theorem v7 (l:List ao) (u:ao) (hl:l.length<=aq):ae Tryz.prog 218 [.sl 2 none (l.map aT),.agg (aT u)] [] (.int .i64 (jK (mg u) l)):=by
 unfold aq at hl;refine aG (F:=Tryz.f218) c218 rfl rfl rfl mixed rfl fun X=>?_;(conv=>whnf);refine bM rfl mixed [0,3,7,8] [] (fun m r h=>∃ (i:Nat),r=[(0,[],.sl 2 none (l.map aT)),(3,[],.au (aT u)),(7,[],.int .i64 (l.map aT).length),(8,[],.int .i64 i)]/\h=[]/\m=l.length - i/\i<=l.length/\Below (mg u) l i) ?_ ?_
 ·(conv=>whnf);exact ⟨_,0,rfl,rfl,rfl,by omega,.zero⟩
 rintro m r h ⟨i,rfl,rfl,rfl,hi,hg⟩;(conv=>whnf);refine ⟨fun hc=>?_,fun hc=>?_⟩<;>simp at hc
 ·obtain ⟨x,hx⟩:=aN hc;(conv=>whnf);repeat ((first|refine ix (by assumption) ?_|refine And.intro (by show aJ (aH Tryz.f218 _) _=true;decide +kernel) ?_);conv=>whnf)
  refine ⟨Dg,?_⟩;(conv=>whnf);refine ⟨fun hd=>?_,fun hd=>?_⟩
  ·(conv=>whnf);exact ⟨by rw [hg.at hx hd],rfl⟩
  (conv=>whnf);repeat (refine ⟨af ⟨by omega,by omega⟩,?_⟩;conv=>whnf)
  exact ⟨_,by omega,i+1,rfl,rfl,rfl,by omega,hg.succ hx hd⟩
 (conv=>whnf);exact ⟨by rw [hg.end hc],rfl⟩
theorem v8 (l:List ao) (u:ao) (hl:l.length<=aq):ae Tryz.prog 152 [.sl 2 none (l.map aT),.agg (aT u)] [] (.bool (l.any (mg u))):=by
 refine aG (F:=Tryz.f152) c152 rfl rfl rfl mixed rfl fun X=>?_;(conv=>whnf);repeat (refine ae.k0 (v7 l u hl) ?_;conv=>whnf)
 exact ⟨congrArg AV.bool (vc _ l),rfl⟩
end Go.Abs.Wall
namespace Go.Abs.Wall
open Go Go.Abs Go.Proofs
def ni {α:Type} (cmp:α->α->Int) (l:List α):List α:=l.mergeSort fun a b=>!decide (cmp b a<0)
structure FY {α:Type} (cmp:α->α->Int):Prop where
 rP:∀ x,¬ cmp x x<0
 tr:∀ x y z,cmp x y<0->cmp y z<0->cmp x z<0
 nt:∀ x y z,¬ cmp x y<0->¬ cmp y z<0->¬ cmp x z<0
 uu:∀ x y,¬ cmp x y<0->¬ cmp y x<0->x=y
structure oG {α:Type} (cmp:α->α->Int):Prop where
 rP:∀ x,¬ cmp x x<0
 tr:∀ x y z,cmp x y<0->cmp y z<0->cmp x z<0
 nt:∀ x y z,¬ cmp x y<0->¬ cmp y z<0->¬ cmp x z<0
theorem FY.w {α:Type} {cmp:α->α->Int} (h:FY cmp):oG cmp:=⟨h.rP,h.tr,h.nt⟩
theorem zz {α:Type} {cmp:α->α->Int} {l:List α}:(ni cmp l).Perm l:=List.mergeSort_perm _ _
theorem oG.sorted {α:Type} {cmp:α->α->Int} (h:oG cmp) (l:List α):(ni cmp l).Pairwise fun x y=>¬ cmp y x<0:=by
 have:=List.pairwise_mergeSort (le:=fun a b=>!decide (cmp b a<0)) (by
  intro a b c h1 h2;simp only [Bool.not_eq_true',decide_eq_false_iff_not] at h1 h2 ⊢;exact h.nt c b a h2 h1) (by
  intro a b;simp only [Bool.or_eq_true,Bool.not_eq_true',decide_eq_false_iff_not];by_cases hc:cmp b a<0
  ·exact .inr fun h2=>h.rP _ (h.tr _ _ _ hc h2)
  exact .inl hc) l
 refine List.Pairwise.imp ?_ this;intro a b se;simpa using se
theorem oG.unique {α:Type} {cmp:α->α->Int} (h:oG cmp) {l l':List α} (ha:∀ x∈l,∀ y∈l,¬ cmp x y<0->¬ cmp y x<0->x=y) (hp:l'.Perm l) (hs:l'.Pairwise fun x y=>¬ cmp y x<0):l'=ni cmp l:=
 List.Perm.eq_of_pairwise (le:=fun x y=>¬ cmp y x<0) (fun a b h3 h4 h1 h2=>ha a (hp.mem_iff.1 h3) b (zz.mem_iff.1 h4) h2 h1) hs (h.sorted l) (hp.trans zz.symm)
theorem rN {α:Type} {cmp:α->α->Int} {l:List α}:(ni cmp l).length=l.length:=zz.length_eq
theorem HZ {α:Type} {cmp:α->α->Int} {l:List α} {a:α}:a∈ni cmp l↔a∈l:=zz.mem_iff
section
variable {f g k:Nat} {α:Type} {enc:α->List AV} {dec:List AV->α}
theorem KJ (iv:0<k) (hf:sW Tryz.prog f) (hg:sW Tryz.prog g) (hs:yF Tryz.prog f g k) (cmp:α->α->Int) (hd:∀ a,dec (enc a)=a) (hk:∀ a,(enc a).length=k) (ho:oG cmp) (xs:List α) (ha:∀ x∈xs,∀ y∈xs,¬ cmp x y<0->¬ cmp y x<0->x=y) (aI:xs≠[]) (iS:xs.length<=4294967296)
  (yG:∀ x∈xs,∀ y∈xs,ae Tryz.prog g [.agg (enc x),.agg (enc y)] [] (.int .i64 (cmp x y))) (b:Nat) :
  ay Tryz.prog f [.aR b 0 xs.length k,.fn g []] [(b,.vec (xs.map enc).flatten)] (fun v h'=>v=.aQ []/\h'=[(b,.vec ((ni cmp xs).map enc).flatten)]):=by
 have hinv:∀ x∈xs.map enc,enc (dec x)=x:=by intro x hx;obtain ⟨a,_,rfl⟩:=List.mem_map.1 hx;rw [hd]
 have h1:=YS iv hf hg hs (fun x y=>cmp (dec x) (dec y)) (xs.map enc) (by
   intro x hx;obtain ⟨a,_,rfl⟩:=List.mem_map.1 hx;exact hk a) (by simpa using aI) (by simpa using iS) (by
   intro x hx y hy;obtain ⟨a,ha,rfl⟩:=List.mem_map.1 hx;obtain ⟨c,hc,rfl⟩:=List.mem_map.1 hy;rw [hd,hd];exact yG a ha c hc) (fun x _=>ho.rP _) (fun x _ y _ z _=>ho.tr _ _ _) (fun x _ y _ z _=>ho.nt _ _ _) b
 rw [List.length_map] at h1;refine ay.mono ?_ h1;rintro v h' ⟨rfl,ys,rfl,hp,hy⟩;refine ⟨rfl,?_⟩;have kf:ys=(ys.map dec).map enc:=by rw [List.map_map];symm;refine (List.map_congr_left fun y hy=>?_).trans (List.map_id _);exact hinv y (hp.mem_iff.1 hy)
 have tT:(ys.map dec).Perm xs:=by have:=hp.map dec;rw [List.map_map] at this;refine this.trans (List.Perm.of_eq ?_);refine (List.map_congr_left fun a _=>?_).trans (List.map_id _);exact hd a
 have qc:(ys.map dec).Pairwise fun x y=>¬ cmp y x<0:=by rw [List.pairwise_map];exact hy
 rw [ho.unique ha tT qc] at kf;rw [kf]
theorem w6 (iv:0<k) (hf:sW Tryz.prog f) (hg:sW Tryz.prog g) (hs:yF Tryz.prog f g k) (cmp:α->α->Int) (hd:∀ a,dec (enc a)=a) (hk:∀ a,(enc a).length=k) (ho:FY cmp) (xs:List α) (aI:xs≠[]) (iS:xs.length<=4294967296)
  (yG:∀ x∈xs,∀ y∈xs,ae Tryz.prog g [.agg (enc x),.agg (enc y)] [] (.int .i64 (cmp x y))) (b:Nat) :
  ay Tryz.prog f [.aR b 0 xs.length k,.fn g []] [(b,.vec (xs.map enc).flatten)] (fun v h'=>v=.aQ []/\h'=[(b,.vec ((ni cmp xs).map enc).flatten)]):=
 KJ iv hf hg hs cmp hd hk ho.w xs (fun x _ y _=>ho.uu x y) aI iS yG b
end
theorem sN {a b:Int}:bN a b<0↔a<b:=by unfold bN;split<;>(try split)<;>omega
theorem kT {a b:Int}:bN a b=0↔a=b:=by unfold bN;split<;>(try split)<;>omega
theorem Ay {a b:List UInt8}:oF a b<0↔a<b:=by
 unfold oF;by_cases h:a<b
 ·simp [h]
 rw [if_neg h];split<;>simp [h]
theorem w7 {a b:List UInt8}:oF a b=0↔a=b:=by
 unfold oF;by_cases h:a<b
 ·rw [if_pos h];exact ⟨fun h=>(by cases h),fun e=>(by subst e;exact absurd h (List.lt_irrefl _))⟩
 rw [if_neg h];split<;>simp_all
structure iX {α:Type} (c:α->α->Int):Prop where
 zero:∀ x y,c x y=0↔x=y
 qd:∀ x y,c x y<0↔0<c y x
 tr:∀ x y z,c x y<0->c y z<0->c x z<0
theorem iX.c {α:Type} {c:α->α->Int} (h:iX c):FY c:=by
 have hn:∀ x y,¬ c x y<0->x=y\/c y x<0:=by
  intro x y hh;by_cases hz:c x y=0
  ·exact .inl ((h.zero _ _).1 hz)
  exact .inr ((h.qd y x).2 (by omega))
 have hi:∀ x,¬ c x x<0:=fun x=>by have:=(h.zero x x).2 rfl;omega
 refine ⟨hi,h.tr,fun x y z a b=>?_,fun x y a b=>?_⟩
 ·rcases hn _ _ a with rfl|a
  ·exact b
  rcases hn _ _ b with rfl|b
  ·intro hh;exact hi _ (h.tr _ _ _ a hh)
  intro hh;exact hi _ (h.tr _ _ _ (h.tr _ _ _ b a) hh)
 rcases hn _ _ a with rfl|a
 ·rfl
 exact absurd a b
def jt {β γ:Type} (c1:β->β->Int) (c2:γ->γ->Int) (a b:β × γ):Int:=if c1 a.1 b.1≠0 then c1 a.1 b.1 else c2 a.2 b.2
theorem iX.jt {β γ:Type} {c1:β->β->Int} {c2:γ->γ->Int} (h1:iX c1) (h2:iX c2):iX (Wall.jt c1 c2):=by
 have aL:∀ a b,Wall.jt c1 c2 a b<0↔c1 a.1 b.1<0\/(a.1=b.1/\c2 a.2 b.2<0):=by
  intro a b;unfold Wall.jt;split
  ·rename_i h;have:a.1≠b.1:=fun e=>h ((h1.zero _ _).2 e);simp [this]
  rename_i h;have e0:c1 a.1 b.1=0:=(by simpa using h);have e:a.1=b.1:=(h1.zero _ _).1 e0;simp [e] at *;omega
 have w8:∀ a b,0<Wall.jt c1 c2 a b↔0<c1 a.1 b.1\/(a.1=b.1/\0<c2 a.2 b.2):=by
  intro a b;unfold Wall.jt;split
  ·rename_i h;have:a.1≠b.1:=fun e=>h ((h1.zero _ _).2 e);simp [this]
  rename_i h;have e0:c1 a.1 b.1=0:=(by simpa using h);have e:a.1=b.1:=(h1.zero _ _).1 e0;simp [e] at *;omega
 refine ⟨fun a b=>?_,fun a b=>?_,fun a b d x y=>?_⟩
 ·unfold Wall.jt;split
  ·rename_i h;exact ⟨fun e=>absurd e h,fun e=>by subst e;exact absurd ((h1.zero _ _).2 rfl) h⟩
  rename_i h;have e:a.1=b.1:=(h1.zero _ _).1 (by simpa using h);rw [h2.zero];exact ⟨fun e2=>Prod.ext e e2,fun e2=>by rw [e2]⟩
 ·rw [aL,w8,h1.qd,h2.qd];constructor
  ·rintro (h|⟨h,h'⟩)
   ·exact .inl h
   exact .inr ⟨h.symm,h'⟩
  rintro (h|⟨h,h'⟩)
  ·exact .inl h
  exact .inr ⟨h.symm,h'⟩
 rw [aL] at x y ⊢;rcases x with x|⟨ex,x⟩<;>rcases y with y|⟨ey,y⟩
 ·exact .inl (h1.tr _ _ _ x y)
 ·exact .inl (by rw [<- ey];exact x)
 ·exact .inl (by rw [ex];exact y)
 exact .inr ⟨ex.trans ey,h2.tr _ _ _ x y⟩
theorem iX.of {α β:Type} {c:β->β->Int} (h:iX c) (f:α->β) (hf:∀ a b,f a=f b->a=b):iX fun a b=>c (f a) (f b):=
 ⟨fun a b=>by rw [h.zero];exact ⟨hf a b,fun e=>by rw [e]⟩,fun a b=>h.qd _ _,fun a b d=>h.tr _ _ _⟩
def cu {α:Type} (c:α->α->Int):List α->List α->Int
 | [],[]=>0
 | [],_::_=>-1
 | _::_,[]=>1
 | a::s,b::t=>if c a b≠0 then c a b else cu c s t
theorem iX.cu {α:Type} {c:α->α->Int} (h:iX c):iX (Wall.cu c):=by
 have hz:∀ x y,Wall.cu c x y=0↔x=y:=by
  intro x;induction x with
  | nil=>intro y;cases y<;>simp [Wall.cu]
  | cons a s ih=>
    intro y;cases y with
    | nil=>simp [Wall.cu]
    | cons b t=>
      unfold Wall.cu;split
      ·rename_i hn;exact ⟨fun e=>absurd e hn,fun e=>by cases e;exact absurd ((h.zero _ _).2 rfl) hn⟩
      rename_i hn;have e:a=b:=(h.zero _ _).1 (by simpa using hn);rw [ih];simp [e]
 have hs:∀ x y,Wall.cu c x y<0↔0<Wall.cu c y x:=by
  intro x;induction x with
  | nil=>intro y;cases y<;>simp [Wall.cu]
  | cons a s ih=>
    intro y;cases y with
    | nil=>simp [Wall.cu]
    | cons b t=>
      unfold Wall.cu;have Sd:c a b=0↔c b a=0:=by rw [h.zero,h.zero];exact ⟨Eq.symm,Eq.symm⟩
      by_cases hn:c a b=0
      ·rw [if_neg (by simpa using hn),if_neg (by simpa using Sd.1 hn)];exact ih t
      rw [if_pos hn,if_pos (fun e=>hn (Sd.2 e))];exact h.qd _ _
 refine ⟨hz,hs,?_⟩;intro x;induction x with
 | nil=>
   intro y z h1 h2;cases y with
   | nil=>simp [Wall.cu] at h1
   | cons b t=>cases z with
     | nil=>simp [Wall.cu] at h2
     | cons d u=>simp [Wall.cu]
 | cons a s ih=>
   intro y z h1 h2;cases y with
   | nil=>simp [Wall.cu] at h1
   | cons b t=>cases z with
     | nil=>simp [Wall.cu] at h2
     | cons d u=>
       unfold Wall.cu at h1 h2 ⊢;have QO:∀ x,¬ c x x<0:=fun x=>by have:=(h.zero x x).2 rfl;omega
       by_cases e1:c a b=0
       ·have w9:=(h.zero _ _).1 e1;subst w9;rw [if_neg (by simpa using e1)] at h1;by_cases e2:c a d=0
        ·rw [if_neg (by simpa using e2)] at h2 ⊢;exact ih t u h1 h2
        rw [if_pos e2] at h2 ⊢;exact h2
       rw [if_pos e1] at h1;by_cases e2:c b d=0
       ·have x9:=(h.zero _ _).1 e2;subst x9;rw [if_pos e1];exact h1
       rw [if_pos e2] at h2;have h3:=h.tr _ _ _ h1 h2;rw [if_pos (by omega)];exact h3
theorem zI:iX bN:=⟨fun _ _=>kT,fun x y=>by unfold bN;split<;>(try split)<;>(try split)<;>omega,fun x y z=>by rw [sN,sN,sN];omega⟩
theorem zS:iX oF:=⟨fun _ _=>w7,fun x y=>by
  rw [Ay];unfold oF;by_cases h:y<x
  ·rw [if_pos h];exact ⟨fun h2=>absurd (List.lt_trans h h2) (List.lt_irrefl _),fun h2=>by omega⟩
  rw [if_neg h];by_cases e:y=x
  ·rw [if_pos e,e];exact ⟨fun h2=>absurd h2 (List.lt_irrefl _),fun h2=>by omega⟩
  rw [if_neg e];refine ⟨fun _=>by omega,fun _=>?_⟩;refine Classical.byContradiction fun hx=>?_;rw [List.not_lt] at h hx;exact e (List.le_antisymm hx h),
 fun x y z=>by rw [Ay,Ay,Ay];exact List.lt_trans⟩
theorem yN (x y:Int):fT [x,y]=if x≠0 then x else y:=by
 simp only [fT];split
 ·rfl
 split
 ·rfl
 omega
theorem zU:iX fl:=by
 have h:=(iX.jt zI zS).of (fun u:ao=>(u.kind,u.text)) (fun a b h=>by cases a;cases b;simp_all);have he:fl=fun a b=>jt bN oF (a.kind,a.text) (b.kind,b.text):=by funext a b;exact yN _ _
 rw [he];exact h
def FZ:List AV->ao
 | [.int _ k,.str t]=>⟨k,t⟩
 | _=>⟨0,[]⟩
def tG (l:List ao):List ao:=ni fl l
theorem y0:yF Tryz.prog 219 220 2:=
 Kw Tryz.YJ 2 220 Tryz.isAgg128 Tryz.sizeOf128 (fun args w=>AX ⟨Tryz.f220,_,rfl,rfl,rfl⟩)
def c219:aw:=⟨[0,1,4],[],[],[],[],[]⟩
def c253:aw:=⟨[0,1,2,3,4,10,11,12,13,14,15,16,17,18,19,20,25,32,39,56,75,80,97,125],[],[],[],[(17,[0,1,2,3,4,5,6,7,8,9,10,11,12,13,14,15,16],[])],[]⟩
def c135:aw:=⟨[0,2],[],[],[],[],[]⟩
def c209:aw:=⟨[0,2,4,8,14],[],[],[],[],[]⟩
def c275:aw:=⟨[0,1,2,3,8,9,14,34],[],[],[],[(4,[0,1,2,3,4,5,6,7,8,9,10,11,12,13,14,15,16],[]),(6,[0,1,2,3,4,5,6,7,8,9,10,11,12,13,14,15,16,17],[])],[]⟩
theorem y4:ae Tryz.prog 209 [.int .u64 0] [] (.int .i64 0):=by
 refine aG (F:=Tryz.f209) c209 rfl rfl rfl mixed rfl fun X=>?_;(conv=>whnf);refine cF rfl ?_;(conv=>whnf);refine cF rfl ?_;(conv=>whnf);refine cF rfl ?_;(conv=>whnf);repeat ((first|(refine ⟨0,0,af ⟨rfl,rfl⟩,?_⟩)|(refine ⟨af ⟨by decide,by decide⟩,?_⟩));conv=>whnf)
 exact ⟨rfl,rfl⟩
theorem bitsLen:ae Tryz.prog 135 [.int .u64 0] [] (.int .i64 0):=by
 refine aG (F:=Tryz.f135) c135 rfl rfl rfl mixed rfl fun X=>?_;(conv=>whnf);refine cF rfl ?_;(conv=>whnf);repeat (refine ae.k0 (y4) ?_;conv=>whnf)
 exact ⟨rfl,rfl⟩
theorem y5 (c:FuncId):ae Tryz.prog 275 [.aW,.int .i64 0,.int .i64 0,.fn c []] [] (.aQ []):=by
 refine aG (F:=Tryz.f275) c275 rfl rfl rfl mixed rfl fun X=>?_;(conv=>whnf);repeat (refine ⟨af ⟨by omega,by omega⟩,?_⟩;conv=>whnf)
 refine bM rfl mixed [0,1,2,3,8] [] (fun m r h=>r=[(0,[],.aW),(1,[],.int .i64 0),(2,[],.int .i64 0),(3,[],.fn c []),(8,[],.int .i64 1)]/\h=[]/\m=0/\True) ?_ ?_
 ·(conv=>whnf);exact ⟨_,rfl,rfl,rfl,trivial⟩
 rintro m r h ⟨rfl,rfl,rfl,_⟩;(conv=>whnf);refine cF rfl ?_;(conv=>whnf);exact ⟨rfl,rfl⟩
theorem y6 (c:FuncId):ae Tryz.prog 253 [.aW,.int .i64 0,.int .i64 0,.int .i64 0,.fn c []] [] (.aQ []):=by
 refine aG (F:=Tryz.f253) c253 rfl rfl rfl mixed rfl fun X=>?_;(conv=>whnf);skip;refine bM rfl mixed [0,1,2,3,4,10,11] [] (fun m r h=>r=[(0,[],.aW),(1,[],.int .i64 0),(2,[],.int .i64 0),(3,[],.int .i64 0),(4,[],.fn c []),(10,[],.bool true),(11,[],.bool true)]/\h=[]/\m=0/\True) ?_ ?_
 ·(conv=>whnf);exact ⟨_,rfl,rfl,rfl,trivial⟩
 rintro m r h ⟨rfl,rfl,rfl,_⟩;(conv=>whnf);repeat (refine ⟨af ⟨by omega,by omega⟩,?_⟩;conv=>whnf)
 refine cT rfl ?_;(conv=>whnf);repeat (refine ae.k0 (y5 c) ?_;conv=>whnf)
 exact ⟨rfl,rfl⟩
theorem y7 (c:FuncId):ae Tryz.prog 219 [.fM,.fn c []] [] (.aQ []):=by
 refine ae.args (wJ:=[.aW,.fn c []]) ?_ (.cons (by intro c u h;simpa [aa] using h) (.cons (ag.refl _) .nil));refine aG (F:=Tryz.f219) c219 rfl rfl rfl mixed rfl fun X=>?_;(conv=>whnf);repeat ((first|refine ae.k0 (bitsLen) ?_|refine ae.k0 (y6 c) ?_);conv=>whnf)
 exact ⟨rfl,rfl⟩
theorem y8 (b:Nat) (xs:List ao) (aI:xs≠[]) (iS:xs.length<=4294967296) :
  ay Tryz.prog 219 [.aR b 0 xs.length 2,.fn 220 []] [(b,.vec (xs.map aT).flatten)] (fun v h'=>v=.aQ []/\h'=[(b,.vec ((tG xs).map aT).flatten)]):=
 w6 (by decide) ⟨Tryz.f219,_,rfl,rfl,rfl⟩ ⟨Tryz.f220,_,rfl,rfl,rfl⟩ y0 fl (dec:=FZ) (fun a=>rfl) (fun a=>rfl) zU.c xs aI iS (fun x _ y _=>Sb x y) b
end Go.Abs.Wall
namespace Go.Abs.Wall
open Go Go.Abs Go.Proofs
structure yQ where
 spell:Int
 EO:Int
 dM:Int
 cls:Int
 nH:Int
structure ax where
 list:Lst
 lex:Lex
 cq:yQ
 period:Int
def Se (c:yQ):List AV:=[.int .i64 c.spell,.int .i64 c.EO,.int .i64 c.dM,.int .i64 c.cls,.int .i64 c.nH]
def bJ (H:ax):List AV:=pG H.list++(eV H.lex++(Se H.cq++[.int .i64 H.period]))
structure eP (H:ax):Prop where
 list:yJ H.list
 lex:rh H.lex
def iB (c:yQ):List Int:=[c.spell,c.EO,c.dM,c.cls,c.nH]
def eG (H:ax):Int:=
 if kS H.list≠0 then kS H.list
 else if gN H.lex≠0 then gN H.lex
 else if (iB H.cq).all (bG · 0 1000)=false then 50
 else if bG H.period 1 H.list.iD=false then 13
 else 0
def c69:aw:=⟨[0,1,2,3,4,6,11,17,34,35,36,37,42,50],[],[],[],[],[]⟩
theorem Jb (H:ax) (hh:eP H):ae Tryz.prog 69 [.agg (bJ H)] [] (.int .i64 (eG H)):=by
 refine aG (F:=Tryz.f69) c69 rfl rfl rfl mixed rfl fun X=>?_;(conv=>whnf);repeat (refine ae.k0 (ZA H.list hh.list) ?_;conv=>whnf)
 refine ⟨fun hc=>?_,fun hc=>?_⟩<;>simp at hc
 ·(conv=>whnf);exact ⟨by rw [eG,if_pos hc],rfl⟩
 (conv=>whnf);repeat (refine ae.k0 (RV H.lex hh.lex) ?_;conv=>whnf)
 refine ⟨fun hd=>?_,fun hd=>?_⟩<;>simp at hd
 ·(conv=>whnf);exact ⟨by rw [eG,if_neg (by omega),if_pos hd],rfl⟩
 have h0:eG H=if (iB H.cq).all (bG · 0 1000)=false then 50 else if bG H.period 1 H.list.iD=false then 13 else 0:=(by rw [eG,if_neg (by omega),if_neg (by omega)]);(conv=>whnf);skip;refine bM rfl mixed [1,34,35,36] [] (fun m r h=>∃ (i:Nat),r=[(1,[],.au (bJ H)),(34,[],.sl 1 none (ints (iB H.cq))),(35,[],.int .i64 5),(36,[],.int .i64 i)]/\h=[]/\m=5 - i/\i<=5/\(iB H.cq).all (bG · 0 1000)=((iB H.cq).drop i).all (bG · 0 1000)) ?_ ?_
 ·(conv=>whnf);exact ⟨_,0,rfl,rfl,rfl,by omega,rfl⟩
 rintro m r h' ⟨i,rfl,rfl,rfl,hi,hb⟩;(conv=>whnf);refine ⟨fun aD=>?_,fun aD=>?_⟩<;>simp at aD
 ·obtain ⟨c,hc⟩:=aN (l:=iB H.cq) (i:=i) (by show i<5;omega);rw [drop_cons hc,List.all_cons] at hb;(conv=>whnf);repeat ((first|refine ix (by assumption) ?_|refine ae.k0 (within _ _ _) ?_);conv=>whnf)
  refine ⟨fun hq=>?_,fun hq=>?_⟩
  ·have hq:(!bG c 0 1000)=true:=hq;rw [Bool.not_eq_true'] at hq;rw [hq,Bool.false_and] at hb;(conv=>whnf);exact ⟨by rw [h0,if_pos hb],rfl⟩
  have hq:(!bG c 0 1000)=false:=hq;rw [Bool.not_eq_false'] at hq;rw [hq,Bool.true_and] at hb;(conv=>whnf);repeat (refine ⟨af ⟨by omega,by omega⟩,?_⟩;conv=>whnf)
  exact ⟨_,by omega,i+1,rfl,rfl,rfl,by omega,hb⟩
 rw [drop_nil (by show 5<=i;omega),List.all_nil] at hb;(conv=>whnf);repeat (refine ae.k0 (within _ _ _) ?_;conv=>whnf)
 refine ⟨fun hq=>?_,fun hq=>?_⟩
 ·have hq:(!bG H.period 1 H.list.iD)=true:=hq;rw [Bool.not_eq_true'] at hq;(conv=>whnf);exact ⟨by rw [h0,if_neg (by rw [hb];decide),if_pos hq],rfl⟩
 have hq:(!bG H.period 1 H.list.iD)=false:=hq;rw [Bool.not_eq_false'] at hq;(conv=>whnf);exact ⟨by rw [h0,if_neg (by rw [hb];decide),if_neg (by rw [hq];decide)],rfl⟩
def eb (H:ax) (line:List Int):Int:=
 if eG H≠0 then eG H
 else if 60<line.length then 2
 else if line.any (fun s=>!bG s 0 ((H.list.aB.length:Int) - 1))=true then 23
 else 0
def c92:aw:=⟨[0,1,2,4,5,9,13,16],[],[],[],[],[]⟩
def c149:aw:=⟨[0,1,3],[],[],[],[],[]⟩
theorem y9 (H:ax) (hh:eP H) (s:Int):ae Tryz.prog 149 [.int .i64 s,.au (bJ H)] [] (.bool (!bG s 0 ((H.list.aB.length:Int) - 1))):=by
 have h1:=hh.list.aB;unfold aq at h1;refine aG (F:=Tryz.f149) c149 rfl rfl rfl mixed rfl fun X=>?_;(conv=>whnf);repeat ((first|refine ae.k0 (within _ _ _) ?_|(refine ⟨af ⟨by rw [List.length_map];omega,by rw [List.length_map];omega⟩,?_⟩));conv=>whnf)
 refine ⟨?_,rfl⟩;rw [List.length_map];rfl
theorem GY (H:ax) (line:List Int) (hh:eP H) (hl:line.length<=aq):ae Tryz.prog 92 [.agg (bJ H),.sl 1 none (ints line)] [] (.int .i64 (eb H line)):=by
 refine aG (F:=Tryz.f92) c92 rfl rfl rfl mixed rfl fun X=>?_;(conv=>whnf);repeat (refine ae.k0 (Jb H hh) ?_;conv=>whnf)
 refine ⟨fun hc=>?_,fun hc=>?_⟩<;>simp at hc
 ·(conv=>whnf);exact ⟨by rw [eb,if_pos hc],rfl⟩
 (conv=>whnf);refine ⟨fun hd=>?_,fun hd=>?_⟩<;>simp at hd
 ·(conv=>whnf);exact ⟨by rw [eb,if_neg (by omega),if_pos (by omega)],rfl⟩
 (conv=>whnf);repeat (refine ae.k0 (Zy line hl 149 [.au (bJ H)] (fun s=>!bG s 0 ((H.list.aB.length:Int) - 1)) (fun s _=>y9 H hh s)) ?_;conv=>whnf)
 refine ⟨fun he=>?_,fun he=>?_⟩
 ·(conv=>whnf);exact ⟨by rw [eb,if_neg (by omega),if_neg (by omega),if_pos he],rfl⟩
 (conv=>whnf);exact ⟨by rw [eb,if_neg (by omega),if_neg (by omega),if_neg (by rw [he];decide)],rfl⟩
def jT (v:cV):List ao:=
 if v.kind=1 then [⟨1,v.text⟩,⟨3,v.text⟩]
 else if v.kind=2 then [⟨2,v.text⟩]
 else if v.kind=3 then [⟨4,v.text⟩]
 else []
def jM (p:Int):List cV->List ao
 | []=>[]
 | v::t=>(if bG p v.fr v.to then jT v else [])++jM p t
def nz (p:Int) (s:eA):List ao:=tG (jM p s.values)
theorem Sf (v:cV):(jT v).length<=2:=by unfold jT;split<;>(try split)<;>(try split)<;>simp
theorem Ga (p:Int):∀ l:List cV,(jM p l).length<=2*l.length
 | []=>by simp [jM]
 | v::t=>by
   have h1:=Ga p t;have h2:=Sf v;unfold jM;rw [List.length_append,List.length_cons];split
   ·omega
   simp;omega
theorem Sg (p:Int) (v:cV):∀ l:List cV,jM p (l++[v])=jM p l++(if bG p v.fr v.to then jT v else [])
 | []=>by simp [jM]
 | a::t=>by have:=Sg p v t;simp only [List.cons_append,jM,this,List.append_assoc]
def Row {α:Type} (k:Nat) (enc:α->List AV) (L:List α) (v:AV) (hp:ab):Prop:=(L=[]/\v=.fM/\hp=[])\/(L≠[]/\∃ b,v=.aR b 0 L.length k/\hp=[(b,.vec (L.map enc).flatten)])
theorem xC:ag .aW .fM:=by intro c u h;simpa [aa] using h
theorem RE {k:Nat} (hk:0<k):ag .fM (.sl k none []):=by intro c u h;simp only [aa] at h;exact ag.nil hk c u (by simpa [aa] using h)
theorem rL {α:Type} {k:Nat} {enc:α->List AV} {L:List α} (hk:∀ a,(enc a).length=k):((L.map enc).flatten).length=L.length*k:=by rw [kZ (k:=k) (by intro x hx;obtain ⟨a,_,rfl⟩:=List.mem_map.1 hx;exact hk a),List.length_map]
theorem z6 {α:Type} {b k n:Nat} {enc:α->List AV} {L:List α} (hk:∀ a,(enc a).length=k) (hn:L.length=n):iW b (L.map enc).flatten (.aR b 0 n k) (.sl k none (L.map enc)):=
 iW.row (pre:=[]) (post:=[]) (wC:=[]) (by simp) rfl (by simpa using hn) (by intro x hx;obtain ⟨a,_,rfl⟩:=List.mem_map.1 hx;exact hk a)
theorem Row.ok {α:Type} {f:FuncId} {vs:List AV} {k:Nat} {enc:α->List AV} {L:List α} (iv:0<k) (hk:∀ a,(enc a).length=k)
  (h:ay Tryz.prog f vs [] (fun v h'=>∃ hp Z,Row k enc L v hp/\h'=hp++Z)):ae Tryz.prog f vs [] (.sl k none (L.map enc)):=by
 refine ae.of (ay.Ff h ?_);rintro v h1 ⟨hp,Z,⟨rfl,rfl,rfl⟩|⟨_,b,rfl,rfl⟩,rfl⟩
 ·exact .inl (RE iv)
 exact .inr ⟨b,_,Z,Z,_,.here _,kN.refl _,z6 hk rfl,ag.refl _⟩
def c153:aw:=⟨[0,1,2,4,6,13,14,15,16,26,28,29,40,48],[],[6],[],[],[]⟩
def c104:aw:=⟨[0,1,2,4,5,6,10,19],[],[],[],[],[]⟩
theorem A0 (H:ax) (n:Int) (s:eA) (h0:0<=n) (hs:H.list.aB[n.toNat]?=some s) (hv:s.values.length<=1048576) :
  ay Tryz.prog 153 [.agg (bJ H),.int .i64 n] [] (fun v h'=>∃ hp Z,Row 2 aT (nz H.period s) v hp/\h'=hp++Z):=by
 refine aG (F:=Tryz.f153) c153 rfl rfl rfl mixed rfl fun X=>?_;(conv=>whnf);repeat ((refine cj n.toNat (by omega) hs ?_);conv=>whnf)
 refine cy rfl mixed [2,4,13,14,15] [] (fun m r h=>∃ (i:Nat) (v:AV) (hp:ab),r=[(2,[],.au (bJ H)),(4,[],v),(13,[],.sl 4 none (s.values.map fK)),(14,[],.int .i64 (s.values.map fK).length),(15,[],.int .i64 i)]/\h=hp/\m=s.values.length - i/\i<=s.values.length/\Row 2 aT (jM H.period (s.values.take i)) v hp) ?_ ?_
 ·(conv=>whnf);exact ⟨_,_,ar.qP (.cons (ag.refl _) (.cons xC (je.refl _))),_,0,_,_,rfl,rfl,rfl,by omega,.inl ⟨rfl,rfl,rfl⟩⟩
 rintro m r h' ⟨i,v,hp,rfl,rfl,rfl,hi,hr⟩;(conv=>whnf);refine ⟨fun aD=>?_,fun aD=>?_⟩<;>simp at aD
 ·obtain ⟨x,hx⟩:=aN aD;have gJ:=Sg H.period x (s.values.take i);rw [<- dg hx] at gJ;have Dl:(jM H.period (s.values.take i)).length+2<=aV:=by have:=Ga H.period (s.values.take i);rw [List.length_take] at this;unfold aV;omega
  (conv=>whnf);repeat ((first|refine ix (by assumption) ?_|refine ae.k0 (within _ _ _) ?_|refine ⟨_,_,aK.here _,⟨Nat.le_of_ble_eq_true rfl,rfl⟩,?_⟩|intro (nb:Nat));conv=>whnf)
  refine ⟨fun hq=>?_,fun hq=>?_⟩
  ·have hq:(!bG H.period x.fr x.to)=true:=hq;rw [Bool.not_eq_true'] at hq;rw [hq] at gJ;simp only [Bool.false_eq_true,if_false,List.append_nil] at gJ;(conv=>whnf);repeat (refine ⟨af ⟨by omega,by omega⟩,?_⟩;conv=>whnf)
   exact ⟨_,_,ar.refl _ _,_,by omega,i+1,_,_,rfl,rfl,rfl,by omega,by rw [gJ];exact hr⟩
  have hq:(!bG H.period x.fr x.to)=false:=hq;rw [Bool.not_eq_false'] at hq;rw [hq,if_pos rfl,jT] at gJ;(conv=>whnf);refine ⟨fun hk=>?_,fun hk=>?_⟩<;>simp only [decide_eq_true_eq,decide_eq_false_iff_not] at hk
  ·rw [if_pos hk] at gJ;rcases hr with ⟨he,rfl,rfl⟩|⟨aI,b,rfl,rfl⟩
   ·(conv=>whnf);repeat ((first|refine ⟨af ⟨by omega,by omega⟩,?_⟩|(refine ⟨⟨Nat.le_of_ble_eq_true rfl,Nat.le_of_ble_eq_true rfl⟩,fun b'=>?_⟩));conv=>whnf)
    refine ⟨_,_,ar.refl _ _,_,by omega,i+1,_,_,rfl,rfl,rfl,by omega,?_⟩;rw [gJ,he];exact .inr ⟨by simp,b',rfl,rfl⟩
   (conv=>whnf);repeat ((first|refine ⟨af ⟨by omega,by omega⟩,?_⟩|(refine ⟨_,.head _,⟨rL (fun _=>rfl),Nat.le_trans (Nat.add_le_add_left (Nat.le_of_ble_eq_true rfl) _) Dl⟩,fun b'=>⟨_,.here _,?_⟩⟩));conv=>whnf)
   refine ⟨_,_,ar.refl _ _,_,by omega,i+1,_,_,rfl,rfl,rfl,by omega,?_⟩;rw [gJ];refine .inr ⟨by simp,b',?_,?_⟩
   ·rw [List.length_append];rfl
   rw [List.map_append,List.flatten_append];rfl
  rw [if_neg hk] at gJ;(conv=>whnf);refine ⟨fun bo=>?_,fun bo=>?_⟩<;>simp only [decide_eq_true_eq,decide_eq_false_iff_not] at bo
  ·rw [if_pos bo] at gJ;rcases hr with ⟨he,rfl,rfl⟩|⟨aI,b,rfl,rfl⟩
   ·(conv=>whnf);repeat ((first|refine ⟨af ⟨by omega,by omega⟩,?_⟩|(refine ⟨⟨Nat.le_of_ble_eq_true rfl,Nat.le_of_ble_eq_true rfl⟩,fun b'=>?_⟩));conv=>whnf)
    refine ⟨_,_,ar.refl _ _,_,by omega,i+1,_,_,rfl,rfl,rfl,by omega,?_⟩;rw [gJ,he];exact .inr ⟨by simp,b',rfl,rfl⟩
   (conv=>whnf);repeat ((first|refine ⟨af ⟨by omega,by omega⟩,?_⟩|(refine ⟨_,.head _,⟨rL (fun _=>rfl),Nat.le_trans (Nat.add_le_add_left (Nat.le_of_ble_eq_true rfl) _) Dl⟩,fun b'=>⟨_,.here _,?_⟩⟩));conv=>whnf)
   refine ⟨_,_,ar.refl _ _,_,by omega,i+1,_,_,rfl,rfl,rfl,by omega,?_⟩;rw [gJ];refine .inr ⟨by simp,b',?_,?_⟩
   ·rw [List.length_append];rfl
   rw [List.map_append,List.flatten_append];rfl
  rw [if_neg bo] at gJ;(conv=>whnf);refine ⟨fun nQ=>?_,fun nQ=>?_⟩<;>simp only [decide_eq_true_eq,decide_eq_false_iff_not] at nQ
  ·rw [if_pos nQ] at gJ;rcases hr with ⟨he,rfl,rfl⟩|⟨aI,b,rfl,rfl⟩
   ·(conv=>whnf);repeat ((first|refine ⟨af ⟨by omega,by omega⟩,?_⟩|(refine ⟨⟨Nat.le_of_ble_eq_true rfl,Nat.le_of_ble_eq_true rfl⟩,fun b'=>?_⟩));conv=>whnf)
    refine ⟨_,_,ar.refl _ _,_,by omega,i+1,_,_,rfl,rfl,rfl,by omega,?_⟩;rw [gJ,he];exact .inr ⟨by simp,b',rfl,rfl⟩
   (conv=>whnf);repeat ((first|refine ⟨af ⟨by omega,by omega⟩,?_⟩|(refine ⟨_,.head _,⟨rL (fun _=>rfl),Nat.le_trans (Nat.add_le_add_left (Nat.le_of_ble_eq_true rfl) _) Dl⟩,fun b'=>⟨_,.here _,?_⟩⟩));conv=>whnf)
   refine ⟨_,_,ar.refl _ _,_,by omega,i+1,_,_,rfl,rfl,rfl,by omega,?_⟩;rw [gJ];refine .inr ⟨by simp,b',?_,?_⟩
   ·rw [List.length_append];rfl
   rw [List.map_append,List.flatten_append];rfl
  rw [if_neg nQ,List.append_nil] at gJ;(conv=>whnf);repeat (refine ⟨af ⟨by omega,by omega⟩,?_⟩;conv=>whnf)
  exact ⟨_,_,ar.refl _ _,_,by omega,i+1,_,_,rfl,rfl,rfl,by omega,by rw [gJ];exact hr⟩
 rw [List.take_of_length_le aD] at hr;have Dl:(jM H.period s.values).length<=4294967296:=by have:=Ga H.period s.values;omega
 rcases hr with ⟨he,rfl,rfl⟩|⟨aI,b,rfl,rfl⟩
 ·(conv=>whnf);repeat (refine ae.k0 (y7 _) ?_;conv=>whnf)
  exact ⟨[],[],.inl ⟨by unfold nz;rw [he];simp [tG,ni],rfl,rfl⟩,rfl⟩
 (conv=>whnf);skip;refine ay.mono ?_ (y8 b _ aI Dl);rintro v h1 ⟨rfl,rfl⟩;(conv=>whnf);skip;exact ⟨_,[],.inr ⟨by intro h;have:=congrArg List.length h;rw [nz,tG,rN] at this;exact aI (List.eq_nil_of_length_eq_zero this),b,by rw [nz,tG,rN],rfl⟩,by rw [List.append_nil];rfl⟩
theorem KU (H:ax) (n:Int) (s:eA) (h0:0<=n) (hs:H.list.aB[n.toNat]?=some s) (hv:s.values.length<=1048576) :
  ae Tryz.prog 153 [.agg (bJ H),.int .i64 n] [] (.sl 2 none ((nz H.period s).map aT)):=Row.ok (by decide) (fun _=>rfl) (A0 H n s h0 hs hv)
end Go.Abs.Wall
namespace Go.Abs.Wall
open Go Go.Abs Go.Proofs
structure Sp where
 H:ax
 e:kB
 body:List UInt8
structure bg where
 bH:List UInt8
 closed:Bool
 cl:List Int
 last:ao
deriving DecidableEq
def nR (s:Sp):List AV:=bJ s.H++(fu s.e++[.str s.body])
def fo (p:bg):List AV:=[.str p.bH,.int .i64 0,.bool p.closed,.sl 1 none (ints p.cl),.int .i64 p.last.kind,.str p.last.text]
def cQ (s:Sp) (cl:List Int):List UInt8:=s.body++jq s.H.lex cl
structure jx (s:Sp):Prop where
 lex:pI s.H.lex
 body:1<=s.body.length/\s.body.length<=12
 root:s.e.root.length<=s.body.length
structure jz (s:Sp) (p:bg):Prop where
 bE:p.cl.length<=3
 dO:∀ c∈p.cl,0<=c/\c<s.H.lex.ah.length
 bH:p.bH.length<=(cQ s p.cl).length
 new:p.last.kind=0->p.cl=[]/\p.bH=[]
theorem jx.cQ {s:Sp} (h:jx s) {cl:List Int} (hc:∀ c∈cl,0<=c/\c<s.H.lex.ah.length):(Wall.cQ s cl).length<=12+4*cl.length:=by have h1:=h.body;have h2:=Fa h.lex hc;unfold Wall.cQ;rw [List.length_append];omega
theorem AF (s:Sp) (cl:List Int) (c:Int):cQ s (cl++[c])=cQ s cl++(cE s.H.lex c).text:=by unfold cQ;rw [Pc,List.append_assoc]
def c157:aw:=⟨[0,1,3,4,5,7,14,15,16,17],[],[],[],[],[]⟩
def c255:aw:=⟨[0,1,3,4,5,7,11,25,26,27,28],[],[],[],[(2,[0,1,2,3,4,5,6,7,8],[])],[]⟩
theorem KV (s:Sp) (p:bg) (hs:jx s) (hp:jz s p):ae Tryz.prog 157 [.au (nR s),.agg (fo p)] [] (.bool (decide (p.bH.length=(cQ s p.cl).length))):=by
 have hb:=hs.body;have dI:=hp.bE;refine aG (F:=Tryz.f157) c157 rfl rfl rfl mixed rfl fun X=>?_;(conv=>whnf);refine bM rfl mixed [0,3,5,14,15,16] [] (fun m r h=>∃ (i:Nat) (n:Int),r=[(0,[],.au (nR s)),(3,[],.au (fo p)),(5,[],.int .i64 n),(14,[],.sl 1 none (ints p.cl)),(15,[],.int .i64 (ints p.cl).length),(16,[],.int .i64 i)]/\h=[]/\m=p.cl.length - i/\i<=p.cl.length/\n=(cQ s (p.cl.take i)).length) ?_ ?_
 ·(conv=>whnf);exact ⟨_,0,_,rfl,rfl,rfl,by omega,by simp [cQ,jq]⟩
 rintro m r h' ⟨i,n,rfl,rfl,rfl,hi,hn⟩;(conv=>whnf);refine ⟨fun aD=>?_,fun aD=>?_⟩<;>simp at aD
 ·obtain ⟨c,hc⟩:=aN aD;have bA:=hp.dO c (List.mem_of_getElem? hc);have dw:=mR (hs.lex.cE bA.1 bA.2).text;have hb:=hs.cQ (cl:=p.cl.take i) fun d hd=>hp.dO d (List.mem_of_mem_take hd);rw [List.length_take] at hb;have lf:=dg hc;(conv=>whnf);repeat ((first|refine ⟨af ⟨by omega,by omega⟩,?_⟩|refine ix (by assumption) ?_|(refine cj c.toNat (by omega) (kM bA.1 bA.2) ?_));conv=>whnf)
  exact ⟨_,by omega,i+1,_,rfl,rfl,rfl,by omega,by rw [lf,AF,List.length_append,hn];omega⟩
 rw [List.take_of_length_le aD] at hn;(conv=>whnf);refine ⟨congrArg AV.bool ?_,rfl⟩;rw [hn,decide_eq_decide];omega
theorem A1 (s:Sp) (p:bg) (hs:jx s) (hp:jz s p):ae Tryz.prog 255 [.au (nR s),.agg (fo p)] [] (.str ((cQ s p.cl).drop p.bH.length)):=by
 have hb:=hs.body;have dI:=hp.bE;have gJ:=hp.bH;refine aG (F:=Tryz.f255) c255 rfl rfl rfl mixed rfl fun X=>?_;(conv=>whnf);refine ⟨fun hc=>?_,fun hc=>?_⟩<;>simp at hc
 ·have ht:cQ s p.cl=s.body:=by rw [hc];simp [cQ,jq]
  rw [ht] at gJ ⊢;(conv=>whnf);repeat ((first|refine ⟨af ⟨by omega,by omega⟩,?_⟩|refine And.intro (by show aJ (aH Tryz.f255 _) _=true;decide +kernel) ?_);conv=>whnf)
  refine ⟨congrArg AV.str ?_,rfl⟩;rw [List.take_of_length_le (by omega)];rfl
 (conv=>whnf);skip;refine bM rfl mixed [0,3,5,25,26,27] [] (fun m r h=>∃ (i:Nat) (t:List UInt8),r=[(0,[],.au (nR s)),(3,[],.au (fo p)),(5,[],.str t),(25,[],.sl 1 none (ints p.cl)),(26,[],.int .i64 (ints p.cl).length),(27,[],.int .i64 i)]/\h=[]/\m=p.cl.length - i/\i<=p.cl.length/\t=cQ s (p.cl.take i)) ?_ ?_
 ·(conv=>whnf);exact ⟨_,0,_,rfl,rfl,rfl,by omega,by simp [cQ,jq]⟩
 rintro m r h' ⟨i,t,rfl,rfl,rfl,hi,hn⟩;(conv=>whnf);refine ⟨fun aD=>?_,fun aD=>?_⟩<;>simp at aD
 ·obtain ⟨c,hc⟩:=aN aD;have bA:=hp.dO c (List.mem_of_getElem? hc);have dw:=mR (hs.lex.cE bA.1 bA.2).text;have hb:=hs.cQ (cl:=p.cl.take i) fun d hd=>hp.dO d (List.mem_of_mem_take hd);rw [List.length_take] at hb;have lf:=dg hc;have hl:(t++(cE s.H.lex c).text).length<=aq:=by rw [hn];simp [aq];omega
  (conv=>whnf);repeat ((first|refine ⟨af ⟨by omega,by omega⟩,?_⟩|refine ix (by assumption) ?_|(refine cj c.toNat (by omega) (kM bA.1 bA.2) ?_)|(refine ⟨af hl,?_⟩));conv=>whnf)
  exact ⟨_,by omega,i+1,_,rfl,rfl,rfl,by omega,by rw [lf,AF,hn]⟩
 rw [List.take_of_length_le aD] at hn;subst hn;(conv=>whnf);repeat (refine ⟨af ⟨by omega,by omega⟩,?_⟩;conv=>whnf)
 refine ⟨congrArg AV.str ?_,rfl⟩;rw [List.take_of_length_le (by omega)];rfl
end Go.Abs.Wall
