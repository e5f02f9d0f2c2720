/- What is proved: small laws for the walks of this seat, and contracts of its functions. No condition but those each theorem names. -/
import Derived.Test.YtbmcnieifibckaaGreatN4
import Derived.Laws.RangeAny
import Derived.Sort.Walk0
set_option maxRecDepth 100000
set_option maxHeartbeats 2000000
set_option linter.unusedVariables false
set_option linter.unusedSimpArgs false
namespace Go.Abs.Wall
open Go Go.Abs Go.Proofs
def tJ (y:UInt8):Bool:=small y||mg y
def Ek (c:Int):Bool:=(decide (97<=c)&&decide (c<=122))||(decide (65<=c)&&decide (c<=90))
def El (c:Int):Bool:=decide (c<97)||decide (122<c)
theorem TI {s:List UInt8} {pos:Nat} {y:UInt8} (h:s[pos]?=some y):(y.toNat<128/\kU s pos=(y.toNat,1))\/(128<=y.toNat/\128<=(kU s pos).1/\1<=(kU s pos).2):=by
 obtain ⟨h1,h2⟩:=List.getElem?_eq_some_iff.1 h;have hs:pos<(⟨s.toArray⟩:ByteArray).size:=h1;have hg:(⟨s.toArray⟩:ByteArray)[pos]'hs=y:=h2;by_cases hy:y.toNat<128
 ·refine .inl ⟨hy,?_⟩;unfold kU;rw [decode_ascii _ pos hs (by rw [hg];exact hy),hg]
 refine .inr ⟨by omega,?_⟩;have:=decode_high (⟨s.toArray⟩:ByteArray) pos hs (by rw [hg];omega);exact this
theorem F7 {s:List UInt8} {pos:Nat} {y:UInt8} (h:s[pos]?=some y):Ek ((kU s pos).1:Int)=tJ y/\(tJ y=true->(kU s pos).2=1):=by
 rcases TI h with ⟨h1,h2⟩|⟨h1,h2,h3⟩
 ·rw [h2];refine ⟨?_,fun _=>rfl⟩;unfold Ek tJ small mg;rw [<- xL,<- xL,<- xM,<- xM];rfl
 have e1:tJ y=false:=by unfold tJ small mg;simp only [Bool.or_eq_false_iff,Bool.and_eq_false_iff,decide_eq_false_iff_not];omega
 rw [e1];refine ⟨?_,fun h=>by cases h⟩;unfold Ek;simp only [Bool.or_eq_false_iff,Bool.and_eq_false_iff,decide_eq_false_iff_not];omega
theorem F8 {s:List UInt8} {pos:Nat} {y:UInt8} (h:s[pos]?=some y):El ((kU s pos).1:Int)=!small y/\(small y=true->(kU s pos).2=1):=by
 rcases TI h with ⟨h1,h2⟩|⟨h1,h2,h3⟩
 ·rw [h2];refine ⟨?_,fun _=>rfl⟩;unfold El small;rw [Bool.eq_iff_iff];simp;omega
 have e1:small y=false:=by unfold small;simp only [Bool.and_eq_false_iff,decide_eq_false_iff_not];omega
 rw [e1];refine ⟨?_,fun h=>by cases h⟩;unfold El;simp;omega
def og (s:List UInt8) (most:Int):Bool:=s.all tJ&&(decide (1<=(s.length:Int))&&decide ((s.length:Int)<=most))
def se (s:List UInt8):Bool:=s.all small&&(decide (1<=(s.length:Int))&&decide ((s.length:Int)<=8))
def c183:az:=⟨[0,1,4,6,8,9,10,26],[],[],[],[],[]⟩
def c184:az:=⟨[0,2,4,6,7,8,15],[],[],[],[],[]⟩
theorem Ms (s:List UInt8) (most:Int) (hs:s.length<=aw):ae Tryz.prog 183 [.str s,.int .i64 most] [] (.bool (og s most)):=by
 unfold aw at hs;refine ae.zd ?_;refine aG (F:=Tryz.f183) c183 rfl rfl rfl mixed rfl fun X=>?_;(conv=>whnf);intro it;(conv=>whnf);refine bR rfl mixed [0,1,8] [] (fun m r h=>∃ (pos:Nat),r=[(0,[],.str s),(1,[],.int .i64 most),(8,[],.tP it)]/\h=[(it,.oA s pos)]/\m=s.length - pos/\pos<=s.length/\s.all tJ=(s.drop pos).all tJ) ?_ ?_
 ·(conv=>whnf);exact ⟨_,0,rfl,rfl,rfl,by omega,rfl⟩
 rintro m r h ⟨pos,rfl,rfl,rfl,hp,ha⟩;(conv=>whnf);refine ⟨s,pos,.head _,fun hf=>?_,fun hf=>⟨_,.here _,?_⟩⟩
 ·rw [List.drop_eq_nil_of_le hf,List.all_nil] at ha;(conv=>whnf);refine cF rfl ?_;(conv=>whnf);skip;unfold og;rw [ha];rfl
 obtain ⟨y,hy⟩:=aL hf;obtain ⟨h1,h2⟩:=F7 hy;rw [List.drop_eq_getElem_cons hf,List.all_cons,(List.getElem?_eq_some_iff.1 hy).2] at ha;(conv=>whnf);refine cT rfl ?_;(conv=>whnf);skip;refine ⟨fun hq=>?_,fun hq=>?_⟩
 ·have hq:(!Ek ((kU s pos).1:Int))=true:=hq;have hl:tJ y=false:=by rw [<- h1];simpa using hq
  (conv=>whnf);skip;unfold og;rw [ha,hl];rfl
 have hq:(!Ek ((kU s pos).1:Int))=false:=hq;have hl:tJ y=true:=by rw [<- h1];simpa using hq
 rw [hl,Bool.true_and] at ha;(conv=>whnf);skip;rw [h2 hl];exact ⟨_,by omega,pos+1,rfl,rfl,rfl,by omega,ha⟩
theorem Mt (s:List UInt8) (hs:s.length<=aw):ae Tryz.prog 184 [.str s] [] (.bool (se s)):=by
 unfold aw at hs;refine ae.zd ?_;refine aG (F:=Tryz.f184) c184 rfl rfl rfl mixed rfl fun X=>?_;(conv=>whnf);intro it;(conv=>whnf);refine bR rfl mixed [0,6] [] (fun m r h=>∃ (pos:Nat),r=[(0,[],.str s),(6,[],.tP it)]/\h=[(it,.oA s pos)]/\m=s.length - pos/\pos<=s.length/\s.all small=(s.drop pos).all small) ?_ ?_
 ·(conv=>whnf);exact ⟨_,0,rfl,rfl,rfl,by omega,rfl⟩
 rintro m r h ⟨pos,rfl,rfl,rfl,hp,ha⟩;(conv=>whnf);refine ⟨s,pos,.head _,fun hf=>?_,fun hf=>⟨_,.here _,?_⟩⟩
 ·rw [List.drop_eq_nil_of_le hf,List.all_nil] at ha;(conv=>whnf);refine cF rfl ?_;(conv=>whnf);skip;unfold se;rw [ha];rfl
 obtain ⟨y,hy⟩:=aL hf;obtain ⟨h1,h2⟩:=F8 hy;rw [List.drop_eq_getElem_cons hf,List.all_cons,(List.getElem?_eq_some_iff.1 hy).2] at ha;(conv=>whnf);refine cT rfl ?_;(conv=>whnf);skip;refine ⟨fun hq=>?_,fun hq=>?_⟩
 ·have hq:El ((kU s pos).1:Int)=true:=hq;have hl:small y=false:=by rw [h1] at hq;simpa using hq
  (conv=>whnf);skip;unfold se;rw [ha,hl];rfl
 have hq:El ((kU s pos).1:Int)=false:=hq;have hl:small y=true:=by rw [h1] at hq;simpa using hq
 rw [hl,Bool.true_and] at ha;(conv=>whnf);skip;rw [h2 hl];exact ⟨_,by omega,pos+1,rfl,rfl,rfl,by omega,ha⟩
end Go.Abs.Wall
namespace Go.Abs.Wall
open Go Go.Abs Go.Proofs
structure kW where
 root:List UInt8
 kind:Int
 cls:List UInt8
 weight:Int
deriving DecidableEq
structure lF where
 kind:Int
 text:List UInt8
 name:List UInt8
 weight:Int
deriving DecidableEq
structure iT where
 text:List UInt8
 name:List UInt8
 weight:Int
deriving DecidableEq
structure Lex where
 entries:List kW
 bO:List lF
 ar:List iT
def fJ (e:kW):List AV:=[.str e.root,.int .i64 e.kind,.str e.cls,.int .i64 e.weight]
def jk (e:lF):List AV:=[.int .i64 e.kind,.str e.text,.str e.name,.int .i64 e.weight]
def ib (e:iT):List AV:=[.str e.text,.str e.name,.int .i64 e.weight]
def fq (x:Lex):List AV:=[.sl 4 none (x.entries.map fJ),.sl 4 none (x.bO.map jk),.sl 3 none (x.ar.map ib)]
structure TJ (e:kW):Prop where
 root:e.root.length<=aw
 cls:e.cls.length<=aw
structure TK (e:lF):Prop where
 text:e.text.length<=aw
 name:e.name.length<=aw
structure TL (e:iT):Prop where
 text:e.text.length<=aw
 name:e.name.length<=aw
structure rT (x:Lex):Prop where
 entries:x.entries.length<=aw
 bO:x.bO.length<=aw
 ar:x.ar.length<=aw
 ee:∀ e∈x.entries,TJ e
 BF:∀ e∈x.bO,TK e
 ed:∀ e∈x.ar,TL e
def bI (n lo hi:Int):Bool:=decide (lo<=n)&&decide (n<=hi)
def wk (w v:kW):Bool:=decide (v.root=w.root)&&decide (v.kind=w.kind)&&decide (v.cls=w.cls)
def wm (w v:lF):Bool:=decide (v.kind=w.kind)&&decide (v.name=w.name)
def wo (w v:iT):Bool:=decide (v.name=w.name)
def sf (before:List kW) (w:kW):Bool:=!og w.root 8||!bI w.kind 1 9||(!decide (w.cls=[])&&!se w.cls)||!bI w.weight 0 1000||before.any (wk w)
def qg (before:List lF) (w:lF):Bool:=!bI w.kind 1 9||!og w.text 4||!se w.name||!bI w.weight 0 1000||before.any (wm w)
def om (before:List iT) (w:iT):Bool:=!og w.text 4||!se w.name||!bI w.weight 0 1000||before.any (wo w)
def ko {α:Type} (bad:List α->α->Bool) (l:List α):List α->Nat->Bool
 | [],_=>false
 | w::t,i=>bad (l.take i) w||ko bad l t (i+1)
def kr {α:Type} (bad:List α->α->Bool) (l:List α):Bool:=ko bad l l 0
def iz (x:Lex):Int:=
 if 200<x.entries.length\/40<x.bO.length\/10<x.ar.length then 2
 else if kr sf x.entries=true then 45
 else if kr qg x.bO=true then 46
 else if kr om x.ar=true then 47
 else 0
def c237:az:=⟨[0,1,4,5,7,8,9,16],[],[],[],[],[]⟩
def c185:az:=⟨[0,1,4],[],[],[],[],[]⟩
theorem F9 (l:List kW) (hl:l.length<=aw) (f:FuncId) (bF:List AV) (p:kW->Bool) (hp:∀ w∈l,ae Tryz.prog f (.agg (fJ w)::bF) [] (.bool (p w))) :
  ae Tryz.prog 237 [.sl 4 none (l.map fJ),.fn f bF] [] (.int .i64 (kb p l)):=by
 refine aG (F:=Tryz.f237) c237 rfl rfl rfl mixed rfl fun X=>?_;(conv=>whnf);unfold aw at hl;refine bR rfl mixed [0,1,7,8] [] (fun m r h=>∃ (i:Nat),r=[(0,[],.sl 4 none (l.map fJ)),(1,[],.fn f bF),(7,[],.int .i64 (l.map fJ).length),(8,[],.int .i64 i)]/\h=[]/\m=l.length - i/\i<=l.length/\Below p l i) ?_ ?_
 ·(conv=>whnf);exact ⟨_,0,rfl,rfl,rfl,by omega,.zero⟩
 rintro m r h ⟨i,rfl,rfl,rfl,hi,hg⟩;(conv=>whnf);refine ⟨fun hc=>?_,fun hc=>?_⟩<;>simp at hc
 ·obtain ⟨x,hx⟩:=aL hc;(conv=>whnf);repeat ((first|refine ix (by assumption) ?_|(refine ae.k0 (hp x (List.mem_of_getElem? hx)) ?_));conv=>whnf)
  refine ⟨fun hd=>?_,fun hd=>?_⟩
  ·(conv=>whnf);exact ⟨by rw [hg.at hx hd],rfl⟩
  (conv=>whnf);repeat (refine ⟨ah ⟨by omega,by omega⟩,?_⟩;conv=>whnf)
  exact ⟨_,by omega,i+1,rfl,rfl,rfl,by omega,hg.succ hx hd⟩
 (conv=>whnf);exact ⟨by rw [hg.end hc],rfl⟩
theorem G0 (l:List kW) (hl:l.length<=aw) (f:FuncId) (bF:List AV) (p:kW->Bool) (hp:∀ w∈l,ae Tryz.prog f (.agg (fJ w)::bF) [] (.bool (p w))) :
  ae Tryz.prog 185 [.sl 4 none (l.map fJ),.fn f bF] [] (.bool (l.any p)):=by
 refine aG (F:=Tryz.f185) c185 rfl rfl rfl mixed rfl fun X=>?_;(conv=>whnf);refine ae.k0 (F9 l hl f bF p hp) ?_;(conv=>whnf);exact ⟨congrArg AV.bool (vP p l),rfl⟩
def c238:az:=⟨[0,1,4,5,7,8,9,16],[],[],[],[],[]⟩
def c187:az:=⟨[0,1,4],[],[],[],[],[]⟩
theorem G1 (l:List lF) (hl:l.length<=aw) (f:FuncId) (bF:List AV) (p:lF->Bool) (hp:∀ w∈l,ae Tryz.prog f (.agg (jk w)::bF) [] (.bool (p w))) :
  ae Tryz.prog 238 [.sl 4 none (l.map jk),.fn f bF] [] (.int .i64 (kb p l)):=by
 refine aG (F:=Tryz.f238) c238 rfl rfl rfl mixed rfl fun X=>?_;(conv=>whnf);unfold aw at hl;refine bR rfl mixed [0,1,7,8] [] (fun m r h=>∃ (i:Nat),r=[(0,[],.sl 4 none (l.map jk)),(1,[],.fn f bF),(7,[],.int .i64 (l.map jk).length),(8,[],.int .i64 i)]/\h=[]/\m=l.length - i/\i<=l.length/\Below p l i) ?_ ?_
 ·(conv=>whnf);exact ⟨_,0,rfl,rfl,rfl,by omega,.zero⟩
 rintro m r h ⟨i,rfl,rfl,rfl,hi,hg⟩;(conv=>whnf);refine ⟨fun hc=>?_,fun hc=>?_⟩<;>simp at hc
 ·obtain ⟨x,hx⟩:=aL hc;(conv=>whnf);repeat ((first|refine ix (by assumption) ?_|(refine ae.k0 (hp x (List.mem_of_getElem? hx)) ?_));conv=>whnf)
  refine ⟨fun hd=>?_,fun hd=>?_⟩
  ·(conv=>whnf);exact ⟨by rw [hg.at hx hd],rfl⟩
  (conv=>whnf);repeat (refine ⟨ah ⟨by omega,by omega⟩,?_⟩;conv=>whnf)
  exact ⟨_,by omega,i+1,rfl,rfl,rfl,by omega,hg.succ hx hd⟩
 (conv=>whnf);exact ⟨by rw [hg.end hc],rfl⟩
theorem G2 (l:List lF) (hl:l.length<=aw) (f:FuncId) (bF:List AV) (p:lF->Bool) (hp:∀ w∈l,ae Tryz.prog f (.agg (jk w)::bF) [] (.bool (p w))) :
  ae Tryz.prog 187 [.sl 4 none (l.map jk),.fn f bF] [] (.bool (l.any p)):=by
 refine aG (F:=Tryz.f187) c187 rfl rfl rfl mixed rfl fun X=>?_;(conv=>whnf);refine ae.k0 (G1 l hl f bF p hp) ?_;(conv=>whnf);exact ⟨congrArg AV.bool (vP p l),rfl⟩
def c239:az:=⟨[0,1,4,5,7,8,9,16],[],[],[],[],[]⟩
def c189:az:=⟨[0,1,4],[],[],[],[],[]⟩
theorem G3 (l:List iT) (hl:l.length<=aw) (f:FuncId) (bF:List AV) (p:iT->Bool) (hp:∀ w∈l,ae Tryz.prog f (.agg (ib w)::bF) [] (.bool (p w))) :
  ae Tryz.prog 239 [.sl 3 none (l.map ib),.fn f bF] [] (.int .i64 (kb p l)):=by
 refine aG (F:=Tryz.f239) c239 rfl rfl rfl mixed rfl fun X=>?_;(conv=>whnf);unfold aw at hl;refine bR rfl mixed [0,1,7,8] [] (fun m r h=>∃ (i:Nat),r=[(0,[],.sl 3 none (l.map ib)),(1,[],.fn f bF),(7,[],.int .i64 (l.map ib).length),(8,[],.int .i64 i)]/\h=[]/\m=l.length - i/\i<=l.length/\Below p l i) ?_ ?_
 ·(conv=>whnf);exact ⟨_,0,rfl,rfl,rfl,by omega,.zero⟩
 rintro m r h ⟨i,rfl,rfl,rfl,hi,hg⟩;(conv=>whnf);refine ⟨fun hc=>?_,fun hc=>?_⟩<;>simp at hc
 ·obtain ⟨x,hx⟩:=aL hc;(conv=>whnf);repeat ((first|refine ix (by assumption) ?_|(refine ae.k0 (hp x (List.mem_of_getElem? hx)) ?_));conv=>whnf)
  refine ⟨fun hd=>?_,fun hd=>?_⟩
  ·(conv=>whnf);exact ⟨by rw [hg.at hx hd],rfl⟩
  (conv=>whnf);repeat (refine ⟨ah ⟨by omega,by omega⟩,?_⟩;conv=>whnf)
  exact ⟨_,by omega,i+1,rfl,rfl,rfl,by omega,hg.succ hx hd⟩
 (conv=>whnf);exact ⟨by rw [hg.end hc],rfl⟩
theorem G4 (l:List iT) (hl:l.length<=aw) (f:FuncId) (bF:List AV) (p:iT->Bool) (hp:∀ w∈l,ae Tryz.prog f (.agg (ib w)::bF) [] (.bool (p w))) :
  ae Tryz.prog 189 [.sl 3 none (l.map ib),.fn f bF] [] (.bool (l.any p)):=by
 refine aG (F:=Tryz.f189) c189 rfl rfl rfl mixed rfl fun X=>?_;(conv=>whnf);refine ae.k0 (G3 l hl f bF p hp) ?_;(conv=>whnf);exact ⟨congrArg AV.bool (vP p l),rfl⟩
def c182:az:=⟨[0,1,2,3],[],[],[],[],[]⟩
def c186:az:=⟨[0,1,2,3],[],[],[],[],[]⟩
def c188:az:=⟨[0,1,2,3],[],[],[],[],[]⟩
theorem G5 (w v:kW):ae Tryz.prog 182 [.agg (fJ v),.au (fJ w)] [] (.bool (wk w v)):=by refine aG (F:=Tryz.f182) c182 rfl rfl rfl mixed rfl fun X=>?_;(conv=>whnf);skip;exact ⟨rfl,rfl⟩
theorem G6 (w v:lF):ae Tryz.prog 186 [.agg (jk v),.au (jk w)] [] (.bool (wm w v)):=by refine aG (F:=Tryz.f186) c186 rfl rfl rfl mixed rfl fun X=>?_;(conv=>whnf);skip;exact ⟨rfl,rfl⟩
theorem G7 (w v:iT):ae Tryz.prog 188 [.agg (ib v),.au (ib w)] [] (.bool (wo w v)):=by refine aG (F:=Tryz.f188) c188 rfl rfl rfl mixed rfl fun X=>?_;(conv=>whnf);skip;exact ⟨rfl,rfl⟩
def c127:az:=⟨[0,1,2,3,4,5,6,7,8,9,10,11,27,29,30,31,32,71,74,75,76,77,111,114,115,116,117,145],[],[4,7,10],[],[],[]⟩
set_option maxHeartbeats 2000000 in
theorem TM (x:Lex) (hx:rT x):ae Tryz.prog 127 [.agg (fq x)] [] (.int .i64 (iz x)):=by
 have sM:=hx.entries;have fk:=hx.bO;have vK:=hx.ar;unfold aw at sM fk vK;refine aG (F:=Tryz.f127) c127 rfl rfl rfl mixed rfl fun X=>?_;(conv=>whnf);skip;refine ⟨fun hc=>?_,fun hc=>?_⟩
 ·have hc:(decide (200<((x.entries.map fJ).length:Int))||decide (40<((x.bO.map jk).length:Int))||decide (10<((x.ar.map ib).length:Int)))=true:=hc;simp [or_assoc] at hc;(conv=>whnf);exact ⟨by rw [iz,if_pos (by omega)],rfl⟩
 have hc:(decide (200<((x.entries.map fJ).length:Int))||decide (40<((x.bO.map jk).length:Int))||decide (10<((x.ar.map ib).length:Int)))=false:=hc;simp at hc;have h0:iz x=if kr sf x.entries=true then 45 else if kr qg x.bO=true then 46 else if kr om x.ar=true then 47 else 0:=(by rw [iz,if_neg (by omega)]);(conv=>whnf);refine bR rfl mixed [1,29,30,31] [] (fun m r h=>∃ (i:Nat),r=[(1,[],.au (fq x)),(29,[],.sl 4 none (x.entries.map fJ)),(30,[],.int .i64 (x.entries.map fJ).length),(31,[],.int .i64 i)]/\h=[]/\m=x.entries.length - i/\i<=x.entries.length/\kr sf x.entries=ko sf x.entries (x.entries.drop i) i) ?_ ?_
 ·(conv=>whnf);exact ⟨_,0,rfl,rfl,rfl,by omega,rfl⟩
 rintro m r h ⟨i,rfl,rfl,rfl,hi,hb⟩;(conv=>whnf);refine ⟨fun he=>?_,fun he=>?_⟩<;>simp at he
 ·obtain ⟨w,hw⟩:=aL he;have hm:=List.mem_of_getElem? hw;rw [drop_cons hw,ko] at hb;have hq:=G0 (x.entries.take i) (by simp [aw];omega) 182 [.au (fJ w)] (wk w) (fun v _=>G5 w v);rw [List.map_take] at hq;(conv=>whnf);repeat ((first|refine ix (by assumption) ?_|refine ae.k0 (Ms w.root 8 (hx.ee w hm).root) ?_|refine ba (BA _ _ _) ?_|refine ba (Mt w.cls (hx.ee w hm).cls) ?_|(refine ba hq ?_)|(refine ⟨ah ⟨by omega,by omega,by simp;omega⟩,?_⟩)|refine ⟨_,_,bo.here _,⟨Nat.le_of_ble_eq_true rfl,rfl⟩,?_⟩|intro (nb:Nat));conv=>whnf)
  refine ⟨fun hd=>?_,fun hd=>?_⟩
  ·have hd:sf (x.entries.take i) w=true:=hd;rw [hd,Bool.true_or] at hb;(conv=>whnf);exact ⟨by rw [h0,if_pos hb],rfl⟩
  have hd:sf (x.entries.take i) w=false:=hd;rw [hd,Bool.false_or] at hb;(conv=>whnf);repeat (refine ⟨ah ⟨by omega,by omega⟩,?_⟩;conv=>whnf)
  exact ⟨_,by omega,i+1,rfl,rfl,rfl,by omega,hb⟩
 rw [drop_nil he,ko] at hb;have h1:iz x=if kr qg x.bO=true then 46 else if kr om x.ar=true then 47 else 0:=(by rw [h0,if_neg (by rw [hb];decide)]);(conv=>whnf);refine bR rfl mixed [1,74,75,76] [] (fun m r h=>∃ (i:Nat),r=[(1,[],.au (fq x)),(74,[],.sl 4 none (x.bO.map jk)),(75,[],.int .i64 (x.bO.map jk).length),(76,[],.int .i64 i)]/\h=[]/\m=x.bO.length - i/\i<=x.bO.length/\kr qg x.bO=ko qg x.bO (x.bO.drop i) i) ?_ ?_
 ·(conv=>whnf);exact ⟨_,0,rfl,rfl,rfl,by omega,rfl⟩
 rintro m r h ⟨i,rfl,rfl,rfl,hi,hb⟩;(conv=>whnf);refine ⟨fun he=>?_,fun he=>?_⟩<;>simp at he
 ·obtain ⟨w,hw⟩:=aL he;have hm:=List.mem_of_getElem? hw;rw [drop_cons hw,ko] at hb;have hq:=G2 (x.bO.take i) (by simp [aw];omega) 186 [.au (jk w)] (wm w) (fun v _=>G6 w v);rw [List.map_take] at hq;(conv=>whnf);repeat ((first|refine ix (by assumption) ?_|refine ae.k0 (BA _ _ _) ?_|refine ba (BA _ _ _) ?_|refine ba (Ms w.text 4 (hx.BF w hm).text) ?_|refine ba (Mt w.name (hx.BF w hm).name) ?_|(refine ba hq ?_)|(refine ⟨ah ⟨by omega,by omega,by simp;omega⟩,?_⟩)|refine ⟨_,_,bo.here _,⟨Nat.le_of_ble_eq_true rfl,rfl⟩,?_⟩|intro (nb:Nat));conv=>whnf)
  refine ⟨fun hd=>?_,fun hd=>?_⟩
  ·have hd:qg (x.bO.take i) w=true:=hd;rw [hd,Bool.true_or] at hb;(conv=>whnf);exact ⟨by rw [h1,if_pos hb],rfl⟩
  have hd:qg (x.bO.take i) w=false:=hd;rw [hd,Bool.false_or] at hb;(conv=>whnf);repeat (refine ⟨ah ⟨by omega,by omega⟩,?_⟩;conv=>whnf)
  exact ⟨_,by omega,i+1,rfl,rfl,rfl,by omega,hb⟩
 rw [drop_nil he,ko] at hb;have h2:iz x=if kr om x.ar=true then 47 else 0:=(by rw [h1,if_neg (by rw [hb];decide)]);(conv=>whnf);refine bR rfl mixed [1,114,115,116] [] (fun m r h=>∃ (i:Nat),r=[(1,[],.au (fq x)),(114,[],.sl 3 none (x.ar.map ib)),(115,[],.int .i64 (x.ar.map ib).length),(116,[],.int .i64 i)]/\h=[]/\m=x.ar.length - i/\i<=x.ar.length/\kr om x.ar=ko om x.ar (x.ar.drop i) i) ?_ ?_
 ·(conv=>whnf);exact ⟨_,0,rfl,rfl,rfl,by omega,rfl⟩
 rintro m r h ⟨i,rfl,rfl,rfl,hi,hb⟩;(conv=>whnf);refine ⟨fun he=>?_,fun he=>?_⟩<;>simp at he
 ·obtain ⟨w,hw⟩:=aL he;have hm:=List.mem_of_getElem? hw;rw [drop_cons hw,ko] at hb;have hq:=G4 (x.ar.take i) (by simp [aw];omega) 188 [.au (ib w)] (wo w) (fun v _=>G7 w v);rw [List.map_take] at hq;(conv=>whnf);repeat ((first|refine ix (by assumption) ?_|refine ae.k0 (Ms w.text 4 (hx.ed w hm).text) ?_|refine ba (Mt w.name (hx.ed w hm).name) ?_|refine ba (BA _ _ _) ?_|(refine ba hq ?_)|(refine ⟨ah ⟨by omega,by omega,by simp;omega⟩,?_⟩)|refine ⟨_,_,bo.here _,⟨Nat.le_of_ble_eq_true rfl,rfl⟩,?_⟩|intro (nb:Nat));conv=>whnf)
  refine ⟨fun hd=>?_,fun hd=>?_⟩
  ·have hd:om (x.ar.take i) w=true:=hd;rw [hd,Bool.true_or] at hb;(conv=>whnf);exact ⟨by rw [h2,if_pos hb],rfl⟩
  have hd:om (x.ar.take i) w=false:=hd;rw [hd,Bool.false_or] at hb;(conv=>whnf);repeat (refine ⟨ah ⟨by omega,by omega⟩,?_⟩;conv=>whnf)
  exact ⟨_,by omega,i+1,rfl,rfl,rfl,by omega,hb⟩
 rw [drop_nil he,ko] at hb;have h3:iz x=0:=(by rw [h2,if_neg (by rw [hb];decide)]);(conv=>whnf);exact ⟨by rw [h3],rfl⟩
end Go.Abs.Wall
namespace Go.Abs.Wall
open Go Go.Abs Go.Proofs
structure aZ where
 entry:Int
 ending:Int
 ar:List Int
deriving DecidableEq
def eZ (f:aZ):List AV:=[.int .i64 f.entry,.int .i64 f.ending,.sl 1 none (ints f.ar)]
def bZ (x:Lex) (n:Int):kW:=x.entries.getD n.toNat ⟨[],0,[],0⟩
def iq (x:Lex) (n:Int):lF:=x.bO.getD n.toNat ⟨0,[],[],0⟩
def cQ (x:Lex) (n:Int):iT:=x.ar.getD n.toNat ⟨[],[],0⟩
def sV (x:Lex) (f:aZ):Bool:=!decide (f.ending = -1)&&(!bI f.ending 0 ((x.bO.length:Int) - 1)||!decide ((iq x f.ending).kind=(bZ x f.entry).kind))
def iS (n:Nat):List Int->Int->Bool
 | [],_=>true
 | c::t,last=>!(decide (c<=last)||decide ((n:Int)<=c))&&iS n t c
def dZ (x:Lex) (f:aZ):Int:=
 if iz x≠0 then iz x
 else if bI f.entry 0 ((x.entries.length:Int) - 1)=false then 45
 else if sV x f=true then 46
 else if 3<f.ar.length then 47
 else if iS x.ar.length f.ar (-1)=true then 0
 else 47
theorem dY {n lo hi:Int}:bI n lo hi=true↔lo<=n/\n<=hi:=by unfold bI;simp
theorem TN {α:Type} {bad:List α->α->Bool} {l:List α}:∀ (t:List α) (k:Nat),l.drop k=t->ko bad l t k=false->∀ (i:Nat) w,k<=i->l[i]?=some w->bad (l.take i) w=false
 | [],k,hd,_,i,w,hi,hw=>by have h1:=List.drop_eq_nil_iff.1 hd;have h2:=(List.getElem?_eq_some_iff.1 hw).1;omega
 | a::t,k,hd,h,i,w,hi,hw=>by
   rw [ko,Bool.or_eq_false_iff] at h;have hk:l[k]?=some a:=by have:=congrArg (fun z=>z[0]?) hd;simpa using this
   by_cases e:i=k
   ·subst e;rw [hk] at hw;cases hw;exact h.1
   refine TN t (k+1) ?_ h.2 i w (by omega) hw;have:=congrArg List.tail hd;simpa [List.tail_drop] using this
theorem Mu {α:Type} {bad:List α->α->Bool} {l:List α} (h:kr bad l=false) (i:Nat) (w:α) (hw:l[i]?=some w):bad (l.take i) w=false:=
 TN l 0 rfl h i w (Nat.zero_le _) hw
structure TO (e:kW):Prop where
 root:og e.root 8=true
 kind:1<=e.kind/\e.kind<=9
 cls:e.cls≠[]->se e.cls=true
 weight:0<=e.weight/\e.weight<=1000
structure TP (e:lF):Prop where
 text:og e.text 4=true
 weight:0<=e.weight/\e.weight<=1000
structure TQ (e:iT):Prop where
 text:og e.text 4=true
 weight:0<=e.weight/\e.weight<=1000
structure qh (x:Lex):Prop where
 many:x.entries.length<=200/\x.bO.length<=40/\x.ar.length<=10
 ee:∀ e∈x.entries,TO e
 BF:∀ e∈x.bO,TP e
 ed:∀ e∈x.ar,TQ e
theorem np {s:List UInt8} {n:Int} (h:og s n=true):1<=(s.length:Int)/\(s.length:Int)<=n:=by unfold og at h;simp only [Bool.and_eq_true,decide_eq_true_eq] at h;exact h.2
theorem TR {x:Lex} (h:iz x=0):qh x:=by
 unfold iz at h;split at h
 ·cases h
 rename_i h1;split at h
 ·cases h
 rename_i h2;split at h
 ·cases h
 rename_i h3;split at h
 ·cases h
 rename_i h4;refine ⟨by omega,fun e he=>?_,fun e he=>?_,fun e he=>?_⟩
 ·obtain ⟨i,hi⟩:=List.mem_iff_getElem?.1 he;have:=Mu (Bool.eq_false_iff.2 h2) i e hi;unfold sf at this;simp only [Bool.or_eq_false_iff,Bool.not_eq_false',Bool.and_eq_false_iff,dY,decide_eq_true_eq] at this;exact ⟨this.1.1.1.1,this.1.1.1.2,fun hc=>by rcases this.1.1.2 with h|h;exact absurd h hc;exact h,this.1.2⟩
 ·obtain ⟨i,hi⟩:=List.mem_iff_getElem?.1 he;have:=Mu (Bool.eq_false_iff.2 h3) i e hi;unfold qg at this;simp only [Bool.or_eq_false_iff,Bool.not_eq_false',Bool.and_eq_false_iff,dY,decide_eq_true_eq] at this;exact ⟨this.1.1.1.2,this.1.2⟩
 obtain ⟨i,hi⟩:=List.mem_iff_getElem?.1 he;have:=Mu (Bool.eq_false_iff.2 h4) i e hi;unfold om at this;simp only [Bool.or_eq_false_iff,Bool.not_eq_false',Bool.and_eq_false_iff,dY,decide_eq_true_eq] at this;exact ⟨this.1.1.1,this.1.2⟩
theorem LM {n:Nat}:∀ {l:List Int} {last:Int},iS n l last=true->∀ c∈l,last<c/\c<n
 | [],_,_,c,hc=>by cases hc
 | a::t,last,h,c,hc=>by
   unfold iS at h;simp only [Bool.and_eq_true,Bool.not_eq_true',Bool.or_eq_false_iff,decide_eq_false_iff_not] at h;rcases List.mem_cons.1 hc with rfl|hc
   ·omega
   have:=LM h.2 c hc;omega
structure lZ (x:Lex) (f:aZ):Prop where
 lex:qh x
 entry:0<=f.entry/\f.entry<x.entries.length
 ending:f.ending = -1\/(0<=f.ending/\f.ending<x.bO.length/\(iq x f.ending).kind=(bZ x f.entry).kind)
 bB:f.ar.length<=3
 ed:∀ c∈f.ar,0<=c/\c<x.ar.length
 up:iS x.ar.length f.ar (-1)=true
theorem mn {x:Lex} {f:aZ} (h:dZ x f=0):lZ x f:=by
 unfold dZ at h;split at h
 ·rename_i h0;exact absurd h h0
 rename_i h0;split at h
 ·cases h
 rename_i h1;split at h
 ·cases h
 rename_i h2;split at h
 ·cases h
 rename_i h3;split at h
 ·rename_i h4;rw [Bool.not_eq_false,dY] at h1;rw [Bool.not_eq_true] at h2;unfold sV at h2;simp only [Bool.and_eq_false_iff,Bool.or_eq_false_iff,Bool.not_eq_false',dY,decide_eq_true_eq] at h2;refine ⟨TR (by omega),by omega,?_,by omega,fun c hc=>?_,h4⟩
  ·rcases h2 with h2|h2
   ·exact .inl h2
   exact .inr ⟨by omega,by omega,h2.2⟩
  have:=LM h4 c hc;omega
 cases h
theorem nZ {x:Lex} {n:Int} (h0:0<=n) (h1:n<x.entries.length):x.entries[n.toNat]?=some (bZ x n):=by have:n.toNat<x.entries.length:=(by omega);unfold bZ;simp [List.getElem?_eq_getElem this]
theorem BG {x:Lex} {n:Int} (h0:0<=n) (h1:n<x.bO.length):x.bO[n.toNat]?=some (iq x n):=by have:n.toNat<x.bO.length:=(by omega);unfold iq;simp [List.getElem?_eq_getElem this]
theorem ll {x:Lex} {n:Int} (h0:0<=n) (h1:n<x.ar.length):x.ar[n.toNat]?=some (cQ x n):=by have:n.toNat<x.ar.length:=(by omega);unfold cQ;simp [List.getElem?_eq_getElem this]
theorem qh.bZ {x:Lex} (hx:qh x) {n:Int} (h0:0<=n) (h1:n<x.entries.length):TO (Wall.bZ x n):=hx.ee _ (List.mem_of_getElem? (nZ h0 h1))
theorem qh.iq {x:Lex} (hx:qh x) {n:Int} (h0:0<=n) (h1:n<x.bO.length):TP (Wall.iq x n):=hx.BF _ (List.mem_of_getElem? (BG h0 h1))
theorem qh.cQ {x:Lex} (hx:qh x) {n:Int} (h0:0<=n) (h1:n<x.ar.length):TQ (Wall.cQ x n):=hx.ed _ (List.mem_of_getElem? (ll h0 h1))
def oq (x:Lex) (l:List Int):Int:=(l.map fun c=>(cQ x c).weight).sum
def kd (x:Lex) (l:List Int):List UInt8:=(l.map fun c=>(cQ x c).text).flatten
def nm (x:Lex) (f:aZ):Int:=(bZ x f.entry).weight+(if 0<=f.ending then (iq x f.ending).weight else 0)+oq x f.ar
def kc (x:Lex) (f:aZ):List UInt8:=(bZ x f.entry).root++(if 0<=f.ending then (iq x f.ending).text else [])
def qN (x:Lex) (f:aZ):List UInt8:=kc x f++kd x f.ar
theorem BH {x:Lex} (hx:qh x):∀ {l:List Int},(∀ c∈l,0<=c/\c<x.ar.length)->0<=oq x l/\oq x l<=1000*l.length
 | [],_=>by simp [oq]
 | c::l,h=>by have ih:=BH hx (l:=l) fun d hd=>h d (by simp [hd]);have hc:=h c (by simp);have hw:=(hx.cQ hc.1 hc.2).weight;unfold oq at ih ⊢;simp only [List.map_cons,List.sum_cons,List.length_cons];omega
theorem GK {x:Lex} (hx:qh x):∀ {l:List Int},(∀ c∈l,0<=c/\c<x.ar.length)->(kd x l).length<=4*l.length
 | [],_=>by simp [kd]
 | c::l,h=>by have ih:=GK hx (l:=l) fun d hd=>h d (by simp [hd]);have hc:=h c (by simp);have hw:=np (hx.cQ hc.1 hc.2).text;unfold kd at ih ⊢;simp only [List.map_cons,List.flatten_cons,List.length_append,List.length_cons];omega
theorem lZ.GJ {x:Lex} {f:aZ} (h:lZ x f):1<=(kc x f).length/\(kc x f).length<=12:=by
 have h1:=np (h.lex.bZ h.entry.1 h.entry.2).root;unfold kc;rw [List.length_append];split
 ·rename_i h2;have h3:=np (h.lex.iq h2 (by rcases h.ending with h|h<;>omega)).text
  omega
 simp;omega
theorem lZ.kK {x:Lex} {f:aZ} (h:lZ x f):0<=nm x f/\nm x f<=5000:=by
 have h1:=(h.lex.bZ h.entry.1 h.entry.2).weight;have h2:=BH h.lex h.ed;have h3:=h.bB;unfold nm;split
 ·rename_i h4;have h5:=(h.lex.iq h4 (by rcases h.ending with h|h<;>omega)).weight
  omega
 omega
theorem dj {α:Type} {l:List α} {i:Nat} {a:α} (h:l[i]?=some a):l.take (i+1)=l.take i++[a]:=by rw [List.take_add_one,h];rfl
theorem HJ {x:Lex} {l:List Int} {c:Int}:oq x (l++[c])=oq x l+(cQ x c).weight:=by unfold oq;simp
theorem QE {x:Lex} {l:List Int} {c:Int}:kd x (l++[c])=kd x l++(cQ x c).text:=by unfold kd;simp
def c93:az:=⟨[0,1,2,3,4,5,6,8,12,21,51,55,57,58,59,60,72],[],[],[],[(6,[0,1,2,3,4,5,6,7,8,9,10,11,12,13,14,15,16,17,18,19,20,21,22,23,24,25,26,27,28,29],[])],[]⟩
def c224:az:=⟨[0,1,2,3,4,5,7,17,28,29,30,31],[],[],[],[],[]⟩
def c159:az:=⟨[0,1,2,3,4,5,6,11],[],[],[],[],[]⟩
def c163:az:=⟨[0,1,2,3,4,5,15],[],[],[],[],[]⟩
def c102:az:=⟨[0,1,2,3,4,5,6,11],[],[],[],[],[]⟩
theorem Cp (x:Lex) (f:aZ) (hx:rT x) (hf:f.ar.length<=aw):ae Tryz.prog 93 [.agg (fq x),.agg (eZ f)] [] (.int .i64 (dZ x f)):=by
 have sM:=hx.entries;have fk:=hx.bO;have vK:=hx.ar;unfold aw at sM fk vK hf;refine aG (F:=Tryz.f93) c93 rfl rfl rfl mixed rfl fun X=>?_;(conv=>whnf);repeat (refine ae.k0 (TM x hx) ?_;conv=>whnf)
 refine ⟨fun hc=>?_,fun hc=>?_⟩<;>simp at hc
 ·(conv=>whnf);exact ⟨by rw [dZ,if_pos hc],rfl⟩
 (conv=>whnf);repeat ((first|refine ae.k0 (BA _ _ _) ?_|(refine ⟨ah ⟨by rw [List.length_map];omega,by rw [List.length_map];omega⟩,?_⟩));conv=>whnf)
 refine ⟨fun hd=>?_,fun hd=>?_⟩
 ·have hd:(!bI f.entry 0 ((x.entries.map fJ).length - 1))=true:=hd;rw [List.length_map,Bool.not_eq_true'] at hd;(conv=>whnf);exact ⟨by rw [dZ,if_neg (by omega),if_pos hd],rfl⟩
 have hd:(!bI f.entry 0 ((x.entries.map fJ).length - 1))=false:=hd;rw [List.length_map,Bool.not_eq_false'] at hd;have cZ:=dY.1 hd;(conv=>whnf);repeat ((first|(refine rE (⟨0,[],[],0⟩:lF) ?_ ?_;(focus (conv=>whnf;skip));(focus (intro g0 g1;simp at g1;show 0<=_/\_<_;omega)))|(refine rE (⟨[],0,[],0⟩:kW) ?_ ?_;(focus (conv=>whnf;skip));(focus (intro g0 g1;show 0<=_/\_<_;omega)))|(refine ba (BA _ _ _) ?_)|(refine ⟨ah ⟨by rw [List.length_map];omega,by rw [List.length_map];omega⟩,?_⟩)|refine And.intro (by show aP (aN Tryz.f93 _) _=true;decide +kernel) ?_);conv=>whnf)
 refine ⟨fun he=>?_,fun he=>?_⟩
 ·have he:sV x f=true:=by unfold sV;rw [<- List.length_map (f:=jk)];exact he
  (conv=>whnf);exact ⟨by rw [dZ,if_neg (by omega),if_neg (by rw [hd];decide),if_pos he],rfl⟩
 have he:sV x f=false:=by unfold sV;rw [<- List.length_map (f:=jk)];exact he
 (conv=>whnf);refine ⟨fun h3=>?_,fun h3=>?_⟩<;>simp at h3
 ·(conv=>whnf);exact ⟨by rw [dZ,if_neg (by omega),if_neg (by rw [hd];decide),if_neg (by rw [he];decide),if_pos (by omega)],rfl⟩
 have hg:dZ x f=if iS x.ar.length f.ar (-1)=true then 0 else 47:=(by rw [dZ,if_neg (by omega),if_neg (by rw [hd];decide),if_neg (by rw [he];decide),if_neg (by omega)]);(conv=>whnf);refine bR rfl mixed [2,6,57,58,59] [] (fun m r h=>∃ (i:Nat) (last:Int),r=[(2,[],.au (fq x)),(6,[],.int .i64 last),(57,[],.sl 1 none (ints f.ar)),(58,[],.int .i64 (ints f.ar).length),(59,[],.int .i64 i)]/\h=[]/\m=f.ar.length - i/\i<=f.ar.length/\iS x.ar.length f.ar (-1)=iS x.ar.length (f.ar.drop i) last) ?_ ?_
 ·(conv=>whnf);exact ⟨_,0,-1,rfl,rfl,rfl,by omega,rfl⟩
 rintro m r h ⟨i,last,rfl,rfl,rfl,hi,hb⟩;(conv=>whnf);refine ⟨fun aD=>?_,fun aD=>?_⟩<;>simp at aD
 ·obtain ⟨c,hc⟩:=aL aD;rw [drop_cons hc,iS] at hb;(conv=>whnf);repeat (refine ix (by assumption) ?_;conv=>whnf)
  refine ⟨fun hq=>?_,fun hq=>?_⟩
  ·have hq:(decide (c<=last)||decide (((x.ar.map ib).length:Int)<=c))=true:=hq;rw [List.length_map] at hq;rw [hq] at hb;(conv=>whnf);exact ⟨by rw [hg,hb];rfl,rfl⟩
  have hq:(decide (c<=last)||decide (((x.ar.map ib).length:Int)<=c))=false:=hq;rw [List.length_map] at hq;rw [hq] at hb;(conv=>whnf);repeat (refine ⟨ah ⟨by omega,by omega⟩,?_⟩;conv=>whnf)
  exact ⟨_,by omega,i+1,c,rfl,rfl,rfl,by omega,hb⟩
 rw [drop_nil aD,iS] at hb;(conv=>whnf);exact ⟨by rw [hg,hb];rfl,rfl⟩
theorem G8 (x:Lex) (f:aZ) (h:lZ x f):ae Tryz.prog 224 [.agg (fq x),.agg (eZ f)] [] (.int .i64 (nm x f)):=by
 have dw:=h.bB;have Bu:=(h.lex.bZ h.entry.1 h.entry.2).weight;refine aG (F:=Tryz.f224) c224 rfl rfl rfl mixed rfl fun X=>?_;(conv=>whnf);repeat ((refine dg f.entry.toNat (by have:=h.entry;omega) (nZ h.entry.1 h.entry.2) ?_);conv=>whnf)
 refine ⟨fun he=>?_,fun he=>?_⟩<;>simp at he
 ·have ju:f.ending<x.bO.length:=by rcases h.ending with h|h<;>omega
  have oO:=(h.lex.iq he ju).weight;(conv=>whnf);repeat ((first|refine ⟨ah ⟨by omega,by omega⟩,?_⟩|(refine dg f.ending.toNat (by omega) (BG he ju) ?_));conv=>whnf)
  obtain ⟨n0,fM⟩:∃ n:Int,n=(bZ x f.entry).weight+(iq x f.ending).weight:=⟨_,rfl⟩;rw [<- fM];have jS:n0=(bZ x f.entry).weight+(if 0<=f.ending then (iq x f.ending).weight else 0):=by rw [if_pos he];exact fM
  replace fM:=jS;refine bR rfl mixed [2,5,28,29,30] [] (fun m r h=>∃ (i:Nat) (n:Int),r=[(2,[],.au (fq x)),(5,[],.int .i64 n),(28,[],.sl 1 none (ints f.ar)),(29,[],.int .i64 (ints f.ar).length),(30,[],.int .i64 i)]/\h=[]/\m=f.ar.length - i/\i<=f.ar.length/\n=n0+oq x (f.ar.take i)) ?_ ?_
  ·(conv=>whnf);exact ⟨_,0,n0,rfl,rfl,rfl,by omega,by simp [oq]⟩
  rintro m r h ⟨i,n,rfl,rfl,rfl,hi,hn⟩;(conv=>whnf);refine ⟨fun aD=>?_,fun aD=>?_⟩<;>simp at aD
  ·obtain ⟨c,hc⟩:=aL aD;have bG:=h.ed c (List.mem_of_getElem? hc);have cV:=(h.lex.cQ bG.1 bG.2).weight;have hb:=BH h.lex (l:=f.ar.take i) fun d hd=>h.ed d (List.mem_of_mem_take hd);rw [List.length_take] at hb;have hs:=dj hc;(conv=>whnf);repeat ((first|refine ⟨ah ⟨by omega,by omega⟩,?_⟩|refine ix (by assumption) ?_|(refine dg c.toNat (by omega) (ll bG.1 bG.2) ?_));conv=>whnf)
   exact ⟨_,by omega,i+1,_,rfl,rfl,rfl,by omega,by rw [hs,HJ];omega⟩
  rw [List.take_of_length_le aD] at hn;(conv=>whnf);refine ⟨congrArg (AV.int .i64) ?_,rfl⟩;rw [hn,fM];rfl
 (conv=>whnf);obtain ⟨n0,fM⟩:∃ n:Int,n=(bZ x f.entry).weight:=⟨_,rfl⟩;rw [<- fM];have jS:n0=(bZ x f.entry).weight+(if 0<=f.ending then (iq x f.ending).weight else 0):=by rw [if_neg (by omega)];omega
 replace fM:=jS;refine bR rfl mixed [2,5,28,29,30] [] (fun m r h=>∃ (i:Nat) (n:Int),r=[(2,[],.au (fq x)),(5,[],.int .i64 n),(28,[],.sl 1 none (ints f.ar)),(29,[],.int .i64 (ints f.ar).length),(30,[],.int .i64 i)]/\h=[]/\m=f.ar.length - i/\i<=f.ar.length/\n=n0+oq x (f.ar.take i)) ?_ ?_
 ·(conv=>whnf);exact ⟨_,0,n0,rfl,rfl,rfl,by omega,by simp [oq]⟩
 rintro m r h ⟨i,n,rfl,rfl,rfl,hi,hn⟩;(conv=>whnf);refine ⟨fun aD=>?_,fun aD=>?_⟩<;>simp at aD
 ·obtain ⟨c,hc⟩:=aL aD;have bG:=h.ed c (List.mem_of_getElem? hc);have cV:=(h.lex.cQ bG.1 bG.2).weight;have hb:=BH h.lex (l:=f.ar.take i) fun d hd=>h.ed d (List.mem_of_mem_take hd);rw [List.length_take] at hb;have hs:=dj hc;(conv=>whnf);repeat ((first|refine ⟨ah ⟨by omega,by omega⟩,?_⟩|refine ix (by assumption) ?_|(refine dg c.toNat (by omega) (ll bG.1 bG.2) ?_));conv=>whnf)
  exact ⟨_,by omega,i+1,_,rfl,rfl,rfl,by omega,by rw [hs,HJ];omega⟩
 rw [List.take_of_length_le aD] at hn;(conv=>whnf);refine ⟨congrArg (AV.int .i64) ?_,rfl⟩;rw [hn,fM];rfl
theorem QF (x:Lex) (f:aZ) (hx:rT x) (hf:f.ar.length<=aw):ae Tryz.prog 159 [.agg (fq x),.agg (eZ f)] [] (.aH [.int .i64 (if dZ x f=0 then nm x f else 0),.int .i64 (dZ x f)]):=by
 refine aG (F:=Tryz.f159) c159 rfl rfl rfl mixed rfl fun X=>?_;(conv=>whnf);repeat (refine ae.k0 (Cp x f hx hf) ?_;conv=>whnf)
 refine ⟨fun hc=>?_,fun hc=>?_⟩<;>simp at hc
 ·(conv=>whnf);exact ⟨by rw [if_neg hc],rfl⟩
 (conv=>whnf);repeat (refine ae.k0 (G8 x f (mn hc)) ?_;conv=>whnf)
 exact ⟨by rw [if_pos hc,hc],rfl⟩
theorem G9 (x:Lex) (f:aZ) (h:lZ x f):ae Tryz.prog 163 [.agg (fq x),.agg (eZ f)] [] (.str (kc x f)):=by
 have aF:=h.GJ;refine aG (F:=Tryz.f163) c163 rfl rfl rfl mixed rfl fun X=>?_;(conv=>whnf);repeat ((refine dg f.entry.toNat (by have:=h.entry;omega) (nZ h.entry.1 h.entry.2) ?_);conv=>whnf)
 refine ⟨fun he=>?_,fun he=>?_⟩<;>simp at he
 ·have ju:f.ending<x.bO.length:=by rcases h.ending with h|h<;>omega
  have hs:kc x f=(bZ x f.entry).root++(iq x f.ending).text:=(by rw [kc,if_pos he]);rw [hs] at aF ⊢;(conv=>whnf);repeat ((first|(refine dg f.ending.toNat (by omega) (BG he ju) ?_)|(refine ⟨ah (by unfold aw;omega),?_⟩));conv=>whnf)
  exact ⟨rfl,rfl⟩
 have hs:kc x f=(bZ x f.entry).root:=(by rw [kc,if_neg (by omega),List.append_nil]);rw [hs];(conv=>whnf);exact ⟨rfl,rfl⟩
theorem Yl (x:Lex) (f:aZ) (hx:rT x) (hf:f.ar.length<=aw):ae Tryz.prog 102 [.agg (fq x),.agg (eZ f)] [] (.aH [.str (if dZ x f=0 then kc x f else []),.int .i64 (dZ x f)]):=by
 refine aG (F:=Tryz.f102) c102 rfl rfl rfl mixed rfl fun X=>?_;(conv=>whnf);repeat (refine ae.k0 (Cp x f hx hf) ?_;conv=>whnf)
 refine ⟨fun hc=>?_,fun hc=>?_⟩<;>simp at hc
 ·(conv=>whnf);exact ⟨by rw [if_neg hc],rfl⟩
 (conv=>whnf);repeat (refine ae.k0 (G9 x f (mn hc)) ?_;conv=>whnf)
 exact ⟨by rw [if_pos hc,hc],rfl⟩
end Go.Abs.Wall
namespace Go.Abs.Wall
open Go Go.Abs Go.Proofs
def gu (t w:List UInt8):Bool:=decide ((w.length:Int)<=t.length)&&decide (t.take w.length=w)
def rQ (t w:List UInt8):Bool:=decide ((w.length:Int)<=t.length)&&decide (t.drop (t.length - w.length)=w)
def c284:az:=⟨[0,1,4],[],[],[],[],[]⟩
def c256:az:=⟨[0,1,4],[],[],[],[],[]⟩
def c257:az:=⟨[0,1,4],[],[],[],[],[]⟩
def c222:az:=⟨[0,1,4],[],[],[],[],[]⟩
theorem H0 (t w:List UInt8) (ht:t.length<=aw) (hw:w.length<=aw):ae Tryz.prog 284 [.str t,.str w] [] (.bool (gu t w)):=by
 unfold aw at ht hw;refine aG (F:=Tryz.f284) c284 rfl rfl rfl mixed rfl fun X=>?_;(conv=>whnf);repeat ((refine And.intro ?_ ?_;(focus ((conv=>whnf);intro g0;have g0:=of_decide_eq_true g0;refine ⟨?_,?_,?_⟩<;>omega)));conv=>whnf)
 exact ⟨rfl,rfl⟩
theorem hasPrefix (t w:List UInt8) (ht:t.length<=aw) (hw:w.length<=aw):ae Tryz.prog 256 [.str t,.str w] [] (.bool (gu t w)):=by
 refine aG (F:=Tryz.f256) c256 rfl rfl rfl mixed rfl fun X=>?_;(conv=>whnf);repeat (refine ae.k0 (H0 t w ht hw) ?_;conv=>whnf)
 exact ⟨rfl,rfl⟩
theorem H2 (t w:List UInt8) (ht:t.length<=aw) (hw:w.length<=aw):ae Tryz.prog 257 [.str t,.str w] [] (.bool (rQ t w)):=by
 unfold aw at ht hw;refine aG (F:=Tryz.f257) c257 rfl rfl rfl mixed rfl fun X=>?_;(conv=>whnf);repeat ((first|refine ⟨ah ⟨by omega,by omega⟩,?_⟩|(refine And.intro ?_ ?_;(focus ((conv=>whnf);intro g0;have g0:=of_decide_eq_true g0;refine ⟨?_,?_,?_⟩<;>omega))));conv=>whnf)
 refine ⟨congrArg AV.bool ?_,rfl⟩;unfold rQ;by_cases h:(w.length:Int)<=t.length
 ·simp only [decide_eq_true h,Bool.true_and];rw [List.take_of_length_le (by omega),show ((t.length:Int) - (w.length:Int)).toNat=t.length - w.length by omega]
 simp only [decide_eq_false h,Bool.false_and]
theorem hasSuffix (t w:List UInt8) (ht:t.length<=aw) (hw:w.length<=aw):ae Tryz.prog 222 [.str t,.str w] [] (.bool (rQ t w)):=by
 refine aG (F:=Tryz.f222) c222 rfl rfl rfl mixed rfl fun X=>?_;(conv=>whnf);repeat (refine ae.k0 (H2 t w ht hw) ?_;conv=>whnf)
 exact ⟨rfl,rfl⟩
def cB (a b:Int):Int:=if a<b then -1 else if b<a then 1 else 0
def qi (a b:List UInt8):Int:=if a<b then -1 else if a=b then 0 else 1
def ig:List Int->Int
 | []=>0
 | x::l=>if x≠0 then x else ig l
def c210:az:=⟨[0,2],[],[],[],[],[]⟩
def c283:az:=⟨[0,2],[],[],[],[],[]⟩
def c137:az:=⟨[0,1,4,5,6,11,12,13,16,19],[],[],[],[],[]⟩
def c254:az:=⟨[0,1,4,5,6,11,12,13,16,19],[],[],[],[],[]⟩
def c136:az:=⟨[0,2,3,5,6,7,8,9,14],[],[],[],[],[]⟩
theorem H3 (a:Int):ae Tryz.prog 210 [.int .i64 a] [] (.bool false):=by refine aG (F:=Tryz.f210) c210 rfl rfl rfl mixed rfl fun X=>?_;(conv=>whnf);exact ⟨by simp,rfl⟩
theorem H4 (a:List UInt8):ae Tryz.prog 283 [.str a] [] (.bool false):=by refine aG (F:=Tryz.f283) c283 rfl rfl rfl mixed rfl fun X=>?_;(conv=>whnf);exact ⟨by simp,rfl⟩
theorem Cu (a b:Int):ae Tryz.prog 137 [.int .i64 a,.int .i64 b] [] (.int .i64 (cB a b)):=by
 refine aG (F:=Tryz.f137) c137 rfl rfl rfl mixed rfl fun X=>?_;(conv=>whnf);repeat (refine ae.k0 (H3 _) ?_;conv=>whnf)
 refine cF rfl ?_;(conv=>whnf);refine cF rfl ?_;(conv=>whnf);refine ⟨fun h=>?_,fun h=>?_⟩<;>simp only [decide_eq_true_eq,decide_eq_false_iff_not] at h
 ·(conv=>whnf);exact ⟨by rw [cB,if_pos h],rfl⟩
 (conv=>whnf);refine ⟨fun h2=>?_,fun h2=>?_⟩<;>simp only [decide_eq_true_eq,decide_eq_false_iff_not] at h2
 ·(conv=>whnf);exact ⟨by rw [cB,if_neg h,if_pos h2],rfl⟩
 (conv=>whnf);exact ⟨by rw [cB,if_neg h,if_neg h2],rfl⟩
theorem H5 (a b:List UInt8):ae Tryz.prog 254 [.str a,.str b] [] (.int .i64 (qi a b)):=by
 refine aG (F:=Tryz.f254) c254 rfl rfl rfl mixed rfl fun X=>?_;(conv=>whnf);repeat (refine ae.k0 (H4 _) ?_;conv=>whnf)
 refine cF rfl ?_;(conv=>whnf);refine cF rfl ?_;(conv=>whnf);rw [bytesLess_eq];refine ⟨fun h=>?_,fun h=>?_⟩<;>simp only [decide_eq_true_eq,decide_eq_false_iff_not] at h
 ·(conv=>whnf);exact ⟨by rw [qi,if_pos h],rfl⟩
 (conv=>whnf);rw [bytesLess_eq];refine ⟨fun h2=>?_,fun h2=>?_⟩<;>simp [h] at h2
 ·(conv=>whnf);exact ⟨by rw [qi,if_neg h,if_neg h2],rfl⟩
 (conv=>whnf);exact ⟨by rw [qi,if_neg h,if_pos h2],rfl⟩
theorem FN (l:List Int) (hl:l.length<=aw):ae Tryz.prog 136 [.sl 1 none (ints l)] [] (.int .i64 (ig l)):=by
 unfold aw at hl;refine aG (F:=Tryz.f136) c136 rfl rfl rfl mixed rfl fun X=>?_;(conv=>whnf);refine bR rfl mixed [3,6,7,8] [] (fun m r h=>∃ (i:Nat),r=[(3,[],.int .i64 0),(6,[],.sl 1 none (ints l)),(7,[],.int .i64 (ints l).length),(8,[],.int .i64 i)]/\h=[]/\m=l.length - i/\i<=l.length/\ig l=ig (l.drop i)) ?_ ?_
 ·(conv=>whnf);exact ⟨_,0,rfl,rfl,rfl,by omega,rfl⟩
 rintro m r h ⟨i,rfl,rfl,rfl,hi,hb⟩;(conv=>whnf);refine ⟨fun aD=>?_,fun aD=>?_⟩<;>simp at aD
 ·obtain ⟨c,hc⟩:=aL aD;rw [drop_cons hc,ig] at hb;(conv=>whnf);repeat (refine ix (by assumption) ?_;conv=>whnf)
  refine ⟨fun hq=>?_,fun hq=>?_⟩<;>simp at hq
  ·rw [if_pos hq] at hb;(conv=>whnf);exact ⟨by rw [hb],rfl⟩
  rw [if_neg (by simpa using hq)] at hb;(conv=>whnf);repeat (refine ⟨ah ⟨by omega,by omega⟩,?_⟩;conv=>whnf)
  exact ⟨_,by omega,i+1,rfl,rfl,rfl,by omega,hb⟩
 rw [drop_nil aD,ig] at hb;(conv=>whnf);exact ⟨by rw [hb],rfl⟩
structure ay where
 kind:Int
 text:List UInt8
deriving DecidableEq
def aV (u:ay):List AV:=[.int .i64 u.kind,.str u.text]
def mb (a b:ay):Int:=ig [cB a.kind b.kind,qi a.text b.text]
def c220:az:=⟨[0,1,2,3,4],[],[],[],[(1,[0,1,2,3,4,5,6,7,8,9,10,11,12],[])],[]⟩
theorem TS (a b:ay):ae Tryz.prog 220 [.agg (aV a),.agg (aV b)] [] (.int .i64 (mb a b)):=by
 refine aG (F:=Tryz.f220) c220 rfl rfl rfl mixed rfl fun X=>?_;(conv=>whnf);repeat ((first|refine ba (Cu _ _) ?_|refine ba (H5 _ _) ?_|refine ba (FN [cB a.kind b.kind,qi a.text b.text] (by simp [aw])) ?_|refine And.intro (by show aP (aN Tryz.f220 _) _=true;decide +kernel) ?_);conv=>whnf)
 exact ⟨rfl,rfl⟩
def c195:az:=⟨[0,2,4],[5],[],[],[],[]⟩
def c196:az:=⟨[0,2,4],[5],[],[],[],[]⟩
theorem H6 {l:List Int} (h:l≠[]):ints l≠[]:=by simpa [ints] using h
def Em (k:Nat) (xs:List (List AV)) (v:AV) (h:af):Prop:=(xs=[]/\v=.aT/\h=[])\/∃ q,v=.sl k (some q) xs/\h=[(q,.tok)]
theorem Mw (l:List Int) (hl:l.length<=aU):aB Tryz.prog 195 [.sl 1 none (ints l)] [] (Em 1 (ints l)):=by
 unfold aU at hl;by_cases h:l=[]
 ·subst h;refine aB.Rz ?_ ?_
  ·refine aG (F:=Tryz.f195) c195 rfl rfl rfl mixed rfl fun X=>?_;(conv=>whnf);refine ⟨fun hc=>?_,fun hc=>?_⟩
   ·(conv=>whnf);exact .inl ⟨rfl,rfl,rfl⟩
   cases hc
  refine aG (F:=Tryz.f195) c195 rfl rfl rfl mixed rfl fun X=>?_;(conv=>whnf);refine ⟨fun hc=>?_,fun hc=>?_⟩
  ·cases hc
  (conv=>whnf);intro q;(conv=>whnf);refine ⟨by simp [aU],fun q'=>⟨_,.here _,?_⟩⟩;(conv=>whnf);exact .inr ⟨q',rfl,rfl⟩
 refine aG (F:=Tryz.f195) c195 rfl rfl rfl mixed rfl fun X=>?_;(conv=>whnf);refine ⟨H6 h,?_⟩;(conv=>whnf);refine ⟨fun hc=>?_,fun hc=>?_⟩
 ·cases hc
 (conv=>whnf);intro q;(conv=>whnf);refine ⟨by simp [aU];omega,fun q'=>⟨_,.here _,?_⟩⟩;(conv=>whnf);exact .inr ⟨q',rfl,rfl⟩
theorem Em.ok {f:FuncId} {vs:List AV} {k:Nat} {xs:List (List AV)} (hk:0<k) (h:aB Tryz.prog f vs [] (Em k xs)):ae Tryz.prog f vs [] (.sl k none xs):=by
 refine ae.of (aB.mono ?_ h);rintro v h' (⟨rfl,rfl,rfl⟩|⟨q,rfl,rfl⟩)
 ·exact ag.nil hk
 exact ag.sl
theorem Mx (l:List Int) (hl:l.length<=aU):ae Tryz.prog 195 [.sl 1 none (ints l)] [] (.sl 1 none (ints l)):=Em.ok (by decide) (Mw l hl)
theorem H7 {α β:Type} {f:α->β} {l:List α} (h:l≠[]):l.map f≠[]:=by simpa using h
theorem H8 (l:List ay) (hl:l.length<=aU):ae Tryz.prog 196 [.sl 2 none (l.map aV)] [] (.sl 2 none (l.map aV)):=by
 refine Em.ok (by decide) ?_;unfold aU at hl;by_cases h:l=[]
 ·subst h;refine aB.Rz ?_ ?_
  ·refine aG (F:=Tryz.f196) c196 rfl rfl rfl mixed rfl fun X=>?_;(conv=>whnf);refine ⟨fun hc=>?_,fun hc=>?_⟩
   ·(conv=>whnf);exact .inl ⟨rfl,rfl,rfl⟩
   cases hc
  refine aG (F:=Tryz.f196) c196 rfl rfl rfl mixed rfl fun X=>?_;(conv=>whnf);refine ⟨fun hc=>?_,fun hc=>?_⟩
  ·cases hc
  (conv=>whnf);intro q;(conv=>whnf);refine ⟨by simp [aU],fun q'=>⟨_,.here _,?_⟩⟩;(conv=>whnf);exact .inr ⟨q',rfl,rfl⟩
 refine aG (F:=Tryz.f196) c196 rfl rfl rfl mixed rfl fun X=>?_;(conv=>whnf);refine ⟨H7 h,?_⟩;(conv=>whnf);refine ⟨fun hc=>?_,fun hc=>?_⟩
 ·cases hc
 (conv=>whnf);intro q;(conv=>whnf);refine ⟨by simp [aU];omega,fun q'=>⟨_,.here _,?_⟩⟩;(conv=>whnf);exact .inr ⟨q',rfl,rfl⟩
theorem TU {l:List ay}:∀ z∈l.map aV,z.length=2:=by intro z hz;obtain ⟨u,_,rfl⟩:=List.mem_map.1 hz;rfl
theorem H9 (b:Nat) (l:List ay) (Z:List AV) (hl:l.length<=aU):ae Tryz.prog 196 [.aQ b 0 l.length 2] [(b,.vec ((l.map aV).flatten++Z))] (.sl 2 none (l.map aV)):=by
 refine aB.post (R:=fun v h'=>∃ q,v=.sl 2 (some q) (l.map aV)/\h'=(q,.tok)::[(b,.vec ((l.map aV).flatten++Z))]) ?_ ?_
 ·refine aG (F:=Tryz.f196) c196 rfl rfl rfl mixed rfl fun X=>?_;(conv=>whnf);refine ⟨fun hc=>?_,fun hc=>?_⟩
  ·cases hc
  (conv=>whnf);intro q;(conv=>whnf);have dP:((l.map aV).flatten).length=l.length*2:=(by rw [lB TU,List.length_map]);refine ⟨_,l.map aV,.tail _ (.head _),⟨by rw [List.drop_zero,List.take_append_of_le_length (by omega),List.take_of_length_le (by omega)],TU,by simp⟩,by simp only [List.nil_append,List.length_map];exact hl,fun q'=>⟨_,.here _,?_⟩⟩;(conv=>whnf);exact ⟨q',rfl,rfl⟩
 rintro v h1 ⟨q,rfl,rfl⟩;exact ⟨_,_,⟨rfl,rfl⟩,ag.sl,fun k o hm=>List.mem_cons_of_mem _ hm,fun er=>(List.nodup_cons.1 er).2⟩
def c158:az:=⟨[0,1,4,5,10,12,13,14,24],[],[],[],[(6,[0,1,2,3,4,5,6,7,8],[])],[]⟩
def c218:az:=⟨[0,1,3,4,5,7,8,9,16],[],[],[],[(4,[0,1,2,3,4,5],[])],[]⟩
def c152:az:=⟨[0,1,3,4],[],[],[],[],[]⟩
theorem I2 (a b:List Int) (ha:a.length<=aw) (hb:b.length<=aw):ae Tryz.prog 158 [.sl 1 none (ints a),.sl 1 none (ints b)] [] (.bool (decide (a=b))):=by
 unfold aw at ha hb;refine aG (F:=Tryz.f158) c158 rfl rfl rfl mixed rfl fun X=>?_;(conv=>whnf);refine ⟨fun hc=>?_,fun hc=>?_⟩<;>simp at hc
 ·(conv=>whnf);exact ⟨congrArg AV.bool (decide_eq_false fun e=>hc (by rw [e])).symm,rfl⟩
 (conv=>whnf);refine bR rfl mixed [0,1,12,13] [] (fun m r h=>∃ (i:Nat),r=[(0,[],.sl 1 none (ints a)),(1,[],.sl 1 none (ints b)),(12,[],.int .i64 (ints a).length),(13,[],.int .i64 i)]/\h=[]/\m=a.length - i/\i<=a.length/\∀ j,j<i->a[j]?=b[j]?) ?_ ?_
 ·(conv=>whnf);exact ⟨_,0,rfl,rfl,rfl,by omega,fun j hj=>by omega⟩
 rintro m r h ⟨i,rfl,rfl,rfl,hi,hg⟩;(conv=>whnf);refine ⟨fun aD=>?_,fun aD=>?_⟩<;>simp at aD
 ·obtain ⟨x,hx⟩:=aL aD;obtain ⟨y,hy⟩:=aL (show i<b.length by omega);(conv=>whnf);repeat ((first|refine ix (by assumption) ?_|refine And.intro (by show aP (aN Tryz.f158 _) _=true;decide +kernel) ?_);conv=>whnf)
  refine ⟨fun hq=>?_,fun hq=>?_⟩<;>simp at hq
  ·(conv=>whnf);exact ⟨congrArg AV.bool (decide_eq_false fun e=>hq (by rw [e,hy] at hx;exact (Option.some.inj hx).symm)).symm,rfl⟩
  (conv=>whnf);repeat (refine ⟨ah ⟨by omega,by omega⟩,?_⟩;conv=>whnf)
  refine ⟨_,by omega,i+1,rfl,rfl,rfl,by omega,fun j hj=>?_⟩;rcases Nat.lt_succ_iff_lt_or_eq.1 hj with h'|rfl
  ·exact hg j h'
  rw [hx,hy,hq]
 (conv=>whnf);refine ⟨congrArg AV.bool (decide_eq_true ?_).symm,rfl⟩;refine List.ext_getElem? fun j=>?_;by_cases hj:j<i
 ·exact hg j hj
 rw [List.getElem?_eq_none (by omega),List.getElem?_eq_none (by omega)]
theorem My:qt Tryz.prog 128=true:=by decide +kernel
def pI (a b:ay):Bool:=decide (a.kind=b.kind)&&(decide (a.text=b.text)&&true)
theorem AF (a b:ay):pI a b=decide (a=b):=by obtain ⟨a1,a2⟩:=a;obtain ⟨b1,b2⟩:=b;unfold pI;rw [Bool.eq_iff_iff];simp
theorem I3 (l:List ay) (u:ay) (hl:l.length<=aw):ae Tryz.prog 218 [.sl 2 none (l.map aV),.agg (aV u)] [] (.int .i64 (kb (pI u) l)):=by
 unfold aw at hl;refine aG (F:=Tryz.f218) c218 rfl rfl rfl mixed rfl fun X=>?_;(conv=>whnf);refine bR rfl mixed [0,3,7,8] [] (fun m r h=>∃ (i:Nat),r=[(0,[],.sl 2 none (l.map aV)),(3,[],.au (aV u)),(7,[],.int .i64 (l.map aV).length),(8,[],.int .i64 i)]/\h=[]/\m=l.length - i/\i<=l.length/\Below (pI u) l i) ?_ ?_
 ·(conv=>whnf);exact ⟨_,0,rfl,rfl,rfl,by omega,.zero⟩
 rintro m r h ⟨i,rfl,rfl,rfl,hi,hg⟩;(conv=>whnf);refine ⟨fun hc=>?_,fun hc=>?_⟩<;>simp at hc
 ·obtain ⟨x,hx⟩:=aL hc;(conv=>whnf);repeat ((first|refine ix (by assumption) ?_|refine And.intro (by show aP (aN Tryz.f218 _) _=true;decide +kernel) ?_);conv=>whnf)
  refine ⟨My,?_⟩;(conv=>whnf);refine ⟨fun hd=>?_,fun hd=>?_⟩
  ·(conv=>whnf);exact ⟨by rw [hg.at hx hd],rfl⟩
  (conv=>whnf);repeat (refine ⟨ah ⟨by omega,by omega⟩,?_⟩;conv=>whnf)
  exact ⟨_,by omega,i+1,rfl,rfl,rfl,by omega,hg.succ hx hd⟩
 (conv=>whnf);exact ⟨by rw [hg.end hc],rfl⟩
theorem I4 (l:List ay) (u:ay) (hl:l.length<=aw):ae Tryz.prog 152 [.sl 2 none (l.map aV),.agg (aV u)] [] (.bool (l.any (pI u))):=by
 refine aG (F:=Tryz.f152) c152 rfl rfl rfl mixed rfl fun X=>?_;(conv=>whnf);repeat (refine ae.k0 (I3 l u hl) ?_;conv=>whnf)
 exact ⟨congrArg AV.bool (vP _ l),rfl⟩
end Go.Abs.Wall
namespace Go.Abs.Wall
open Go Go.Abs Go.Proofs
def px {α:Type} (cmp:α->α->Int) (l:List α):List α:=l.mergeSort fun a b=>!decide (cmp b a<0)
structure HK {α:Type} (cmp:α->α->Int):Prop where
 ud:∀ x,¬ cmp x x<0
 tr:∀ x y z,cmp x y<0->cmp y z<0->cmp x z<0
 nt:∀ x y z,¬ cmp x y<0->¬ cmp y z<0->¬ cmp x z<0
 yw:∀ x y,¬ cmp x y<0->¬ cmp y x<0->x=y
structure oZ {α:Type} (cmp:α->α->Int):Prop where
 ud:∀ x,¬ cmp x x<0
 tr:∀ x y z,cmp x y<0->cmp y z<0->cmp x z<0
 nt:∀ x y z,¬ cmp x y<0->¬ cmp y z<0->¬ cmp x z<0
theorem HK.w {α:Type} {cmp:α->α->Int} (h:HK cmp):oZ cmp:=⟨h.ud,h.tr,h.nt⟩
theorem AJ {α:Type} {cmp:α->α->Int} {l:List α}:(px cmp l).Perm l:=List.mergeSort_perm _ _
theorem oZ.sorted {α:Type} {cmp:α->α->Int} (h:oZ cmp) (l:List α):(px cmp l).Pairwise fun x y=>¬ cmp y x<0:=by
 have:=List.pairwise_mergeSort (le:=fun a b=>!decide (cmp b a<0)) (by
  intro a b c h1 h2;simp only [Bool.not_eq_true',decide_eq_false_iff_not] at h1 h2 ⊢;exact h.nt c b a h2 h1) (by
  intro a b;simp only [Bool.or_eq_true,Bool.not_eq_true',decide_eq_false_iff_not];by_cases hc:cmp b a<0
  ·exact .inr fun h2=>h.ud _ (h.tr _ _ _ hc h2)
  exact .inl hc) l
 refine List.Pairwise.imp ?_ this;intro a b qI;simpa using qI
theorem oZ.unique {α:Type} {cmp:α->α->Int} (h:oZ cmp) {l l':List α} (ha:∀ x∈l,∀ y∈l,¬ cmp x y<0->¬ cmp y x<0->x=y) (hp:l'.Perm l) (hs:l'.Pairwise fun x y=>¬ cmp y x<0):l'=px cmp l:=
 List.Perm.eq_of_pairwise (le:=fun x y=>¬ cmp y x<0) (fun a b h3 h4 h1 h2=>ha a (hp.mem_iff.1 h3) b (AJ.mem_iff.1 h4) h2 h1) hs (h.sorted l) (hp.trans AJ.symm)
theorem sG {α:Type} {cmp:α->α->Int} {l:List α}:(px cmp l).length=l.length:=AJ.length_eq
theorem JM {α:Type} {cmp:α->α->Int} {l:List α} {a:α}:a∈px cmp l↔a∈l:=AJ.mem_iff
section
variable {f g k:Nat} {α:Type} {enc:α->List AV} {dec:List AV->α}
theorem TV (iO:0<k) (hf:tT Tryz.prog f) (hg:tT Tryz.prog g) (hs:By Tryz.prog f g k) (cmp:α->α->Int) (hd:∀ a,dec (enc a)=a) (hk:∀ a,(enc a).length=k) (ho:oZ cmp) (xs:List α) (ha:∀ x∈xs,∀ y∈xs,¬ cmp x y<0->¬ cmp y x<0->x=y) (aJ:xs≠[]) (ka:xs.length<=4294967296)
  (zL:∀ x∈xs,∀ y∈xs,ae Tryz.prog g [.agg (enc x),.agg (enc y)] [] (.int .i64 (cmp x y))) (b:Nat) :
  aB Tryz.prog f [.aQ b 0 xs.length k,.fn g []] [(b,.vec (xs.map enc).flatten)] (fun v h'=>v=.aH []/\h'=[(b,.vec ((px cmp xs).map enc).flatten)]):=by
 have hinv:∀ x∈xs.map enc,enc (dec x)=x:=by intro x hx;obtain ⟨a,_,rfl⟩:=List.mem_map.1 hx;rw [hd]
 have h1:=w8 iO hf hg hs (fun x y=>cmp (dec x) (dec y)) (xs.map enc) (by
   intro x hx;obtain ⟨a,_,rfl⟩:=List.mem_map.1 hx;exact hk a) (by simpa using aJ) (by simpa using ka) (by
   intro x hx y hy;obtain ⟨a,ha,rfl⟩:=List.mem_map.1 hx;obtain ⟨c,hc,rfl⟩:=List.mem_map.1 hy;rw [hd,hd];exact zL a ha c hc) (fun x _=>ho.ud _) (fun x _ y _ z _=>ho.tr _ _ _) (fun x _ y _ z _=>ho.nt _ _ _) b
 rw [List.length_map] at h1;refine aB.mono ?_ h1;rintro v h' ⟨rfl,ys,rfl,hp,hy⟩;refine ⟨rfl,?_⟩;have lg:ys=(ys.map dec).map enc:=by rw [List.map_map];symm;refine (List.map_congr_left fun y hy=>?_).trans (List.map_id _);exact hinv y (hp.mem_iff.1 hy)
 have tm:(ys.map dec).Perm xs:=by have:=hp.map dec;rw [List.map_map] at this;refine this.trans (List.Perm.of_eq ?_);refine (List.map_congr_left fun a _=>?_).trans (List.map_id _);exact hd a
 have qH:(ys.map dec).Pairwise fun x y=>¬ cmp y x<0:=by rw [List.pairwise_map];exact hy
 rw [ho.unique ha tm qH] at lg;rw [lg]
theorem I5 (iO:0<k) (hf:tT Tryz.prog f) (hg:tT Tryz.prog g) (hs:By Tryz.prog f g k) (cmp:α->α->Int) (hd:∀ a,dec (enc a)=a) (hk:∀ a,(enc a).length=k) (ho:HK cmp) (xs:List α) (aJ:xs≠[]) (ka:xs.length<=4294967296)
  (zL:∀ x∈xs,∀ y∈xs,ae Tryz.prog g [.agg (enc x),.agg (enc y)] [] (.int .i64 (cmp x y))) (b:Nat) :
  aB Tryz.prog f [.aQ b 0 xs.length k,.fn g []] [(b,.vec (xs.map enc).flatten)] (fun v h'=>v=.aH []/\h'=[(b,.vec ((px cmp xs).map enc).flatten)]):=
 TV iO hf hg hs cmp hd hk ho.w xs (fun x _ y _=>ho.yw x y) aJ ka zL b
end
theorem xN {a b:Int}:cB a b<0↔a<b:=by unfold cB;split<;>(try split)<;>omega
theorem si {a b:Int}:cB a b=0↔a=b:=by unfold cB;split<;>(try split)<;>omega
theorem Eo {a b:List UInt8}:qi a b<0↔a<b:=by
 unfold qi;by_cases h:a<b
 ·simp [h]
 rw [if_neg h];split<;>simp [h]
theorem I6 {a b:List UInt8}:qi a b=0↔a=b:=by
 unfold qi;by_cases h:a<b
 ·rw [if_pos h];exact ⟨fun h=>(by cases h),fun e=>(by subst e;exact absurd h (List.lt_irrefl _))⟩
 rw [if_neg h];split<;>simp_all
structure kT {α:Type} (c:α->α->Int):Prop where
 zero:∀ x y,c x y=0↔x=y
 vD:∀ x y,c x y<0↔0<c y x
 tr:∀ x y z,c x y<0->c y z<0->c x z<0
theorem kT.c {α:Type} {c:α->α->Int} (h:kT c):HK c:=by
 have hn:∀ x y,¬ c x y<0->x=y\/c y x<0:=by
  intro x y hh;by_cases hz:c x y=0
  ·exact .inl ((h.zero _ _).1 hz)
  exact .inr ((h.vD y x).2 (by omega))
 have hi:∀ x,¬ c x x<0:=fun x=>by have:=(h.zero x x).2 rfl;omega
 refine ⟨hi,h.tr,fun x y z a b=>?_,fun x y a b=>?_⟩
 ·rcases hn _ _ a with rfl|a
  ·exact b
  rcases hn _ _ b with rfl|b
  ·intro hh;exact hi _ (h.tr _ _ _ a hh)
  intro hh;exact hi _ (h.tr _ _ _ (h.tr _ _ _ b a) hh)
 rcases hn _ _ a with rfl|a
 ·rfl
 exact absurd a b
def mJ {β γ:Type} (c1:β->β->Int) (c2:γ->γ->Int) (a b:β × γ):Int:=if c1 a.1 b.1≠0 then c1 a.1 b.1 else c2 a.2 b.2
theorem kT.mJ {β γ:Type} {c1:β->β->Int} {c2:γ->γ->Int} (h1:kT c1) (h2:kT c2):kT (Wall.mJ c1 c2):=by
 have aI:∀ a b,Wall.mJ c1 c2 a b<0↔c1 a.1 b.1<0\/(a.1=b.1/\c2 a.2 b.2<0):=by
  intro a b;unfold Wall.mJ;split
  ·rename_i h;have:a.1≠b.1:=fun e=>h ((h1.zero _ _).2 e);simp [this]
  rename_i h;have e0:c1 a.1 b.1=0:=(by simpa using h);have e:a.1=b.1:=(h1.zero _ _).1 e0;simp [e] at *;omega
 have I7:∀ a b,0<Wall.mJ c1 c2 a b↔0<c1 a.1 b.1\/(a.1=b.1/\0<c2 a.2 b.2):=by
  intro a b;unfold Wall.mJ;split
  ·rename_i h;have:a.1≠b.1:=fun e=>h ((h1.zero _ _).2 e);simp [this]
  rename_i h;have e0:c1 a.1 b.1=0:=(by simpa using h);have e:a.1=b.1:=(h1.zero _ _).1 e0;simp [e] at *;omega
 refine ⟨fun a b=>?_,fun a b=>?_,fun a b d x y=>?_⟩
 ·unfold Wall.mJ;split
  ·rename_i h;exact ⟨fun e=>absurd e h,fun e=>by subst e;exact absurd ((h1.zero _ _).2 rfl) h⟩
  rename_i h;have e:a.1=b.1:=(h1.zero _ _).1 (by simpa using h);rw [h2.zero];exact ⟨fun e2=>Prod.ext e e2,fun e2=>by rw [e2]⟩
 ·rw [aI,I7,h1.vD,h2.vD];constructor
  ·rintro (h|⟨h,h'⟩)
   ·exact .inl h
   exact .inr ⟨h.symm,h'⟩
  rintro (h|⟨h,h'⟩)
  ·exact .inl h
  exact .inr ⟨h.symm,h'⟩
 rw [aI] at x y ⊢;rcases x with x|⟨ex,x⟩<;>rcases y with y|⟨ey,y⟩
 ·exact .inl (h1.tr _ _ _ x y)
 ·exact .inl (by rw [<- ey];exact x)
 ·exact .inl (by rw [ex];exact y)
 exact .inr ⟨ex.trans ey,h2.tr _ _ _ x y⟩
theorem kT.of {α β:Type} {c:β->β->Int} (h:kT c) (f:α->β) (hf:∀ a b,f a=f b->a=b):kT fun a b=>c (f a) (f b):=
 ⟨fun a b=>by rw [h.zero];exact ⟨hf a b,fun e=>by rw [e]⟩,fun a b=>h.vD _ _,fun a b d=>h.tr _ _ _⟩
def cL {α:Type} (c:α->α->Int):List α->List α->Int
 | [],[]=>0
 | [],_::_=>-1
 | _::_,[]=>1
 | a::s,b::t=>if c a b≠0 then c a b else cL c s t
theorem kT.cL {α:Type} {c:α->α->Int} (h:kT c):kT (Wall.cL c):=by
 have hz:∀ x y,Wall.cL c x y=0↔x=y:=by
  intro x;induction x with
  | nil=>intro y;cases y<;>simp [Wall.cL]
  | cons a s ih=>
    intro y;cases y with
    | nil=>simp [Wall.cL]
    | cons b t=>
      unfold Wall.cL;split
      ·rename_i hn;exact ⟨fun e=>absurd e hn,fun e=>by cases e;exact absurd ((h.zero _ _).2 rfl) hn⟩
      rename_i hn;have e:a=b:=(h.zero _ _).1 (by simpa using hn);rw [ih];simp [e]
 have hs:∀ x y,Wall.cL c x y<0↔0<Wall.cL c y x:=by
  intro x;induction x with
  | nil=>intro y;cases y<;>simp [Wall.cL]
  | cons a s ih=>
    intro y;cases y with
    | nil=>simp [Wall.cL]
    | cons b t=>
      unfold Wall.cL;have TW:c a b=0↔c b a=0:=by rw [h.zero,h.zero];exact ⟨Eq.symm,Eq.symm⟩
      by_cases hn:c a b=0
      ·rw [if_neg (by simpa using hn),if_neg (by simpa using TW.1 hn)];exact ih t
      rw [if_pos hn,if_pos (fun e=>hn (TW.2 e))];exact h.vD _ _
 refine ⟨hz,hs,?_⟩;intro x;induction x with
 | nil=>
   intro y z h1 h2;cases y with
   | nil=>simp [Wall.cL] at h1
   | cons b t=>cases z with
     | nil=>simp [Wall.cL] at h2
     | cons d u=>simp [Wall.cL]
 | cons a s ih=>
   intro y z h1 h2;cases y with
   | nil=>simp [Wall.cL] at h1
   | cons b t=>cases z with
     | nil=>simp [Wall.cL] at h2
     | cons d u=>
       unfold Wall.cL at h1 h2 ⊢;have SB:∀ x,¬ c x x<0:=fun x=>by have:=(h.zero x x).2 rfl;omega
       by_cases e1:c a b=0
       ·have I8:=(h.zero _ _).1 e1;subst I8;rw [if_neg (by simpa using e1)] at h1;by_cases e2:c a d=0
        ·rw [if_neg (by simpa using e2)] at h2 ⊢;exact ih t u h1 h2
        rw [if_pos e2] at h2 ⊢;exact h2
       rw [if_pos e1] at h1;by_cases e2:c b d=0
       ·have I9:=(h.zero _ _).1 e2;subst I9;rw [if_pos e1];exact h1
       rw [if_pos e2] at h2;have h3:=h.tr _ _ _ h1 h2;rw [if_pos (by omega)];exact h3
theorem zI:kT cB:=⟨fun _ _=>si,fun x y=>by unfold cB;split<;>(try split)<;>(try split)<;>omega,fun x y z=>by rw [xN,xN,xN];omega⟩
theorem zS:kT qi:=⟨fun _ _=>I6,fun x y=>by
  rw [Eo];unfold qi;by_cases h:y<x
  ·rw [if_pos h];exact ⟨fun h2=>absurd (List.lt_trans h h2) (List.lt_irrefl _),fun h2=>by omega⟩
  rw [if_neg h];by_cases e:y=x
  ·rw [if_pos e,e];exact ⟨fun h2=>absurd h2 (List.lt_irrefl _),fun h2=>by omega⟩
  rw [if_neg e];refine ⟨fun _=>by omega,fun _=>?_⟩;refine Classical.byContradiction fun hx=>?_;rw [List.not_lt] at h hx;exact e (List.le_antisymm hx h),
 fun x y z=>by rw [Eo,Eo,Eo];exact List.lt_trans⟩
theorem HL (x y:Int):ig [x,y]=if x≠0 then x else y:=by
 simp only [ig];split
 ·rfl
 split
 ·rfl
 omega
theorem zU:kT mb:=by
 have h:=(kT.mJ zI zS).of (fun u:ay=>(u.kind,u.text)) (fun a b h=>by cases a;cases b;simp_all);have he:mb=fun a b=>mJ cB qi (a.kind,a.text) (b.kind,b.text):=by funext a b;exact HL _ _
 rw [he];exact h
def HM:List AV->ay
 | [.int _ k,.str t]=>⟨k,t⟩
 | _=>⟨0,[]⟩
def vC (l:List ay):List ay:=px mb l
theorem J0:By Tryz.prog 219 220 2:=
 SL Tryz.u6 2 220 Tryz.isAgg128 Tryz.sizeOf128 (fun args w=>Fi ⟨Tryz.f220,_,rfl,rfl,rfl⟩)
def c219:az:=⟨[0,1,4],[],[],[],[],[]⟩
def c253:az:=⟨[0,1,2,3,4,10,11,12,13,14,15,16,17,18,19,20,25,32,39,56,75,80,97,125],[],[],[],[(17,[0,1,2,3,4,5,6,7,8,9,10,11,12,13,14,15,16],[])],[]⟩
def c135:az:=⟨[0,2],[],[],[],[],[]⟩
def c209:az:=⟨[0,2,4,8,14],[],[],[],[],[]⟩
def c275:az:=⟨[0,1,2,3,8,9,14,34],[],[],[],[(4,[0,1,2,3,4,5,6,7,8,9,10,11,12,13,14,15,16],[]),(6,[0,1,2,3,4,5,6,7,8,9,10,11,12,13,14,15,16,17],[])],[]⟩
theorem J1:ae Tryz.prog 209 [.int .u64 0] [] (.int .i64 0):=by
 refine aG (F:=Tryz.f209) c209 rfl rfl rfl mixed rfl fun X=>?_;(conv=>whnf);refine cF rfl ?_;(conv=>whnf);refine cF rfl ?_;(conv=>whnf);refine cF rfl ?_;(conv=>whnf);repeat ((first|(refine ⟨0,0,ah ⟨rfl,rfl⟩,?_⟩)|(refine ⟨ah ⟨by decide,by decide⟩,?_⟩));conv=>whnf)
 exact ⟨rfl,rfl⟩
theorem bitsLen:ae Tryz.prog 135 [.int .u64 0] [] (.int .i64 0):=by
 refine aG (F:=Tryz.f135) c135 rfl rfl rfl mixed rfl fun X=>?_;(conv=>whnf);refine cF rfl ?_;(conv=>whnf);repeat (refine ae.k0 (J1) ?_;conv=>whnf)
 exact ⟨rfl,rfl⟩
theorem J2 (c:FuncId):ae Tryz.prog 275 [.aT,.int .i64 0,.int .i64 0,.fn c []] [] (.aH []):=by
 refine aG (F:=Tryz.f275) c275 rfl rfl rfl mixed rfl fun X=>?_;(conv=>whnf);repeat (refine ⟨ah ⟨by omega,by omega⟩,?_⟩;conv=>whnf)
 refine bR rfl mixed [0,1,2,3,8] [] (fun m r h=>r=[(0,[],.aT),(1,[],.int .i64 0),(2,[],.int .i64 0),(3,[],.fn c []),(8,[],.int .i64 1)]/\h=[]/\m=0/\True) ?_ ?_
 ·(conv=>whnf);exact ⟨_,rfl,rfl,rfl,trivial⟩
 rintro m r h ⟨rfl,rfl,rfl,_⟩;(conv=>whnf);refine cF rfl ?_;(conv=>whnf);exact ⟨rfl,rfl⟩
theorem J3 (c:FuncId):ae Tryz.prog 253 [.aT,.int .i64 0,.int .i64 0,.int .i64 0,.fn c []] [] (.aH []):=by
 refine aG (F:=Tryz.f253) c253 rfl rfl rfl mixed rfl fun X=>?_;(conv=>whnf);skip;refine bR rfl mixed [0,1,2,3,4,10,11] [] (fun m r h=>r=[(0,[],.aT),(1,[],.int .i64 0),(2,[],.int .i64 0),(3,[],.int .i64 0),(4,[],.fn c []),(10,[],.bool true),(11,[],.bool true)]/\h=[]/\m=0/\True) ?_ ?_
 ·(conv=>whnf);exact ⟨_,rfl,rfl,rfl,trivial⟩
 rintro m r h ⟨rfl,rfl,rfl,_⟩;(conv=>whnf);repeat (refine ⟨ah ⟨by omega,by omega⟩,?_⟩;conv=>whnf)
 refine cT rfl ?_;(conv=>whnf);repeat (refine ae.k0 (J2 c) ?_;conv=>whnf)
 exact ⟨rfl,rfl⟩
theorem J4 (c:FuncId):ae Tryz.prog 219 [.gZ,.fn c []] [] (.aH []):=by
 refine ae.args (zn:=[.aT,.fn c []]) ?_ (.cons (by intro c u h;simpa [aa] using h) (.cons (ag.refl _) .nil));refine aG (F:=Tryz.f219) c219 rfl rfl rfl mixed rfl fun X=>?_;(conv=>whnf);repeat ((first|refine ae.k0 (bitsLen) ?_|refine ae.k0 (J3 c) ?_);conv=>whnf)
 exact ⟨rfl,rfl⟩
theorem J5 (b:Nat) (xs:List ay) (aJ:xs≠[]) (ka:xs.length<=4294967296) :
  aB Tryz.prog 219 [.aQ b 0 xs.length 2,.fn 220 []] [(b,.vec (xs.map aV).flatten)] (fun v h'=>v=.aH []/\h'=[(b,.vec ((vC xs).map aV).flatten)]):=
 I5 (by decide) ⟨Tryz.f219,_,rfl,rfl,rfl⟩ ⟨Tryz.f220,_,rfl,rfl,rfl⟩ J0 mb (dec:=HM) (fun a=>rfl) (fun a=>rfl) zU.c xs aJ ka (fun x _ y _=>TS x y) b
end Go.Abs.Wall
namespace Go.Abs.Wall
open Go Go.Abs Go.Proofs
structure zV where
 spell:Int
 Gw:Int
 dy:Int
 cls:Int
 nY:Int
structure aj where
 list:Lst
 lex:Lex
 ct:zV
 period:Int
def TX (c:zV):List AV:=[.int .i64 c.spell,.int .i64 c.Gw,.int .i64 c.dy,.int .i64 c.cls,.int .i64 c.nY]
def bu (H:aj):List AV:=qf H.list++(fq H.lex++(TX H.ct++[.int .i64 H.period]))
structure dU (H:aj):Prop where
 list:zO H.list
 lex:rT H.lex
def iV (c:zV):List Int:=[c.spell,c.Gw,c.dy,c.cls,c.nY]
def eo (H:aj):Int:=
 if lr H.list≠0 then lr H.list
 else if iz H.lex≠0 then iz H.lex
 else if (iV H.ct).all (bI · 0 1000)=false then 50
 else if bI H.period 1 H.list.iZ=false then 13
 else 0
def c69:az:=⟨[0,1,2,3,4,6,11,17,34,35,36,37,42,50],[],[],[],[],[]⟩
theorem GD (H:aj) (hh:dU H):ae Tryz.prog 69 [.agg (bu H)] [] (.int .i64 (eo H)):=by
 refine aG (F:=Tryz.f69) c69 rfl rfl rfl mixed rfl fun X=>?_;(conv=>whnf);repeat (refine ae.k0 (C5 H.list hh.list) ?_;conv=>whnf)
 refine ⟨fun hc=>?_,fun hc=>?_⟩<;>simp at hc
 ·(conv=>whnf);exact ⟨by rw [eo,if_pos hc],rfl⟩
 (conv=>whnf);repeat (refine ae.k0 (TM H.lex hh.lex) ?_;conv=>whnf)
 refine ⟨fun hd=>?_,fun hd=>?_⟩<;>simp at hd
 ·(conv=>whnf);exact ⟨by rw [eo,if_neg (by omega),if_pos hd],rfl⟩
 have h0:eo H=if (iV H.ct).all (bI · 0 1000)=false then 50 else if bI H.period 1 H.list.iZ=false then 13 else 0:=(by rw [eo,if_neg (by omega),if_neg (by omega)]);(conv=>whnf);skip;refine bR rfl mixed [1,34,35,36] [] (fun m r h=>∃ (i:Nat),r=[(1,[],.au (bu H)),(34,[],.sl 1 none (ints (iV H.ct))),(35,[],.int .i64 5),(36,[],.int .i64 i)]/\h=[]/\m=5 - i/\i<=5/\(iV H.ct).all (bI · 0 1000)=((iV H.ct).drop i).all (bI · 0 1000)) ?_ ?_
 ·(conv=>whnf);exact ⟨_,0,rfl,rfl,rfl,by omega,rfl⟩
 rintro m r h' ⟨i,rfl,rfl,rfl,hi,hb⟩;(conv=>whnf);refine ⟨fun aD=>?_,fun aD=>?_⟩<;>simp at aD
 ·obtain ⟨c,hc⟩:=aL (l:=iV H.ct) (i:=i) (by show i<5;omega);rw [drop_cons hc,List.all_cons] at hb;(conv=>whnf);repeat ((first|refine ix (by assumption) ?_|refine ae.k0 (within _ _ _) ?_);conv=>whnf)
  refine ⟨fun hq=>?_,fun hq=>?_⟩
  ·have hq:(!bI c 0 1000)=true:=hq;rw [Bool.not_eq_true'] at hq;rw [hq,Bool.false_and] at hb;(conv=>whnf);exact ⟨by rw [h0,if_pos hb],rfl⟩
  have hq:(!bI c 0 1000)=false:=hq;rw [Bool.not_eq_false'] at hq;rw [hq,Bool.true_and] at hb;(conv=>whnf);repeat (refine ⟨ah ⟨by omega,by omega⟩,?_⟩;conv=>whnf)
  exact ⟨_,by omega,i+1,rfl,rfl,rfl,by omega,hb⟩
 rw [drop_nil (by show 5<=i;omega),List.all_nil] at hb;(conv=>whnf);repeat (refine ae.k0 (within _ _ _) ?_;conv=>whnf)
 refine ⟨fun hq=>?_,fun hq=>?_⟩
 ·have hq:(!bI H.period 1 H.list.iZ)=true:=hq;rw [Bool.not_eq_true'] at hq;(conv=>whnf);exact ⟨by rw [h0,if_neg (by rw [hb];decide),if_pos hq],rfl⟩
 have hq:(!bI H.period 1 H.list.iZ)=false:=hq;rw [Bool.not_eq_false'] at hq;(conv=>whnf);exact ⟨by rw [h0,if_neg (by rw [hb];decide),if_neg (by rw [hq];decide)],rfl⟩
def dX (H:aj) (line:List Int):Int:=
 if eo H≠0 then eo H
 else if 60<line.length then 2
 else if line.any (fun s=>!bI s 0 ((H.list.aA.length:Int) - 1))=true then 23
 else 0
def c92:az:=⟨[0,1,2,4,5,9,13,16],[],[],[],[],[]⟩
def c149:az:=⟨[0,1,3],[],[],[],[],[]⟩
theorem J6 (H:aj) (hh:dU H) (s:Int):ae Tryz.prog 149 [.int .i64 s,.au (bu H)] [] (.bool (!bI s 0 ((H.list.aA.length:Int) - 1))):=by
 have h1:=hh.list.aA;unfold aw at h1;refine aG (F:=Tryz.f149) c149 rfl rfl rfl mixed rfl fun X=>?_;(conv=>whnf);repeat ((first|refine ae.k0 (within _ _ _) ?_|(refine ⟨ah ⟨by rw [List.length_map];omega,by rw [List.length_map];omega⟩,?_⟩));conv=>whnf)
 refine ⟨?_,rfl⟩;rw [List.length_map];rfl
theorem Fy (H:aj) (line:List Int) (hh:dU H) (hl:line.length<=aw):ae Tryz.prog 92 [.agg (bu H),.sl 1 none (ints line)] [] (.int .i64 (dX H line)):=by
 refine aG (F:=Tryz.f92) c92 rfl rfl rfl mixed rfl fun X=>?_;(conv=>whnf);repeat (refine ae.k0 (GD H hh) ?_;conv=>whnf)
 refine ⟨fun hc=>?_,fun hc=>?_⟩<;>simp at hc
 ·(conv=>whnf);exact ⟨by rw [dX,if_pos hc],rfl⟩
 (conv=>whnf);refine ⟨fun hd=>?_,fun hd=>?_⟩<;>simp at hd
 ·(conv=>whnf);exact ⟨by rw [dX,if_neg (by omega),if_pos (by omega)],rfl⟩
 (conv=>whnf);repeat (refine ae.k0 (C1 line hl 149 [.au (bu H)] (fun s=>!bI s 0 ((H.list.aA.length:Int) - 1)) (fun s _=>J6 H hh s)) ?_;conv=>whnf)
 refine ⟨fun he=>?_,fun he=>?_⟩
 ·(conv=>whnf);exact ⟨by rw [dX,if_neg (by omega),if_neg (by omega),if_pos he],rfl⟩
 (conv=>whnf);exact ⟨by rw [dX,if_neg (by omega),if_neg (by omega),if_neg (by rw [he];decide)],rfl⟩
def ku (v:db):List ay:=
 if v.kind=1 then [⟨1,v.text⟩,⟨3,v.text⟩]
 else if v.kind=2 then [⟨2,v.text⟩]
 else if v.kind=3 then [⟨4,v.text⟩]
 else []
def ke (p:Int):List db->List ay
 | []=>[]
 | v::t=>(if bI p v.fr v.to then ku v else [])++ke p t
def oR (p:Int) (s:eL):List ay:=vC (ke p s.values)
theorem TY (v:db):(ku v).length<=2:=by unfold ku;split<;>(try split)<;>(try split)<;>simp
theorem HO (p:Int):∀ l:List db,(ke p l).length<=2*l.length
 | []=>by simp [ke]
 | v::t=>by
   have h1:=HO p t;have h2:=TY v;unfold ke;rw [List.length_append,List.length_cons];split
   ·omega
   simp;omega
theorem TZ (p:Int) (v:db):∀ l:List db,ke p (l++[v])=ke p l++(if bI p v.fr v.to then ku v else [])
 | []=>by simp [ke]
 | a::t=>by have:=TZ p v t;simp only [List.cons_append,ke,this,List.append_assoc]
def Row {α:Type} (k:Nat) (enc:α->List AV) (L:List α) (v:AV) (hp:af):Prop:=(L=[]/\v=.gZ/\hp=[])\/(L≠[]/\∃ b,v=.aQ b 0 L.length k/\hp=[(b,.vec (L.map enc).flatten)])
theorem Ar:ag .aT .gZ:=by intro c u h;simpa [aa] using h
theorem J7 {k:Nat} (hk:0<k):ag .gZ (.sl k none []):=by intro c u h;simp only [aa] at h;exact ag.nil hk c u (by simpa [aa] using h)
theorem ub {α:Type} {k:Nat} {enc:α->List AV} {L:List α} (hk:∀ a,(enc a).length=k):((L.map enc).flatten).length=L.length*k:=by rw [lB (k:=k) (by intro x hx;obtain ⟨a,_,rfl⟩:=List.mem_map.1 hx;exact hk a),List.length_map]
theorem J8 {α:Type} {b k n:Nat} {enc:α->List AV} {L:List α} (hk:∀ a,(enc a).length=k) (hn:L.length=n):jI b (L.map enc).flatten (.aQ b 0 n k) (.sl k none (L.map enc)):=
 jI.row (pre:=[]) (post:=[]) (zl:=[]) (by simp) rfl (by simpa using hn) (by intro x hx;obtain ⟨a,_,rfl⟩:=List.mem_map.1 hx;exact hk a)
theorem Row.ok {α:Type} {f:FuncId} {vs:List AV} {k:Nat} {enc:α->List AV} {L:List α} (iO:0<k) (hk:∀ a,(enc a).length=k)
  (h:aB Tryz.prog f vs [] (fun v h'=>∃ hp Z,Row k enc L v hp/\h'=hp++Z)):ae Tryz.prog f vs [] (.sl k none (L.map enc)):=by
 refine ae.of (aB.GM h ?_);rintro v h1 ⟨hp,Z,⟨rfl,rfl,rfl⟩|⟨_,b,rfl,rfl⟩,rfl⟩
 ·exact .inl (J7 iO)
 exact .inr ⟨b,_,Z,Z,_,.here _,lp.refl _,J8 hk rfl,ag.refl _⟩
def c153:az:=⟨[0,1,2,4,6,13,14,15,16,26,28,29,40,48],[],[6],[],[],[]⟩
def c104:az:=⟨[0,1,2,4,5,6,10,19],[],[],[],[],[]⟩
theorem J9 (H:aj) (n:Int) (s:eL) (h0:0<=n) (hs:H.list.aA[n.toNat]?=some s) (hv:s.values.length<=1048576) :
  aB Tryz.prog 153 [.agg (bu H),.int .i64 n] [] (fun v h'=>∃ hp Z,Row 2 aV (oR H.period s) v hp/\h'=hp++Z):=by
 refine aG (F:=Tryz.f153) c153 rfl rfl rfl mixed rfl fun X=>?_;(conv=>whnf);repeat ((refine dg n.toNat (by omega) hs ?_);conv=>whnf)
 refine bW rfl mixed [2,4,13,14,15] [] (fun m r h=>∃ (i:Nat) (v:AV) (hp:af),r=[(2,[],.au (bu H)),(4,[],v),(13,[],.sl 4 none (s.values.map gh)),(14,[],.int .i64 (s.values.map gh).length),(15,[],.int .i64 i)]/\h=hp/\m=s.values.length - i/\i<=s.values.length/\Row 2 aV (ke H.period (s.values.take i)) v hp) ?_ ?_
 ·(conv=>whnf);exact ⟨_,_,ao.sF (.cons (ag.refl _) (.cons Ar (jQ.refl _))),_,0,_,_,rfl,rfl,rfl,by omega,.inl ⟨rfl,rfl,rfl⟩⟩
 rintro m r h' ⟨i,v,hp,rfl,rfl,rfl,hi,hr⟩;(conv=>whnf);refine ⟨fun aD=>?_,fun aD=>?_⟩<;>simp at aD
 ·obtain ⟨x,hx⟩:=aL aD;have dG:=TZ H.period x (s.values.take i);rw [<- dj hx] at dG;have Ep:(ke H.period (s.values.take i)).length+2<=aU:=by have:=HO H.period (s.values.take i);rw [List.length_take] at this;unfold aU;omega
  (conv=>whnf);repeat ((first|refine ix (by assumption) ?_|refine ae.k0 (within _ _ _) ?_|refine ⟨_,_,bo.here _,⟨Nat.le_of_ble_eq_true rfl,rfl⟩,?_⟩|intro (nb:Nat));conv=>whnf)
  refine ⟨fun hq=>?_,fun hq=>?_⟩
  ·have hq:(!bI H.period x.fr x.to)=true:=hq;rw [Bool.not_eq_true'] at hq;rw [hq] at dG;simp only [Bool.false_eq_true,if_false,List.append_nil] at dG;(conv=>whnf);repeat (refine ⟨ah ⟨by omega,by omega⟩,?_⟩;conv=>whnf)
   exact ⟨_,_,ao.refl _ _,_,by omega,i+1,_,_,rfl,rfl,rfl,by omega,by rw [dG];exact hr⟩
  have hq:(!bI H.period x.fr x.to)=false:=hq;rw [Bool.not_eq_false'] at hq;rw [hq,if_pos rfl,ku] at dG;(conv=>whnf);refine ⟨fun hk=>?_,fun hk=>?_⟩<;>simp only [decide_eq_true_eq,decide_eq_false_iff_not] at hk
  ·rw [if_pos hk] at dG;rcases hr with ⟨he,rfl,rfl⟩|⟨aJ,b,rfl,rfl⟩
   ·(conv=>whnf);repeat ((first|refine ⟨ah ⟨by omega,by omega⟩,?_⟩|(refine ⟨⟨Nat.le_of_ble_eq_true rfl,Nat.le_of_ble_eq_true rfl⟩,fun b'=>?_⟩));conv=>whnf)
    refine ⟨_,_,ao.refl _ _,_,by omega,i+1,_,_,rfl,rfl,rfl,by omega,?_⟩;rw [dG,he];exact .inr ⟨by simp,b',rfl,rfl⟩
   (conv=>whnf);repeat ((first|refine ⟨ah ⟨by omega,by omega⟩,?_⟩|(refine ⟨_,.head _,⟨ub (fun _=>rfl),Nat.le_trans (Nat.add_le_add_left (Nat.le_of_ble_eq_true rfl) _) Ep⟩,fun b'=>⟨_,.here _,?_⟩⟩));conv=>whnf)
   refine ⟨_,_,ao.refl _ _,_,by omega,i+1,_,_,rfl,rfl,rfl,by omega,?_⟩;rw [dG];refine .inr ⟨by simp,b',?_,?_⟩
   ·rw [List.length_append];rfl
   rw [List.map_append,List.flatten_append];rfl
  rw [if_neg hk] at dG;(conv=>whnf);refine ⟨fun bw=>?_,fun bw=>?_⟩<;>simp only [decide_eq_true_eq,decide_eq_false_iff_not] at bw
  ·rw [if_pos bw] at dG;rcases hr with ⟨he,rfl,rfl⟩|⟨aJ,b,rfl,rfl⟩
   ·(conv=>whnf);repeat ((first|refine ⟨ah ⟨by omega,by omega⟩,?_⟩|(refine ⟨⟨Nat.le_of_ble_eq_true rfl,Nat.le_of_ble_eq_true rfl⟩,fun b'=>?_⟩));conv=>whnf)
    refine ⟨_,_,ao.refl _ _,_,by omega,i+1,_,_,rfl,rfl,rfl,by omega,?_⟩;rw [dG,he];exact .inr ⟨by simp,b',rfl,rfl⟩
   (conv=>whnf);repeat ((first|refine ⟨ah ⟨by omega,by omega⟩,?_⟩|(refine ⟨_,.head _,⟨ub (fun _=>rfl),Nat.le_trans (Nat.add_le_add_left (Nat.le_of_ble_eq_true rfl) _) Ep⟩,fun b'=>⟨_,.here _,?_⟩⟩));conv=>whnf)
   refine ⟨_,_,ao.refl _ _,_,by omega,i+1,_,_,rfl,rfl,rfl,by omega,?_⟩;rw [dG];refine .inr ⟨by simp,b',?_,?_⟩
   ·rw [List.length_append];rfl
   rw [List.map_append,List.flatten_append];rfl
  rw [if_neg bw] at dG;(conv=>whnf);refine ⟨fun ot=>?_,fun ot=>?_⟩<;>simp only [decide_eq_true_eq,decide_eq_false_iff_not] at ot
  ·rw [if_pos ot] at dG;rcases hr with ⟨he,rfl,rfl⟩|⟨aJ,b,rfl,rfl⟩
   ·(conv=>whnf);repeat ((first|refine ⟨ah ⟨by omega,by omega⟩,?_⟩|(refine ⟨⟨Nat.le_of_ble_eq_true rfl,Nat.le_of_ble_eq_true rfl⟩,fun b'=>?_⟩));conv=>whnf)
    refine ⟨_,_,ao.refl _ _,_,by omega,i+1,_,_,rfl,rfl,rfl,by omega,?_⟩;rw [dG,he];exact .inr ⟨by simp,b',rfl,rfl⟩
   (conv=>whnf);repeat ((first|refine ⟨ah ⟨by omega,by omega⟩,?_⟩|(refine ⟨_,.head _,⟨ub (fun _=>rfl),Nat.le_trans (Nat.add_le_add_left (Nat.le_of_ble_eq_true rfl) _) Ep⟩,fun b'=>⟨_,.here _,?_⟩⟩));conv=>whnf)
   refine ⟨_,_,ao.refl _ _,_,by omega,i+1,_,_,rfl,rfl,rfl,by omega,?_⟩;rw [dG];refine .inr ⟨by simp,b',?_,?_⟩
   ·rw [List.length_append];rfl
   rw [List.map_append,List.flatten_append];rfl
  rw [if_neg ot,List.append_nil] at dG;(conv=>whnf);repeat (refine ⟨ah ⟨by omega,by omega⟩,?_⟩;conv=>whnf)
  exact ⟨_,_,ao.refl _ _,_,by omega,i+1,_,_,rfl,rfl,rfl,by omega,by rw [dG];exact hr⟩
 rw [List.take_of_length_le aD] at hr;have Ep:(ke H.period s.values).length<=4294967296:=by have:=HO H.period s.values;omega
 rcases hr with ⟨he,rfl,rfl⟩|⟨aJ,b,rfl,rfl⟩
 ·(conv=>whnf);repeat (refine ae.k0 (J4 _) ?_;conv=>whnf)
  exact ⟨[],[],.inl ⟨by unfold oR;rw [he];simp [vC,px],rfl,rfl⟩,rfl⟩
 (conv=>whnf);skip;refine aB.mono ?_ (J5 b _ aJ Ep);rintro v h1 ⟨rfl,rfl⟩;(conv=>whnf);skip;exact ⟨_,[],.inr ⟨by intro h;have:=congrArg List.length h;rw [oR,vC,sG] at this;exact aJ (List.eq_nil_of_length_eq_zero this),b,by rw [oR,vC,sG],rfl⟩,by rw [List.append_nil];rfl⟩
theorem Mz (H:aj) (n:Int) (s:eL) (h0:0<=n) (hs:H.list.aA[n.toNat]?=some s) (hv:s.values.length<=1048576) :
  ae Tryz.prog 153 [.agg (bu H),.int .i64 n] [] (.sl 2 none ((oR H.period s).map aV)):=Row.ok (by decide) (fun _=>rfl) (J9 H n s h0 hs hv)
end Go.Abs.Wall
namespace Go.Abs.Wall
open Go Go.Abs Go.Proofs
structure Sp where
 H:aj
 e:kW
 body:List UInt8
structure bn where
 bL:List UInt8
 closed:Bool
 cl:List Int
 last:ay
deriving DecidableEq
def ou (s:Sp):List AV:=bu s.H++(fJ s.e++[.str s.body])
def fE (p:bn):List AV:=[.str p.bL,.int .i64 0,.bool p.closed,.sl 1 none (ints p.cl),.int .i64 p.last.kind,.str p.last.text]
def da (s:Sp) (cl:List Int):List UInt8:=s.body++kd s.H.lex cl
structure jN (s:Sp):Prop where
 lex:qh s.H.lex
 body:1<=s.body.length/\s.body.length<=12
 root:s.e.root.length<=s.body.length
structure jP (s:Sp) (p:bn):Prop where
 bB:p.cl.length<=3
 ed:∀ c∈p.cl,0<=c/\c<s.H.lex.ar.length
 bL:p.bL.length<=(da s p.cl).length
 new:p.last.kind=0->p.cl=[]/\p.bL=[]
theorem jN.da {s:Sp} (h:jN s) {cl:List Int} (hc:∀ c∈cl,0<=c/\c<s.H.lex.ar.length):(Wall.da s cl).length<=12+4*cl.length:=by have h1:=h.body;have h2:=GK h.lex hc;unfold Wall.da;rw [List.length_append];omega
theorem BI (s:Sp) (cl:List Int) (c:Int):da s (cl++[c])=da s cl++(cQ s.H.lex c).text:=by unfold da;rw [QE,List.append_assoc]
def c157:az:=⟨[0,1,3,4,5,7,14,15,16,17],[],[],[],[],[]⟩
def c255:az:=⟨[0,1,3,4,5,7,11,25,26,27,28],[],[],[],[(2,[0,1,2,3,4,5,6,7,8],[])],[]⟩
theorem MA (s:Sp) (p:bn) (hs:jN s) (hp:jP s p):ae Tryz.prog 157 [.au (ou s),.agg (fE p)] [] (.bool (decide (p.bL.length=(da s p.cl).length))):=by
 have hb:=hs.body;have dw:=hp.bB;refine aG (F:=Tryz.f157) c157 rfl rfl rfl mixed rfl fun X=>?_;(conv=>whnf);refine bR rfl mixed [0,3,5,14,15,16] [] (fun m r h=>∃ (i:Nat) (n:Int),r=[(0,[],.au (ou s)),(3,[],.au (fE p)),(5,[],.int .i64 n),(14,[],.sl 1 none (ints p.cl)),(15,[],.int .i64 (ints p.cl).length),(16,[],.int .i64 i)]/\h=[]/\m=p.cl.length - i/\i<=p.cl.length/\n=(da s (p.cl.take i)).length) ?_ ?_
 ·(conv=>whnf);exact ⟨_,0,_,rfl,rfl,rfl,by omega,by simp [da,kd]⟩
 rintro m r h' ⟨i,n,rfl,rfl,rfl,hi,hn⟩;(conv=>whnf);refine ⟨fun aD=>?_,fun aD=>?_⟩<;>simp at aD
 ·obtain ⟨c,hc⟩:=aL aD;have bG:=hp.ed c (List.mem_of_getElem? hc);have cV:=np (hs.lex.cQ bG.1 bG.2).text;have hb:=hs.da (cl:=p.cl.take i) fun d hd=>hp.ed d (List.mem_of_mem_take hd);rw [List.length_take] at hb;have lC:=dj hc;(conv=>whnf);repeat ((first|refine ⟨ah ⟨by omega,by omega⟩,?_⟩|refine ix (by assumption) ?_|(refine dg c.toNat (by omega) (ll bG.1 bG.2) ?_));conv=>whnf)
  exact ⟨_,by omega,i+1,_,rfl,rfl,rfl,by omega,by rw [lC,BI,List.length_append,hn];omega⟩
 rw [List.take_of_length_le aD] at hn;(conv=>whnf);refine ⟨congrArg AV.bool ?_,rfl⟩;rw [hn,decide_eq_decide];omega
theorem K0 (s:Sp) (p:bn) (hs:jN s) (hp:jP s p):ae Tryz.prog 255 [.au (ou s),.agg (fE p)] [] (.str ((da s p.cl).drop p.bL.length)):=by
 have hb:=hs.body;have dw:=hp.bB;have dG:=hp.bL;refine aG (F:=Tryz.f255) c255 rfl rfl rfl mixed rfl fun X=>?_;(conv=>whnf);refine ⟨fun hc=>?_,fun hc=>?_⟩<;>simp at hc
 ·have ht:da s p.cl=s.body:=by rw [hc];simp [da,kd]
  rw [ht] at dG ⊢;(conv=>whnf);repeat ((first|refine ⟨ah ⟨by omega,by omega⟩,?_⟩|refine And.intro (by show aP (aN Tryz.f255 _) _=true;decide +kernel) ?_);conv=>whnf)
  refine ⟨congrArg AV.str ?_,rfl⟩;rw [List.take_of_length_le (by omega)];rfl
 (conv=>whnf);skip;refine bR rfl mixed [0,3,5,25,26,27] [] (fun m r h=>∃ (i:Nat) (t:List UInt8),r=[(0,[],.au (ou s)),(3,[],.au (fE p)),(5,[],.str t),(25,[],.sl 1 none (ints p.cl)),(26,[],.int .i64 (ints p.cl).length),(27,[],.int .i64 i)]/\h=[]/\m=p.cl.length - i/\i<=p.cl.length/\t=da s (p.cl.take i)) ?_ ?_
 ·(conv=>whnf);exact ⟨_,0,_,rfl,rfl,rfl,by omega,by simp [da,kd]⟩
 rintro m r h' ⟨i,t,rfl,rfl,rfl,hi,hn⟩;(conv=>whnf);refine ⟨fun aD=>?_,fun aD=>?_⟩<;>simp at aD
 ·obtain ⟨c,hc⟩:=aL aD;have bG:=hp.ed c (List.mem_of_getElem? hc);have cV:=np (hs.lex.cQ bG.1 bG.2).text;have hb:=hs.da (cl:=p.cl.take i) fun d hd=>hp.ed d (List.mem_of_mem_take hd);rw [List.length_take] at hb;have lC:=dj hc;have hl:(t++(cQ s.H.lex c).text).length<=aw:=by rw [hn];simp [aw];omega
  (conv=>whnf);repeat ((first|refine ⟨ah ⟨by omega,by omega⟩,?_⟩|refine ix (by assumption) ?_|(refine dg c.toNat (by omega) (ll bG.1 bG.2) ?_)|(refine ⟨ah hl,?_⟩));conv=>whnf)
  exact ⟨_,by omega,i+1,_,rfl,rfl,rfl,by omega,by rw [lC,BI,hn]⟩
 rw [List.take_of_length_le aD] at hn;subst hn;(conv=>whnf);repeat (refine ⟨ah ⟨by omega,by omega⟩,?_⟩;conv=>whnf)
 refine ⟨congrArg AV.str ?_,rfl⟩;rw [List.take_of_length_le (by omega)];rfl
end Go.Abs.Wall
