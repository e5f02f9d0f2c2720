/- Small laws for the walks and contracts of functions; each theorem names its conditions. -/
import Derived.Test.YthmcbjcgdfmmaaaGreatN4
import Derived.Laws.RangeAny
import Derived.Sort.Walk0
set_option maxRecDepth 100000
set_option maxHeartbeats 2000000
namespace Go.Abs.Wall
open Go Go.Abs Go.Proofs
def tH (y:UInt8):Bool:=small y||lR y
def Ek (c:Int):Bool:=(decide (97<=c)&&decide (c<=122))||(decide (65<=c)&&decide (c<=90))
def El (c:Int):Bool:=decide (c<97)||decide (122<c)
theorem St {s:List UInt8} {pos:Nat} {y:UInt8} (h:s[pos]?=some y):(y.toNat<128/\kI s pos=(y.toNat,1))\/(128<=y.toNat/\128<=(kI s pos).1/\1<=(kI s pos).2):=by
 obtain ⟨h1,h2⟩:=List.getElem?_eq_some_iff.1 h;have hs:pos<(⟨s.toArray⟩:ByteArray).size:=h1;have hg:(⟨s.toArray⟩:ByteArray)[pos]'hs=y:=h2;by_cases hy:y.toNat<128
 ·refine .inl ⟨hy,?_⟩;unfold kI;rw [decode_ascii _ pos hs (by rw [hg];exact hy),hg]
 refine .inr ⟨by omega,?_⟩;have:=decode_high (⟨s.toArray⟩:ByteArray) pos hs (by rw [hg];omega);exact this
theorem y9 {s:List UInt8} {pos:Nat} {y:UInt8} (h:s[pos]?=some y):Ek ((kI s pos).1:Int)=tH y/\(tH y=true->(kI s pos).2=1):=by
 rcases St h with ⟨h1,h2⟩|⟨h1,h2,h3⟩
 ·rw [h2];refine ⟨?_,fun _=>rfl⟩;unfold Ek tH small lR;rw [<- xO,<- xO,<- xP,<- xP];rfl
 have e1:tH y=false:=by unfold tH small lR;simp only [Bool.or_eq_false_iff,Bool.and_eq_false_iff,decide_eq_false_iff_not];omega
 rw [e1];refine ⟨?_,fun h=>by cases h⟩;unfold Ek;simp only [Bool.or_eq_false_iff,Bool.and_eq_false_iff,decide_eq_false_iff_not];omega
theorem z6 {s:List UInt8} {pos:Nat} {y:UInt8} (h:s[pos]?=some y):El ((kI s pos).1:Int)=!small y/\(small y=true->(kI s pos).2=1):=by
 rcases St h with ⟨h1,h2⟩|⟨h1,h2,h3⟩
 ·rw [h2];refine ⟨?_,fun _=>rfl⟩;unfold El small;rw [Bool.eq_iff_iff];simp;omega
 have e1:small y=false:=by unfold small;simp only [Bool.and_eq_false_iff,decide_eq_false_iff_not];omega
 rw [e1];refine ⟨?_,fun h=>by cases h⟩;unfold El;simp;omega
def ot (s:List UInt8) (most:Int):Bool:=s.all tH&&(decide (1<=(s.length:Int))&&decide ((s.length:Int)<=most))
def sj (s:List UInt8):Bool:=s.all small&&(decide (1<=(s.length:Int))&&decide ((s.length:Int)<=8))
def c105:av:=⟨[0,1,4,6,8,9,10,26],[],[],[],[],[]⟩
def c106:av:=⟨[0,2,4,6,7,8,15],[],[],[],[],[]⟩
theorem LV (s:List UInt8) (most:Int) (hs:s.length<=aq):ab Tryz.prog 105 [.str s,.int .i64 most] [] (.bool (ot s most)):=by
 unfold aq at hs;refine ab.AL ?_;refine aA (F:=Tryz.f105) c105 rfl rfl rfl mixed rfl fun X=>?_;(conv=>whnf);intro it;(conv=>whnf);refine bS rfl mixed [0,1,8] [] (fun m r h=>∃ (pos:Nat),r=[(0,[],.str s),(1,[],.int .i64 most),(8,[],.tN it)]/\h=[(it,.oB s pos)]/\m=s.length - pos/\pos<=s.length/\s.all tH=(s.drop pos).all tH) ?_ ?_
 ·(conv=>whnf);exact ⟨_,0,rfl,rfl,rfl,by omega,rfl⟩
 rintro m r h ⟨pos,rfl,rfl,rfl,hp,ha⟩;(conv=>whnf);refine ⟨s,pos,.head _,fun hf=>?_,fun hf=>⟨_,.here _,?_⟩⟩
 ·rw [List.drop_eq_nil_of_le hf,List.all_nil] at ha;(conv=>whnf);refine cF rfl ?_;(conv=>whnf);skip;unfold ot;rw [ha];rfl
 obtain ⟨y,hy⟩:=aF hf;obtain ⟨h1,h2⟩:=y9 hy;rw [List.drop_eq_getElem_cons hf,List.all_cons,(List.getElem?_eq_some_iff.1 hy).2] at ha;(conv=>whnf);refine cT rfl ?_;(conv=>whnf);skip;refine ⟨fun hq=>?_,fun hq=>?_⟩
 ·have hq:(!Ek ((kI s pos).1:Int))=true:=hq;have hl:tH y=false:=by rw [<- h1];simpa using hq
  (conv=>whnf);skip;unfold ot;rw [ha,hl];rfl
 have hq:(!Ek ((kI s pos).1:Int))=false:=hq;have hl:tH y=true:=by rw [<- h1];simpa using hq
 rw [hl,Bool.true_and] at ha;(conv=>whnf);skip;rw [h2 hl];exact ⟨_,by omega,pos+1,rfl,rfl,rfl,by omega,ha⟩
theorem LW (s:List UInt8) (hs:s.length<=aq):ab Tryz.prog 106 [.str s] [] (.bool (sj s)):=by
 unfold aq at hs;refine ab.AL ?_;refine aA (F:=Tryz.f106) c106 rfl rfl rfl mixed rfl fun X=>?_;(conv=>whnf);intro it;(conv=>whnf);refine bS rfl mixed [0,6] [] (fun m r h=>∃ (pos:Nat),r=[(0,[],.str s),(6,[],.tN it)]/\h=[(it,.oB s pos)]/\m=s.length - pos/\pos<=s.length/\s.all small=(s.drop pos).all small) ?_ ?_
 ·(conv=>whnf);exact ⟨_,0,rfl,rfl,rfl,by omega,rfl⟩
 rintro m r h ⟨pos,rfl,rfl,rfl,hp,ha⟩;(conv=>whnf);refine ⟨s,pos,.head _,fun hf=>?_,fun hf=>⟨_,.here _,?_⟩⟩
 ·rw [List.drop_eq_nil_of_le hf,List.all_nil] at ha;(conv=>whnf);refine cF rfl ?_;(conv=>whnf);skip;unfold sj;rw [ha];rfl
 obtain ⟨y,hy⟩:=aF hf;obtain ⟨h1,h2⟩:=z6 hy;rw [List.drop_eq_getElem_cons hf,List.all_cons,(List.getElem?_eq_some_iff.1 hy).2] at ha;(conv=>whnf);refine cT rfl ?_;(conv=>whnf);skip;refine ⟨fun hq=>?_,fun hq=>?_⟩
 ·have hq:El ((kI s pos).1:Int)=true:=hq;have hl:small y=false:=by rw [h1] at hq;simpa using hq
  (conv=>whnf);skip;unfold sj;rw [ha,hl];rfl
 have hq:El ((kI s pos).1:Int)=false:=hq;have hl:small y=true:=by rw [h1] at hq;simpa using hq
 rw [hl,Bool.true_and] at ha;(conv=>whnf);skip;rw [h2 hl];exact ⟨_,by omega,pos+1,rfl,rfl,rfl,by omega,ha⟩
end Go.Abs.Wall
namespace Go.Abs.Wall
open Go Go.Abs Go.Proofs
structure kM where
 root:List UInt8
 kind:Int
 cls:List UInt8
 weight:Int
deriving DecidableEq
structure lC where
 kind:Int
 text:List UInt8
 name:List UInt8
 weight:Int
deriving DecidableEq
structure kU where
 text:List UInt8
 name:List UInt8
 weight:Int
deriving DecidableEq
structure Lex where
 entries:List kM
 bM:List lC
 ao:List kU
def fi (e:kM):List AV:=[.str e.root,.int .i64 e.kind,.str e.cls,.int .i64 e.weight]
def iV (e:lC):List AV:=[.int .i64 e.kind,.str e.text,.str e.name,.int .i64 e.weight]
def gU (e:kU):List AV:=[.str e.text,.str e.name,.int .i64 e.weight]
def fo (x:Lex):List AV:=[.sl 4 none (x.entries.map fi),.sl 4 none (x.bM.map iV),.sl 3 none (x.ao.map gU)]
structure Su (e:kM):Prop where
 root:e.root.length<=aq
 cls:e.cls.length<=aq
structure Sv (e:lC):Prop where
 text:e.text.length<=aq
 name:e.name.length<=aq
structure Sw (e:kU):Prop where
 text:e.text.length<=aq
 name:e.name.length<=aq
structure rT (x:Lex):Prop where
 entries:x.entries.length<=aq
 bM:x.bM.length<=aq
 ao:x.ao.length<=aq
 dY:∀ e∈x.entries,Su e
 Bx:∀ e∈x.bM,Sv e
 eh:∀ e∈x.ao,Sw e
def bL (n lo hi:Int):Bool:=decide (lo<=n)&&decide (n<=hi)
def we (w v:kM):Bool:=decide (v.root=w.root)&&decide (v.kind=w.kind)&&decide (v.cls=w.cls)
def wi (w v:lC):Bool:=decide (v.kind=w.kind)&&decide (v.name=w.name)
def wj (w v:kU):Bool:=decide (v.name=w.name)
def sm (before:List kM) (w:kM):Bool:=!ot w.root 8||!bL w.kind 1 9||(!decide (w.cls=[])&&!sj w.cls)||!bL w.weight 0 1000||before.any (we w)
def pV (before:List lC) (w:lC):Bool:=!bL w.kind 1 9||!ot w.text 4||!sj w.name||!bL w.weight 0 1000||before.any (wi w)
def ou (before:List kU) (w:kU):Bool:=!ot w.text 4||!sj w.name||!bL w.weight 0 1000||before.any (wj w)
def jW {α:Type} (bad:List α->α->Bool) (l:List α):List α->Nat->Bool
 | [],_=>false
 | w::t,i=>bad (l.take i) w||jW bad l t (i+1)
def jX {α:Type} (bad:List α->α->Bool) (l:List α):Bool:=jW bad l l 0
def js (x:Lex):Int:=
 if 200<x.entries.length\/40<x.bM.length\/10<x.ao.length then 2
 else if jX sm x.entries=true then 45
 else if jX pV x.bM=true then 46
 else if jX ou x.ao=true then 47
 else 0
def c152:av:=⟨[0,1,4,5,7,8,9,16],[],[],[],[],[]⟩
def c107:av:=⟨[0,1,4],[],[],[],[],[]⟩
theorem A0 (l:List kM) (hl:l.length<=aq) (f:FuncId) (bP:List AV) (p:kM->Bool) (hp:∀ w∈l,ab Tryz.prog f (.agg (fi w)::bP) [] (.bool (p w))) :
  ab Tryz.prog 152 [.sl 4 none (l.map fi),.fn f bP] [] (.int .i64 (kX p l)):=by
 refine aA (F:=Tryz.f152) c152 rfl rfl rfl mixed rfl fun X=>?_;(conv=>whnf);unfold aq at hl;refine bS rfl mixed [0,1,7,8] [] (fun m r h=>∃ (i:Nat),r=[(0,[],.sl 4 none (l.map fi)),(1,[],.fn f bP),(7,[],.int .i64 (l.map fi).length),(8,[],.int .i64 i)]/\h=[]/\m=l.length - i/\i<=l.length/\Below p l i) ?_ ?_
 ·(conv=>whnf);exact ⟨_,0,rfl,rfl,rfl,by omega,.zero⟩
 rintro m r h ⟨i,rfl,rfl,rfl,hi,hg⟩;(conv=>whnf);refine ⟨fun hc=>?_,fun hc=>?_⟩<;>simp at hc
 ·obtain ⟨x,hx⟩:=aF hc;(conv=>whnf);repeat ((first|refine ix (by assumption) ?_|(refine ab.k0 (hp x (List.mem_of_getElem? hx)) ?_));conv=>whnf)
  refine ⟨fun hd=>?_,fun hd=>?_⟩
  ·(conv=>whnf);exact ⟨by rw [hg.at hx hd],rfl⟩
  (conv=>whnf);repeat (refine ⟨ag ⟨by omega,by omega⟩,?_⟩;conv=>whnf)
  exact ⟨_,by omega,i+1,rfl,rfl,rfl,by omega,hg.succ hx hd⟩
 (conv=>whnf);exact ⟨by rw [hg.end hc],rfl⟩
theorem A1 (l:List kM) (hl:l.length<=aq) (f:FuncId) (bP:List AV) (p:kM->Bool) (hp:∀ w∈l,ab Tryz.prog f (.agg (fi w)::bP) [] (.bool (p w))) :
  ab Tryz.prog 107 [.sl 4 none (l.map fi),.fn f bP] [] (.bool (l.any p)):=by
 refine aA (F:=Tryz.f107) c107 rfl rfl rfl mixed rfl fun X=>?_;(conv=>whnf);refine ab.k0 (A0 l hl f bP p hp) ?_;(conv=>whnf);exact ⟨congrArg AV.bool (zo p l),rfl⟩
def c153:av:=⟨[0,1,4,5,7,8,9,16],[],[],[],[],[]⟩
def c109:av:=⟨[0,1,4],[],[],[],[],[]⟩
theorem A2 (l:List lC) (hl:l.length<=aq) (f:FuncId) (bP:List AV) (p:lC->Bool) (hp:∀ w∈l,ab Tryz.prog f (.agg (iV w)::bP) [] (.bool (p w))) :
  ab Tryz.prog 153 [.sl 4 none (l.map iV),.fn f bP] [] (.int .i64 (kX p l)):=by
 refine aA (F:=Tryz.f153) c153 rfl rfl rfl mixed rfl fun X=>?_;(conv=>whnf);unfold aq at hl;refine bS rfl mixed [0,1,7,8] [] (fun m r h=>∃ (i:Nat),r=[(0,[],.sl 4 none (l.map iV)),(1,[],.fn f bP),(7,[],.int .i64 (l.map iV).length),(8,[],.int .i64 i)]/\h=[]/\m=l.length - i/\i<=l.length/\Below p l i) ?_ ?_
 ·(conv=>whnf);exact ⟨_,0,rfl,rfl,rfl,by omega,.zero⟩
 rintro m r h ⟨i,rfl,rfl,rfl,hi,hg⟩;(conv=>whnf);refine ⟨fun hc=>?_,fun hc=>?_⟩<;>simp at hc
 ·obtain ⟨x,hx⟩:=aF hc;(conv=>whnf);repeat ((first|refine ix (by assumption) ?_|(refine ab.k0 (hp x (List.mem_of_getElem? hx)) ?_));conv=>whnf)
  refine ⟨fun hd=>?_,fun hd=>?_⟩
  ·(conv=>whnf);exact ⟨by rw [hg.at hx hd],rfl⟩
  (conv=>whnf);repeat (refine ⟨ag ⟨by omega,by omega⟩,?_⟩;conv=>whnf)
  exact ⟨_,by omega,i+1,rfl,rfl,rfl,by omega,hg.succ hx hd⟩
 (conv=>whnf);exact ⟨by rw [hg.end hc],rfl⟩
theorem A3 (l:List lC) (hl:l.length<=aq) (f:FuncId) (bP:List AV) (p:lC->Bool) (hp:∀ w∈l,ab Tryz.prog f (.agg (iV w)::bP) [] (.bool (p w))) :
  ab Tryz.prog 109 [.sl 4 none (l.map iV),.fn f bP] [] (.bool (l.any p)):=by
 refine aA (F:=Tryz.f109) c109 rfl rfl rfl mixed rfl fun X=>?_;(conv=>whnf);refine ab.k0 (A2 l hl f bP p hp) ?_;(conv=>whnf);exact ⟨congrArg AV.bool (zo p l),rfl⟩
def c154:av:=⟨[0,1,4,5,7,8,9,16],[],[],[],[],[]⟩
def c111:av:=⟨[0,1,4],[],[],[],[],[]⟩
theorem A4 (l:List kU) (hl:l.length<=aq) (f:FuncId) (bP:List AV) (p:kU->Bool) (hp:∀ w∈l,ab Tryz.prog f (.agg (gU w)::bP) [] (.bool (p w))) :
  ab Tryz.prog 154 [.sl 3 none (l.map gU),.fn f bP] [] (.int .i64 (kX p l)):=by
 refine aA (F:=Tryz.f154) c154 rfl rfl rfl mixed rfl fun X=>?_;(conv=>whnf);unfold aq at hl;refine bS rfl mixed [0,1,7,8] [] (fun m r h=>∃ (i:Nat),r=[(0,[],.sl 3 none (l.map gU)),(1,[],.fn f bP),(7,[],.int .i64 (l.map gU).length),(8,[],.int .i64 i)]/\h=[]/\m=l.length - i/\i<=l.length/\Below p l i) ?_ ?_
 ·(conv=>whnf);exact ⟨_,0,rfl,rfl,rfl,by omega,.zero⟩
 rintro m r h ⟨i,rfl,rfl,rfl,hi,hg⟩;(conv=>whnf);refine ⟨fun hc=>?_,fun hc=>?_⟩<;>simp at hc
 ·obtain ⟨x,hx⟩:=aF hc;(conv=>whnf);repeat ((first|refine ix (by assumption) ?_|(refine ab.k0 (hp x (List.mem_of_getElem? hx)) ?_));conv=>whnf)
  refine ⟨fun hd=>?_,fun hd=>?_⟩
  ·(conv=>whnf);exact ⟨by rw [hg.at hx hd],rfl⟩
  (conv=>whnf);repeat (refine ⟨ag ⟨by omega,by omega⟩,?_⟩;conv=>whnf)
  exact ⟨_,by omega,i+1,rfl,rfl,rfl,by omega,hg.succ hx hd⟩
 (conv=>whnf);exact ⟨by rw [hg.end hc],rfl⟩
theorem A5 (l:List kU) (hl:l.length<=aq) (f:FuncId) (bP:List AV) (p:kU->Bool) (hp:∀ w∈l,ab Tryz.prog f (.agg (gU w)::bP) [] (.bool (p w))) :
  ab Tryz.prog 111 [.sl 3 none (l.map gU),.fn f bP] [] (.bool (l.any p)):=by
 refine aA (F:=Tryz.f111) c111 rfl rfl rfl mixed rfl fun X=>?_;(conv=>whnf);refine ab.k0 (A4 l hl f bP p hp) ?_;(conv=>whnf);exact ⟨congrArg AV.bool (zo p l),rfl⟩
def c104:av:=⟨[0,1,2,3],[],[],[],[],[]⟩
def c108:av:=⟨[0,1,2,3],[],[],[],[],[]⟩
def c110:av:=⟨[0,1,2,3],[],[],[],[],[]⟩
theorem A6 (w v:kM):ab Tryz.prog 104 [.agg (fi v),.ai (fi w)] [] (.bool (we w v)):=by refine aA (F:=Tryz.f104) c104 rfl rfl rfl mixed rfl fun X=>?_;(conv=>whnf);skip;exact ⟨rfl,rfl⟩
theorem A7 (w v:lC):ab Tryz.prog 108 [.agg (iV v),.ai (iV w)] [] (.bool (wi w v)):=by refine aA (F:=Tryz.f108) c108 rfl rfl rfl mixed rfl fun X=>?_;(conv=>whnf);skip;exact ⟨rfl,rfl⟩
theorem A8 (w v:kU):ab Tryz.prog 110 [.agg (gU v),.ai (gU w)] [] (.bool (wj w v)):=by refine aA (F:=Tryz.f110) c110 rfl rfl rfl mixed rfl fun X=>?_;(conv=>whnf);skip;exact ⟨rfl,rfl⟩
def c63:av:=⟨[0,1,2,3,4,5,6,7,8,9,10,11,27,29,30,31,32,71,74,75,76,77,111,114,115,116,117,145],[],[4,7,10],[],[],[]⟩
set_option maxHeartbeats 2000000 in
theorem Sx (x:Lex) (hx:rT x):ab Tryz.prog 63 [.agg (fo x)] [] (.int .i64 (js x)):=by
 have sO:=hx.entries;have ik:=hx.bM;have vG:=hx.ao;unfold aq at sO ik vG;refine aA (F:=Tryz.f63) c63 rfl rfl rfl mixed rfl fun X=>?_;(conv=>whnf);skip;refine ⟨fun hc=>?_,fun hc=>?_⟩
 ·have hc:(decide (200<((x.entries.map fi).length:Int))||decide (40<((x.bM.map iV).length:Int))||decide (10<((x.ao.map gU).length:Int)))=true:=hc;simp [or_assoc] at hc;(conv=>whnf);exact ⟨by rw [js,if_pos (by omega)],rfl⟩
 have hc:(decide (200<((x.entries.map fi).length:Int))||decide (40<((x.bM.map iV).length:Int))||decide (10<((x.ao.map gU).length:Int)))=false:=hc;simp at hc;have h0:js x=if jX sm x.entries=true then 45 else if jX pV x.bM=true then 46 else if jX ou x.ao=true then 47 else 0:=(by rw [js,if_neg (by omega)]);(conv=>whnf);refine bS rfl mixed [1,29,30,31] [] (fun m r h=>∃ (i:Nat),r=[(1,[],.ai (fo x)),(29,[],.sl 4 none (x.entries.map fi)),(30,[],.int .i64 (x.entries.map fi).length),(31,[],.int .i64 i)]/\h=[]/\m=x.entries.length - i/\i<=x.entries.length/\jX sm x.entries=jW sm x.entries (x.entries.drop i) i) ?_ ?_
 ·(conv=>whnf);exact ⟨_,0,rfl,rfl,rfl,by omega,rfl⟩
 rintro m r h ⟨i,rfl,rfl,rfl,hi,hb⟩;(conv=>whnf);refine ⟨fun he=>?_,fun he=>?_⟩<;>simp at he
 ·obtain ⟨w,hw⟩:=aF he;have hm:=List.mem_of_getElem? hw;rw [drop_cons hw,jW] at hb;have hq:=A1 (x.entries.take i) (by simp [aq];omega) 104 [.ai (fi w)] (we w) (fun v _=>A6 w v);rw [List.map_take] at hq;(conv=>whnf);repeat ((first|refine ix (by assumption) ?_|refine ab.k0 (LV w.root 8 (hx.dY w hm).root) ?_|refine aY (Bu _ _ _) ?_|refine aY (LW w.cls (hx.dY w hm).cls) ?_|(refine aY hq ?_)|(refine ⟨ag ⟨by omega,by omega,by simp;omega⟩,?_⟩)|refine ⟨_,_,bj.here _,⟨Nat.le_of_ble_eq_true rfl,rfl⟩,?_⟩|intro (nb:Nat));conv=>whnf)
  refine ⟨fun hd=>?_,fun hd=>?_⟩
  ·have hd:sm (x.entries.take i) w=true:=hd;rw [hd,Bool.true_or] at hb;(conv=>whnf);exact ⟨by rw [h0,if_pos hb],rfl⟩
  have hd:sm (x.entries.take i) w=false:=hd;rw [hd,Bool.false_or] at hb;(conv=>whnf);repeat (refine ⟨ag ⟨by omega,by omega⟩,?_⟩;conv=>whnf)
  exact ⟨_,by omega,i+1,rfl,rfl,rfl,by omega,hb⟩
 rw [drop_nil he,jW] at hb;have h1:js x=if jX pV x.bM=true then 46 else if jX ou x.ao=true then 47 else 0:=(by rw [h0,if_neg (by rw [hb];decide)]);(conv=>whnf);refine bS rfl mixed [1,74,75,76] [] (fun m r h=>∃ (i:Nat),r=[(1,[],.ai (fo x)),(74,[],.sl 4 none (x.bM.map iV)),(75,[],.int .i64 (x.bM.map iV).length),(76,[],.int .i64 i)]/\h=[]/\m=x.bM.length - i/\i<=x.bM.length/\jX pV x.bM=jW pV x.bM (x.bM.drop i) i) ?_ ?_
 ·(conv=>whnf);exact ⟨_,0,rfl,rfl,rfl,by omega,rfl⟩
 rintro m r h ⟨i,rfl,rfl,rfl,hi,hb⟩;(conv=>whnf);refine ⟨fun he=>?_,fun he=>?_⟩<;>simp at he
 ·obtain ⟨w,hw⟩:=aF he;have hm:=List.mem_of_getElem? hw;rw [drop_cons hw,jW] at hb;have hq:=A3 (x.bM.take i) (by simp [aq];omega) 108 [.ai (iV w)] (wi w) (fun v _=>A7 w v);rw [List.map_take] at hq;(conv=>whnf);repeat ((first|refine ix (by assumption) ?_|refine ab.k0 (Bu _ _ _) ?_|refine aY (Bu _ _ _) ?_|refine aY (LV w.text 4 (hx.Bx w hm).text) ?_|refine aY (LW w.name (hx.Bx w hm).name) ?_|(refine aY hq ?_)|(refine ⟨ag ⟨by omega,by omega,by simp;omega⟩,?_⟩)|refine ⟨_,_,bj.here _,⟨Nat.le_of_ble_eq_true rfl,rfl⟩,?_⟩|intro (nb:Nat));conv=>whnf)
  refine ⟨fun hd=>?_,fun hd=>?_⟩
  ·have hd:pV (x.bM.take i) w=true:=hd;rw [hd,Bool.true_or] at hb;(conv=>whnf);exact ⟨by rw [h1,if_pos hb],rfl⟩
  have hd:pV (x.bM.take i) w=false:=hd;rw [hd,Bool.false_or] at hb;(conv=>whnf);repeat (refine ⟨ag ⟨by omega,by omega⟩,?_⟩;conv=>whnf)
  exact ⟨_,by omega,i+1,rfl,rfl,rfl,by omega,hb⟩
 rw [drop_nil he,jW] at hb;have h2:js x=if jX ou x.ao=true then 47 else 0:=(by rw [h1,if_neg (by rw [hb];decide)]);(conv=>whnf);refine bS rfl mixed [1,114,115,116] [] (fun m r h=>∃ (i:Nat),r=[(1,[],.ai (fo x)),(114,[],.sl 3 none (x.ao.map gU)),(115,[],.int .i64 (x.ao.map gU).length),(116,[],.int .i64 i)]/\h=[]/\m=x.ao.length - i/\i<=x.ao.length/\jX ou x.ao=jW ou x.ao (x.ao.drop i) i) ?_ ?_
 ·(conv=>whnf);exact ⟨_,0,rfl,rfl,rfl,by omega,rfl⟩
 rintro m r h ⟨i,rfl,rfl,rfl,hi,hb⟩;(conv=>whnf);refine ⟨fun he=>?_,fun he=>?_⟩<;>simp at he
 ·obtain ⟨w,hw⟩:=aF he;have hm:=List.mem_of_getElem? hw;rw [drop_cons hw,jW] at hb;have hq:=A5 (x.ao.take i) (by simp [aq];omega) 110 [.ai (gU w)] (wj w) (fun v _=>A8 w v);rw [List.map_take] at hq;(conv=>whnf);repeat ((first|refine ix (by assumption) ?_|refine ab.k0 (LV w.text 4 (hx.eh w hm).text) ?_|refine aY (LW w.name (hx.eh w hm).name) ?_|refine aY (Bu _ _ _) ?_|(refine aY hq ?_)|(refine ⟨ag ⟨by omega,by omega,by simp;omega⟩,?_⟩)|refine ⟨_,_,bj.here _,⟨Nat.le_of_ble_eq_true rfl,rfl⟩,?_⟩|intro (nb:Nat));conv=>whnf)
  refine ⟨fun hd=>?_,fun hd=>?_⟩
  ·have hd:ou (x.ao.take i) w=true:=hd;rw [hd,Bool.true_or] at hb;(conv=>whnf);exact ⟨by rw [h2,if_pos hb],rfl⟩
  have hd:ou (x.ao.take i) w=false:=hd;rw [hd,Bool.false_or] at hb;(conv=>whnf);repeat (refine ⟨ag ⟨by omega,by omega⟩,?_⟩;conv=>whnf)
  exact ⟨_,by omega,i+1,rfl,rfl,rfl,by omega,hb⟩
 rw [drop_nil he,jW] at hb;have h3:js x=0:=(by rw [h2,if_neg (by rw [hb];decide)]);(conv=>whnf);exact ⟨by rw [h3],rfl⟩
end Go.Abs.Wall
namespace Go.Abs.Wall
open Go Go.Abs Go.Proofs
structure br where
 entry:Int
 ending:Int
 ao:List Int
deriving DecidableEq
def dt (f:br):List AV:=[.int .i64 f.entry,.int .i64 f.ending,.sl 1 none (ints f.ao)]
def bY (x:Lex) (n:Int):kM:=x.entries.getD n.toNat ⟨[],0,[],0⟩
def gG (x:Lex) (n:Int):lC:=x.bM.getD n.toNat ⟨0,[],[],0⟩
def cS (x:Lex) (n:Int):kU:=x.ao.getD n.toNat ⟨[],[],0⟩
def sV (x:Lex) (f:br):Bool:=!decide (f.ending = -1)&&(!bL f.ending 0 ((x.bM.length:Int) - 1)||!decide ((gG x f.ending).kind=(bY x f.entry).kind))
def jr (n:Nat):List Int->Int->Bool
 | [],_=>true
 | c::t,last=>!(decide (c<=last)||decide ((n:Int)<=c))&&jr n t c
def fC (x:Lex) (f:br):Int:=
 if js x≠0 then js x
 else if bL f.entry 0 ((x.entries.length:Int) - 1)=false then 45
 else if sV x f=true then 46
 else if 3<f.ao.length then 47
 else if jr x.ao.length f.ao (-1)=true then 0
 else 47
theorem dL {n lo hi:Int}:bL n lo hi=true↔lo<=n/\n<=hi:=by unfold bL;simp
theorem Sy {α:Type} {bad:List α->α->Bool} {l:List α}:∀ (t:List α) (k:Nat),l.drop k=t->jW bad l t k=false->∀ (i:Nat) w,k<=i->l[i]?=some w->bad (l.take i) w=false
 | [],k,hd,_,i,w,hi,hw=>by have h1:=List.drop_eq_nil_iff.1 hd;have h2:=(List.getElem?_eq_some_iff.1 hw).1;omega
 | a::t,k,hd,h,i,w,hi,hw=>by
   rw [jW,Bool.or_eq_false_iff] at h;have hk:l[k]?=some a:=by have:=congrArg (fun z=>z[0]?) hd;simpa using this
   by_cases e:i=k
   ·subst e;rw [hk] at hw;cases hw;exact h.1
   refine Sy t (k+1) ?_ h.2 i w (by omega) hw;have:=congrArg List.tail hd;simpa [List.tail_drop] using this
theorem LX {α:Type} {bad:List α->α->Bool} {l:List α} (h:jX bad l=false) (i:Nat) (w:α) (hw:l[i]?=some w):bad (l.take i) w=false:=
 Sy l 0 rfl h i w (Nat.zero_le _) hw
structure Sz (e:kM):Prop where
 root:ot e.root 8=true
 kind:1<=e.kind/\e.kind<=9
 cls:e.cls≠[]->sj e.cls=true
 weight:0<=e.weight/\e.weight<=1000
structure SA (e:lC):Prop where
 text:ot e.text 4=true
 weight:0<=e.weight/\e.weight<=1000
structure SB (e:kU):Prop where
 text:ot e.text 4=true
 weight:0<=e.weight/\e.weight<=1000
structure pW (x:Lex):Prop where
 many:x.entries.length<=200/\x.bM.length<=40/\x.ao.length<=10
 dY:∀ e∈x.entries,Sz e
 Bx:∀ e∈x.bM,SA e
 eh:∀ e∈x.ao,SB e
theorem lP {s:List UInt8} {n:Int} (h:ot s n=true):1<=(s.length:Int)/\(s.length:Int)<=n:=by unfold ot at h;simp only [Bool.and_eq_true,decide_eq_true_eq] at h;exact h.2
theorem SC {x:Lex} (h:js x=0):pW x:=by
 unfold js at h;split at h
 ·cases h
 rename_i h1;split at h
 ·cases h
 rename_i h2;split at h
 ·cases h
 rename_i h3;split at h
 ·cases h
 rename_i h4;refine ⟨by omega,fun e he=>?_,fun e he=>?_,fun e he=>?_⟩
 ·obtain ⟨i,hi⟩:=List.mem_iff_getElem?.1 he;have:=LX (Bool.eq_false_iff.2 h2) i e hi;unfold sm at this;simp only [Bool.or_eq_false_iff,Bool.not_eq_false',Bool.and_eq_false_iff,dL,decide_eq_true_eq] at this;exact ⟨this.1.1.1.1,this.1.1.1.2,fun hc=>by rcases this.1.1.2 with h|h;exact absurd h hc;exact h,this.1.2⟩
 ·obtain ⟨i,hi⟩:=List.mem_iff_getElem?.1 he;have:=LX (Bool.eq_false_iff.2 h3) i e hi;unfold pV at this;simp only [Bool.or_eq_false_iff,Bool.not_eq_false',Bool.and_eq_false_iff,dL,decide_eq_true_eq] at this;exact ⟨this.1.1.1.2,this.1.2⟩
 obtain ⟨i,hi⟩:=List.mem_iff_getElem?.1 he;have:=LX (Bool.eq_false_iff.2 h4) i e hi;unfold ou at this;simp only [Bool.or_eq_false_iff,Bool.not_eq_false',Bool.and_eq_false_iff,dL,decide_eq_true_eq] at this;exact ⟨this.1.1.1,this.1.2⟩
theorem SD {n:Nat}:∀ {l:List Int} {last:Int},jr n l last=true->∀ c∈l,last<c/\c<n
 | [],_,_,c,hc=>by cases hc
 | a::t,last,h,c,hc=>by
   unfold jr at h;simp only [Bool.and_eq_true,Bool.not_eq_true',Bool.or_eq_false_iff,decide_eq_false_iff_not] at h;rcases List.mem_cons.1 hc with rfl|hc
   ·omega
   have:=SD h.2 c hc;omega
structure mg (x:Lex) (f:br):Prop where
 lex:pW x
 entry:0<=f.entry/\f.entry<x.entries.length
 ending:f.ending = -1\/(0<=f.ending/\f.ending<x.bM.length/\(gG x f.ending).kind=(bY x f.entry).kind)
 bB:f.ao.length<=3
 eh:∀ c∈f.ao,0<=c/\c<x.ao.length
 up:jr x.ao.length f.ao (-1)=true
theorem qF {x:Lex} {f:br} (h:fC x f=0):mg x f:=by
 unfold fC at h;split at h
 ·rename_i h0;exact absurd h h0
 rename_i h0;split at h
 ·cases h
 rename_i h1;split at h
 ·cases h
 rename_i h2;split at h
 ·cases h
 rename_i h3;split at h
 ·rename_i h4;rw [Bool.not_eq_false,dL] at h1;rw [Bool.not_eq_true] at h2;unfold sV at h2;simp only [Bool.and_eq_false_iff,Bool.or_eq_false_iff,Bool.not_eq_false',dL,decide_eq_true_eq] at h2;refine ⟨SC (by omega),by omega,?_,by omega,fun c hc=>?_,h4⟩
  ·rcases h2 with h2|h2
   ·exact .inl h2
   exact .inr ⟨by omega,by omega,h2.2⟩
  have:=SD h4 c hc;omega
 cases h
theorem nY {x:Lex} {n:Int} (h0:0<=n) (h1:n<x.entries.length):x.entries[n.toNat]?=some (bY x n):=by have:n.toNat<x.entries.length:=(by omega);unfold bY;simp [List.getElem?_eq_getElem this]
theorem zt {x:Lex} {n:Int} (h0:0<=n) (h1:n<x.bM.length):x.bM[n.toNat]?=some (gG x n):=by have:n.toNat<x.bM.length:=(by omega);unfold gG;simp [List.getElem?_eq_getElem this]
theorem kz {x:Lex} {n:Int} (h0:0<=n) (h1:n<x.ao.length):x.ao[n.toNat]?=some (cS x n):=by have:n.toNat<x.ao.length:=(by omega);unfold cS;simp [List.getElem?_eq_getElem this]
theorem pW.bY {x:Lex} (hx:pW x) {n:Int} (h0:0<=n) (h1:n<x.entries.length):Sz (Wall.bY x n):=hx.dY _ (List.mem_of_getElem? (nY h0 h1))
theorem pW.gG {x:Lex} (hx:pW x) {n:Int} (h0:0<=n) (h1:n<x.bM.length):SA (Wall.gG x n):=hx.Bx _ (List.mem_of_getElem? (zt h0 h1))
theorem pW.cS {x:Lex} (hx:pW x) {n:Int} (h0:0<=n) (h1:n<x.ao.length):SB (Wall.cS x n):=hx.eh _ (List.mem_of_getElem? (kz h0 h1))
def oz (x:Lex) (l:List Int):Int:=(l.map fun c=>(cS x c).weight).sum
def ku (x:Lex) (l:List Int):List UInt8:=(l.map fun c=>(cS x c).text).flatten
def gE (x:Lex) (f:br):Int:=(bY x f.entry).weight+(if 0<=f.ending then (gG x f.ending).weight else 0)+oz x f.ao
def jb (x:Lex) (f:br):List UInt8:=(bY x f.entry).root++(if 0<=f.ending then (gG x f.ending).text else [])
def qL (x:Lex) (f:br):List UInt8:=jb x f++ku x f.ao
theorem By {x:Lex} (hx:pW x):∀ {l:List Int},(∀ c∈l,0<=c/\c<x.ao.length)->0<=oz x l/\oz x l<=1000*l.length
 | [],_=>by simp [oz]
 | c::l,h=>by have ih:=By hx (l:=l) fun d hd=>h d (by simp [hd]);have hc:=h c (by simp);have hw:=(hx.cS hc.1 hc.2).weight;unfold oz at ih ⊢;simp only [List.map_cons,List.sum_cons,List.length_cons];omega
theorem Gi {x:Lex} (hx:pW x):∀ {l:List Int},(∀ c∈l,0<=c/\c<x.ao.length)->(ku x l).length<=4*l.length
 | [],_=>by simp [ku]
 | c::l,h=>by have ih:=Gi hx (l:=l) fun d hd=>h d (by simp [hd]);have hc:=h c (by simp);have hw:=lP (hx.cS hc.1 hc.2).text;unfold ku at ih ⊢;simp only [List.map_cons,List.flatten_cons,List.length_append,List.length_cons];omega
theorem mg.Ds {x:Lex} {f:br} (h:mg x f):1<=(jb x f).length/\(jb x f).length<=12:=by
 have h1:=lP (h.lex.bY h.entry.1 h.entry.2).root;unfold jb;rw [List.length_append];split
 ·rename_i h2;have h3:=lP (h.lex.gG h2 (by rcases h.ending with h|h<;>omega)).text
  omega
 simp;omega
theorem mg.jP {x:Lex} {f:br} (h:mg x f):0<=gE x f/\gE x f<=5000:=by
 have h1:=(h.lex.bY h.entry.1 h.entry.2).weight;have h2:=By h.lex h.eh;have h3:=h.bB;unfold gE;split
 ·rename_i h4;have h5:=(h.lex.gG h4 (by rcases h.ending with h|h<;>omega)).weight
  omega
 omega
theorem cN {α:Type} {l:List α} {i:Nat} {a:α} (h:l[i]?=some a):l.take (i+1)=l.take i++[a]:=by rw [List.take_add_one,h];rfl
theorem Hg {x:Lex} {l:List Int} {c:Int}:oz x (l++[c])=oz x l+(cS x c).weight:=by unfold oz;simp
theorem PJ {x:Lex} {l:List Int} {c:Int}:ku x (l++[c])=ku x l++(cS x c).text:=by unfold ku;simp
def c56:av:=⟨[0,1,2,3,4,5,6,8,12,21,51,55,57,58,59,60,72],[],[],[],[(6,[0,1,2,3,4,5,6,7,8,9,10,11,12,13,14,15,16,17,18,19,20,21,22,23,24,25,26,27,28,29],[])],[]⟩
def c143:av:=⟨[0,1,2,3,4,5,7,17,28,29,30,31],[],[],[],[],[]⟩
def c97:av:=⟨[0,1,2,3,4,5,6,11],[],[],[],[],[]⟩
def c96:av:=⟨[0,1,2,3,4,5,15],[],[],[],[],[]⟩
def c57:av:=⟨[0,1,2,3,4,5,6,11],[],[],[],[],[]⟩
theorem Kf (x:Lex) (f:br) (hx:rT x) (hf:f.ao.length<=aq):ab Tryz.prog 56 [.agg (fo x),.agg (dt f)] [] (.int .i64 (fC x f)):=by
 have sO:=hx.entries;have ik:=hx.bM;have vG:=hx.ao;unfold aq at sO ik vG hf;refine aA (F:=Tryz.f56) c56 rfl rfl rfl mixed rfl fun X=>?_;(conv=>whnf);repeat (refine ab.k0 (Sx x hx) ?_;conv=>whnf)
 refine ⟨fun hc=>?_,fun hc=>?_⟩<;>simp at hc
 ·(conv=>whnf);exact ⟨by rw [fC,if_pos hc],rfl⟩
 (conv=>whnf);repeat ((first|refine ab.k0 (Bu _ _ _) ?_|(refine ⟨ag ⟨by rw [List.length_map];omega,by rw [List.length_map];omega⟩,?_⟩));conv=>whnf)
 refine ⟨fun hd=>?_,fun hd=>?_⟩
 ·have hd:(!bL f.entry 0 ((x.entries.map fi).length - 1))=true:=hd;rw [List.length_map,Bool.not_eq_true'] at hd;(conv=>whnf);exact ⟨by rw [fC,if_neg (by omega),if_pos hd],rfl⟩
 have hd:(!bL f.entry 0 ((x.entries.map fi).length - 1))=false:=hd;rw [List.length_map,Bool.not_eq_false'] at hd;have db:=dL.1 hd;(conv=>whnf);repeat ((first|(refine rG (⟨0,[],[],0⟩:lC) ?_ ?_;(focus (conv=>whnf;skip));(focus (intro g0 g1;simp at g1;show 0<=_/\_<_;omega)))|(refine rG (⟨[],0,[],0⟩:kM) ?_ ?_;(focus (conv=>whnf;skip));(focus (intro g0 g1;show 0<=_/\_<_;omega)))|(refine aY (Bu _ _ _) ?_)|(refine ⟨ag ⟨by rw [List.length_map];omega,by rw [List.length_map];omega⟩,?_⟩)|refine And.intro (by show aJ (aH Tryz.f56 _) _=true;decide +kernel) ?_);conv=>whnf)
 refine ⟨fun he=>?_,fun he=>?_⟩
 ·have he:sV x f=true:=by unfold sV;rw [<- List.length_map (f:=iV)];exact he
  (conv=>whnf);exact ⟨by rw [fC,if_neg (by omega),if_neg (by rw [hd];decide),if_pos he],rfl⟩
 have he:sV x f=false:=by unfold sV;rw [<- List.length_map (f:=iV)];exact he
 (conv=>whnf);refine ⟨fun h3=>?_,fun h3=>?_⟩<;>simp at h3
 ·(conv=>whnf);exact ⟨by rw [fC,if_neg (by omega),if_neg (by rw [hd];decide),if_neg (by rw [he];decide),if_pos (by omega)],rfl⟩
 have hg:fC x f=if jr x.ao.length f.ao (-1)=true then 0 else 47:=(by rw [fC,if_neg (by omega),if_neg (by rw [hd];decide),if_neg (by rw [he];decide),if_neg (by omega)]);(conv=>whnf);refine bS rfl mixed [2,6,57,58,59] [] (fun m r h=>∃ (i:Nat) (last:Int),r=[(2,[],.ai (fo x)),(6,[],.int .i64 last),(57,[],.sl 1 none (ints f.ao)),(58,[],.int .i64 (ints f.ao).length),(59,[],.int .i64 i)]/\h=[]/\m=f.ao.length - i/\i<=f.ao.length/\jr x.ao.length f.ao (-1)=jr x.ao.length (f.ao.drop i) last) ?_ ?_
 ·(conv=>whnf);exact ⟨_,0,-1,rfl,rfl,rfl,by omega,rfl⟩
 rintro m r h ⟨i,last,rfl,rfl,rfl,hi,hb⟩;(conv=>whnf);refine ⟨fun aG=>?_,fun aG=>?_⟩<;>simp at aG
 ·obtain ⟨c,hc⟩:=aF aG;rw [drop_cons hc,jr] at hb;(conv=>whnf);repeat (refine ix (by assumption) ?_;conv=>whnf)
  refine ⟨fun hq=>?_,fun hq=>?_⟩
  ·have hq:(decide (c<=last)||decide (((x.ao.map gU).length:Int)<=c))=true:=hq;rw [List.length_map] at hq;rw [hq] at hb;(conv=>whnf);exact ⟨by rw [hg,hb];rfl,rfl⟩
  have hq:(decide (c<=last)||decide (((x.ao.map gU).length:Int)<=c))=false:=hq;rw [List.length_map] at hq;rw [hq] at hb;(conv=>whnf);repeat (refine ⟨ag ⟨by omega,by omega⟩,?_⟩;conv=>whnf)
  exact ⟨_,by omega,i+1,c,rfl,rfl,rfl,by omega,hb⟩
 rw [drop_nil aG,jr] at hb;(conv=>whnf);exact ⟨by rw [hg,hb];rfl,rfl⟩
theorem A9 (x:Lex) (f:br) (h:mg x f):ab Tryz.prog 143 [.agg (fo x),.agg (dt f)] [] (.int .i64 (gE x f)):=by
 have dG:=h.bB;have Lx:=(h.lex.bY h.entry.1 h.entry.2).weight;refine aA (F:=Tryz.f143) c143 rfl rfl rfl mixed rfl fun X=>?_;(conv=>whnf);repeat ((refine cp f.entry.toNat (by have:=h.entry;omega) (nY h.entry.1 h.entry.2) ?_);conv=>whnf)
 refine ⟨fun he=>?_,fun he=>?_⟩<;>simp at he
 ·have dM:f.ending<x.bM.length:=by rcases h.ending with h|h<;>omega
  have oP:=(h.lex.gG he dM).weight;(conv=>whnf);repeat ((first|refine ⟨ag ⟨by omega,by omega⟩,?_⟩|(refine cp f.ending.toNat (by omega) (zt he dM) ?_));conv=>whnf)
  obtain ⟨n0,gB⟩:∃ n:Int,n=(bY x f.entry).weight+(gG x f.ending).weight:=⟨_,rfl⟩;rw [<- gB];have gO:n0=(bY x f.entry).weight+(if 0<=f.ending then (gG x f.ending).weight else 0):=by rw [if_pos he];exact gB
  replace gB:=gO;refine bS rfl mixed [2,5,28,29,30] [] (fun m r h=>∃ (i:Nat) (n:Int),r=[(2,[],.ai (fo x)),(5,[],.int .i64 n),(28,[],.sl 1 none (ints f.ao)),(29,[],.int .i64 (ints f.ao).length),(30,[],.int .i64 i)]/\h=[]/\m=f.ao.length - i/\i<=f.ao.length/\n=n0+oz x (f.ao.take i)) ?_ ?_
  ·(conv=>whnf);exact ⟨_,0,n0,rfl,rfl,rfl,by omega,by simp [oz]⟩
  rintro m r h ⟨i,n,rfl,rfl,rfl,hi,hn⟩;(conv=>whnf);refine ⟨fun aG=>?_,fun aG=>?_⟩<;>simp at aG
  ·obtain ⟨c,hc⟩:=aF aG;have bJ:=h.eh c (List.mem_of_getElem? hc);have dH:=(h.lex.cS bJ.1 bJ.2).weight;have hb:=By h.lex (l:=f.ao.take i) fun d hd=>h.eh d (List.mem_of_mem_take hd);rw [List.length_take] at hb;have hs:=cN hc;(conv=>whnf);repeat ((first|refine ⟨ag ⟨by omega,by omega⟩,?_⟩|refine ix (by assumption) ?_|(refine cp c.toNat (by omega) (kz bJ.1 bJ.2) ?_));conv=>whnf)
   exact ⟨_,by omega,i+1,_,rfl,rfl,rfl,by omega,by rw [hs,Hg];omega⟩
  rw [List.take_of_length_le aG] at hn;(conv=>whnf);refine ⟨congrArg (AV.int .i64) ?_,rfl⟩;rw [hn,gB];rfl
 (conv=>whnf);obtain ⟨n0,gB⟩:∃ n:Int,n=(bY x f.entry).weight:=⟨_,rfl⟩;rw [<- gB];have gO:n0=(bY x f.entry).weight+(if 0<=f.ending then (gG x f.ending).weight else 0):=by rw [if_neg (by omega)];omega
 replace gB:=gO;refine bS rfl mixed [2,5,28,29,30] [] (fun m r h=>∃ (i:Nat) (n:Int),r=[(2,[],.ai (fo x)),(5,[],.int .i64 n),(28,[],.sl 1 none (ints f.ao)),(29,[],.int .i64 (ints f.ao).length),(30,[],.int .i64 i)]/\h=[]/\m=f.ao.length - i/\i<=f.ao.length/\n=n0+oz x (f.ao.take i)) ?_ ?_
 ·(conv=>whnf);exact ⟨_,0,n0,rfl,rfl,rfl,by omega,by simp [oz]⟩
 rintro m r h ⟨i,n,rfl,rfl,rfl,hi,hn⟩;(conv=>whnf);refine ⟨fun aG=>?_,fun aG=>?_⟩<;>simp at aG
 ·obtain ⟨c,hc⟩:=aF aG;have bJ:=h.eh c (List.mem_of_getElem? hc);have dH:=(h.lex.cS bJ.1 bJ.2).weight;have hb:=By h.lex (l:=f.ao.take i) fun d hd=>h.eh d (List.mem_of_mem_take hd);rw [List.length_take] at hb;have hs:=cN hc;(conv=>whnf);repeat ((first|refine ⟨ag ⟨by omega,by omega⟩,?_⟩|refine ix (by assumption) ?_|(refine cp c.toNat (by omega) (kz bJ.1 bJ.2) ?_));conv=>whnf)
  exact ⟨_,by omega,i+1,_,rfl,rfl,rfl,by omega,by rw [hs,Hg];omega⟩
 rw [List.take_of_length_le aG] at hn;(conv=>whnf);refine ⟨congrArg (AV.int .i64) ?_,rfl⟩;rw [hn,gB];rfl
theorem PK (x:Lex) (f:br) (hx:rT x) (hf:f.ao.length<=aq):ab Tryz.prog 97 [.agg (fo x),.agg (dt f)] [] (.aB [.int .i64 (if fC x f=0 then gE x f else 0),.int .i64 (fC x f)]):=by
 refine aA (F:=Tryz.f97) c97 rfl rfl rfl mixed rfl fun X=>?_;(conv=>whnf);repeat (refine ab.k0 (Kf x f hx hf) ?_;conv=>whnf)
 refine ⟨fun hc=>?_,fun hc=>?_⟩<;>simp at hc
 ·(conv=>whnf);exact ⟨by rw [if_neg hc],rfl⟩
 (conv=>whnf);repeat (refine ab.k0 (A9 x f (qF hc)) ?_;conv=>whnf)
 exact ⟨by rw [if_pos hc,hc],rfl⟩
theorem B0 (x:Lex) (f:br) (h:mg x f):ab Tryz.prog 96 [.agg (fo x),.agg (dt f)] [] (.str (jb x f)):=by
 have ax:=h.Ds;refine aA (F:=Tryz.f96) c96 rfl rfl rfl mixed rfl fun X=>?_;(conv=>whnf);repeat ((refine cp f.entry.toNat (by have:=h.entry;omega) (nY h.entry.1 h.entry.2) ?_);conv=>whnf)
 refine ⟨fun he=>?_,fun he=>?_⟩<;>simp at he
 ·have dM:f.ending<x.bM.length:=by rcases h.ending with h|h<;>omega
  have hs:jb x f=(bY x f.entry).root++(gG x f.ending).text:=(by rw [jb,if_pos he]);rw [hs] at ax ⊢;(conv=>whnf);repeat ((first|(refine cp f.ending.toNat (by omega) (zt he dM) ?_)|(refine ⟨ag (by unfold aq;omega),?_⟩));conv=>whnf)
  exact ⟨rfl,rfl⟩
 have hs:jb x f=(bY x f.entry).root:=(by rw [jb,if_neg (by omega),List.append_nil]);rw [hs];(conv=>whnf);exact ⟨rfl,rfl⟩
theorem Xd (x:Lex) (f:br) (hx:rT x) (hf:f.ao.length<=aq):ab Tryz.prog 57 [.agg (fo x),.agg (dt f)] [] (.aB [.str (if fC x f=0 then jb x f else []),.int .i64 (fC x f)]):=by
 refine aA (F:=Tryz.f57) c57 rfl rfl rfl mixed rfl fun X=>?_;(conv=>whnf);repeat (refine ab.k0 (Kf x f hx hf) ?_;conv=>whnf)
 refine ⟨fun hc=>?_,fun hc=>?_⟩<;>simp at hc
 ·(conv=>whnf);exact ⟨by rw [if_neg hc],rfl⟩
 (conv=>whnf);repeat (refine ab.k0 (B0 x f (qF hc)) ?_;conv=>whnf)
 exact ⟨by rw [if_pos hc,hc],rfl⟩
end Go.Abs.Wall
namespace Go.Abs.Wall
open Go Go.Abs Go.Proofs
def fN (t w:List UInt8):Bool:=decide ((w.length:Int)<=t.length)&&decide (t.take w.length=w)
def oT (t w:List UInt8):Bool:=decide ((w.length:Int)<=t.length)&&decide (t.drop (t.length - w.length)=w)
def c205:av:=⟨[0,1,4],[],[],[],[],[]⟩
def c160:av:=⟨[0,1,4],[],[],[],[],[]⟩
def c161:av:=⟨[0,1,4],[],[],[],[],[]⟩
def c119:av:=⟨[0,1,4],[],[],[],[],[]⟩
theorem B1 (t w:List UInt8) (ht:t.length<=aq) (hw:w.length<=aq):ab Tryz.prog 205 [.str t,.str w] [] (.bool (fN t w)):=by
 unfold aq at ht hw;refine aA (F:=Tryz.f205) c205 rfl rfl rfl mixed rfl fun X=>?_;(conv=>whnf);repeat ((refine And.intro ?_ ?_;(focus ((conv=>whnf);intro g0;have g0:=of_decide_eq_true g0;refine ⟨?_,?_,?_⟩<;>omega)));conv=>whnf)
 exact ⟨rfl,rfl⟩
theorem hasPrefix (t w:List UInt8) (ht:t.length<=aq) (hw:w.length<=aq):ab Tryz.prog 160 [.str t,.str w] [] (.bool (fN t w)):=by
 refine aA (F:=Tryz.f160) c160 rfl rfl rfl mixed rfl fun X=>?_;(conv=>whnf);repeat (refine ab.k0 (B1 t w ht hw) ?_;conv=>whnf)
 exact ⟨rfl,rfl⟩
theorem B2 (t w:List UInt8) (ht:t.length<=aq) (hw:w.length<=aq):ab Tryz.prog 161 [.str t,.str w] [] (.bool (oT t w)):=by
 unfold aq at ht hw;refine aA (F:=Tryz.f161) c161 rfl rfl rfl mixed rfl fun X=>?_;(conv=>whnf);repeat ((first|refine ⟨ag ⟨by omega,by omega⟩,?_⟩|(refine And.intro ?_ ?_;(focus ((conv=>whnf);intro g0;have g0:=of_decide_eq_true g0;refine ⟨?_,?_,?_⟩<;>omega))));conv=>whnf)
 refine ⟨congrArg AV.bool ?_,rfl⟩;unfold oT;by_cases h:(w.length:Int)<=t.length
 ·simp only [decide_eq_true h,Bool.true_and];rw [List.take_of_length_le (by omega),show ((t.length:Int) - (w.length:Int)).toNat=t.length - w.length by omega]
 simp only [decide_eq_false h,Bool.false_and]
theorem hasSuffix (t w:List UInt8) (ht:t.length<=aq) (hw:w.length<=aq):ab Tryz.prog 119 [.str t,.str w] [] (.bool (oT t w)):=by
 refine aA (F:=Tryz.f119) c119 rfl rfl rfl mixed rfl fun X=>?_;(conv=>whnf);repeat (refine ab.k0 (B2 t w ht hw) ?_;conv=>whnf)
 exact ⟨rfl,rfl⟩
def ct (a b:Int):Int:=if a<b then -1 else if b<a then 1 else 0
def pX (a b:List UInt8):Int:=if a<b then -1 else if a=b then 0 else 1
def gV:List Int->Int
 | []=>0
 | x::l=>if x≠0 then x else gV l
def c172:av:=⟨[0,2],[],[],[],[],[]⟩
def c204:av:=⟨[0,2],[],[],[],[],[]⟩
def c123:av:=⟨[0,1,4,5,6,11,12,13,16,19],[],[],[],[],[]⟩
def c158:av:=⟨[0,1,4,5,6,11,12,13,16,19],[],[],[],[],[]⟩
def c122:av:=⟨[0,2,3,5,6,7,8,9,14],[],[],[],[],[]⟩
theorem B3 (a:Int):ab Tryz.prog 172 [.int .i64 a] [] (.bool false):=by refine aA (F:=Tryz.f172) c172 rfl rfl rfl mixed rfl fun X=>?_;(conv=>whnf);exact ⟨by simp,rfl⟩
theorem B4 (a:List UInt8):ab Tryz.prog 204 [.str a] [] (.bool false):=by refine aA (F:=Tryz.f204) c204 rfl rfl rfl mixed rfl fun X=>?_;(conv=>whnf);exact ⟨by simp,rfl⟩
theorem Co (a b:Int):ab Tryz.prog 123 [.int .i64 a,.int .i64 b] [] (.int .i64 (ct a b)):=by
 refine aA (F:=Tryz.f123) c123 rfl rfl rfl mixed rfl fun X=>?_;(conv=>whnf);repeat (refine ab.k0 (B3 _) ?_;conv=>whnf)
 refine cF rfl ?_;(conv=>whnf);refine cF rfl ?_;(conv=>whnf);refine ⟨fun h=>?_,fun h=>?_⟩<;>simp only [decide_eq_true_eq,decide_eq_false_iff_not] at h
 ·(conv=>whnf);exact ⟨by rw [ct,if_pos h],rfl⟩
 (conv=>whnf);refine ⟨fun h2=>?_,fun h2=>?_⟩<;>simp only [decide_eq_true_eq,decide_eq_false_iff_not] at h2
 ·(conv=>whnf);exact ⟨by rw [ct,if_neg h,if_pos h2],rfl⟩
 (conv=>whnf);exact ⟨by rw [ct,if_neg h,if_neg h2],rfl⟩
theorem B5 (a b:List UInt8):ab Tryz.prog 158 [.str a,.str b] [] (.int .i64 (pX a b)):=by
 refine aA (F:=Tryz.f158) c158 rfl rfl rfl mixed rfl fun X=>?_;(conv=>whnf);repeat (refine ab.k0 (B4 _) ?_;conv=>whnf)
 refine cF rfl ?_;(conv=>whnf);refine cF rfl ?_;(conv=>whnf);rw [bytesLess_eq];refine ⟨fun h=>?_,fun h=>?_⟩<;>simp only [decide_eq_true_eq,decide_eq_false_iff_not] at h
 ·(conv=>whnf);exact ⟨by rw [pX,if_pos h],rfl⟩
 (conv=>whnf);rw [bytesLess_eq];refine ⟨fun h2=>?_,fun h2=>?_⟩<;>simp [h] at h2
 ·(conv=>whnf);exact ⟨by rw [pX,if_neg h,if_neg h2],rfl⟩
 (conv=>whnf);exact ⟨by rw [pX,if_neg h,if_pos h2],rfl⟩
theorem Fs (l:List Int) (hl:l.length<=aq):ab Tryz.prog 122 [.sl 1 none (ints l)] [] (.int .i64 (gV l)):=by
 unfold aq at hl;refine aA (F:=Tryz.f122) c122 rfl rfl rfl mixed rfl fun X=>?_;(conv=>whnf);refine bS rfl mixed [3,6,7,8] [] (fun m r h=>∃ (i:Nat),r=[(3,[],.int .i64 0),(6,[],.sl 1 none (ints l)),(7,[],.int .i64 (ints l).length),(8,[],.int .i64 i)]/\h=[]/\m=l.length - i/\i<=l.length/\gV l=gV (l.drop i)) ?_ ?_
 ·(conv=>whnf);exact ⟨_,0,rfl,rfl,rfl,by omega,rfl⟩
 rintro m r h ⟨i,rfl,rfl,rfl,hi,hb⟩;(conv=>whnf);refine ⟨fun aG=>?_,fun aG=>?_⟩<;>simp at aG
 ·obtain ⟨c,hc⟩:=aF aG;rw [drop_cons hc,gV] at hb;(conv=>whnf);repeat (refine ix (by assumption) ?_;conv=>whnf)
  refine ⟨fun hq=>?_,fun hq=>?_⟩<;>simp at hq
  ·rw [if_pos hq] at hb;(conv=>whnf);exact ⟨by rw [hb],rfl⟩
  rw [if_neg (by simpa using hq)] at hb;(conv=>whnf);repeat (refine ⟨ag ⟨by omega,by omega⟩,?_⟩;conv=>whnf)
  exact ⟨_,by omega,i+1,rfl,rfl,rfl,by omega,hb⟩
 rw [drop_nil aG,gV] at hb;(conv=>whnf);exact ⟨by rw [hb],rfl⟩
structure az where
 kind:Int
 text:List UInt8
deriving DecidableEq
def aU (u:az):List AV:=[.int .i64 u.kind,.str u.text]
def lQ (a b:az):Int:=gV [ct a.kind b.kind,pX a.text b.text]
def c117:av:=⟨[0,1,2,3,4],[],[],[],[(1,[0,1,2,3,4,5,6,7,8,9,10,11,12],[])],[]⟩
theorem SE (a b:az):ab Tryz.prog 117 [.agg (aU a),.agg (aU b)] [] (.int .i64 (lQ a b)):=by
 refine aA (F:=Tryz.f117) c117 rfl rfl rfl mixed rfl fun X=>?_;(conv=>whnf);repeat ((first|refine aY (Co _ _) ?_|refine aY (B5 _ _) ?_|refine aY (Fs [ct a.kind b.kind,pX a.text b.text] (by simp [aq])) ?_|refine And.intro (by show aJ (aH Tryz.f117 _) _=true;decide +kernel) ?_);conv=>whnf)
 exact ⟨rfl,rfl⟩
def c75:av:=⟨[0,2,4],[5],[],[],[],[]⟩
def c76:av:=⟨[0,2,4],[5],[],[],[],[]⟩
theorem B6 {l:List Int} (h:l≠[]):ints l≠[]:=by simpa [ints] using h
def Em (k:Nat) (xs:List (List AV)) (v:AV) (h:af):Prop:=(xs=[]/\v=.aS/\h=[])\/∃ q,v=.sl k (some q) xs/\h=[(q,.tok)]
theorem LY (l:List Int) (hl:l.length<=aN):aw Tryz.prog 75 [.sl 1 none (ints l)] [] (Em 1 (ints l)):=by
 unfold aN at hl;by_cases h:l=[]
 ·subst h;refine aw.QM ?_ ?_
  ·refine aA (F:=Tryz.f75) c75 rfl rfl rfl mixed rfl fun X=>?_;(conv=>whnf);refine ⟨fun hc=>?_,fun hc=>?_⟩
   ·(conv=>whnf);exact .inl ⟨rfl,rfl,rfl⟩
   cases hc
  refine aA (F:=Tryz.f75) c75 rfl rfl rfl mixed rfl fun X=>?_;(conv=>whnf);refine ⟨fun hc=>?_,fun hc=>?_⟩
  ·cases hc
  (conv=>whnf);intro q;(conv=>whnf);refine ⟨by simp [aN],fun q'=>⟨_,.here _,?_⟩⟩;(conv=>whnf);exact .inr ⟨q',rfl,rfl⟩
 refine aA (F:=Tryz.f75) c75 rfl rfl rfl mixed rfl fun X=>?_;(conv=>whnf);refine ⟨B6 h,?_⟩;(conv=>whnf);refine ⟨fun hc=>?_,fun hc=>?_⟩
 ·cases hc
 (conv=>whnf);intro q;(conv=>whnf);refine ⟨by simp [aN];omega,fun q'=>⟨_,.here _,?_⟩⟩;(conv=>whnf);exact .inr ⟨q',rfl,rfl⟩
theorem Em.ok {f:FuncId} {vs:List AV} {k:Nat} {xs:List (List AV)} (hk:0<k) (h:aw Tryz.prog f vs [] (Em k xs)):ab Tryz.prog f vs [] (.sl k none xs):=by
 refine ab.of (aw.mono ?_ h);rintro v h' (⟨rfl,rfl,rfl⟩|⟨q,rfl,rfl⟩)
 ·exact aa.nil hk
 exact aa.sl
theorem LZ (l:List Int) (hl:l.length<=aN):ab Tryz.prog 75 [.sl 1 none (ints l)] [] (.sl 1 none (ints l)):=Em.ok (by decide) (LY l hl)
theorem B7 {α β:Type} {f:α->β} {l:List α} (h:l≠[]):l.map f≠[]:=by simpa using h
theorem B8 (l:List az) (hl:l.length<=aN):ab Tryz.prog 76 [.sl 2 none (l.map aU)] [] (.sl 2 none (l.map aU)):=by
 refine Em.ok (by decide) ?_;unfold aN at hl;by_cases h:l=[]
 ·subst h;refine aw.QM ?_ ?_
  ·refine aA (F:=Tryz.f76) c76 rfl rfl rfl mixed rfl fun X=>?_;(conv=>whnf);refine ⟨fun hc=>?_,fun hc=>?_⟩
   ·(conv=>whnf);exact .inl ⟨rfl,rfl,rfl⟩
   cases hc
  refine aA (F:=Tryz.f76) c76 rfl rfl rfl mixed rfl fun X=>?_;(conv=>whnf);refine ⟨fun hc=>?_,fun hc=>?_⟩
  ·cases hc
  (conv=>whnf);intro q;(conv=>whnf);refine ⟨by simp [aN],fun q'=>⟨_,.here _,?_⟩⟩;(conv=>whnf);exact .inr ⟨q',rfl,rfl⟩
 refine aA (F:=Tryz.f76) c76 rfl rfl rfl mixed rfl fun X=>?_;(conv=>whnf);refine ⟨B7 h,?_⟩;(conv=>whnf);refine ⟨fun hc=>?_,fun hc=>?_⟩
 ·cases hc
 (conv=>whnf);intro q;(conv=>whnf);refine ⟨by simp [aN];omega,fun q'=>⟨_,.here _,?_⟩⟩;(conv=>whnf);exact .inr ⟨q',rfl,rfl⟩
theorem SF {l:List az}:∀ z∈l.map aU,z.length=2:=by intro z hz;obtain ⟨u,_,rfl⟩:=List.mem_map.1 hz;rfl
theorem B9 (b:Nat) (l:List az) (Z:List AV) (hl:l.length<=aN):ab Tryz.prog 76 [.aQ b 0 l.length 2] [(b,.vec ((l.map aU).flatten++Z))] (.sl 2 none (l.map aU)):=by
 refine aw.post (R:=fun v h'=>∃ q,v=.sl 2 (some q) (l.map aU)/\h'=(q,.tok)::[(b,.vec ((l.map aU).flatten++Z))]) ?_ ?_
 ·refine aA (F:=Tryz.f76) c76 rfl rfl rfl mixed rfl fun X=>?_;(conv=>whnf);refine ⟨fun hc=>?_,fun hc=>?_⟩
  ·cases hc
  (conv=>whnf);intro q;(conv=>whnf);have cY:((l.map aU).flatten).length=l.length*2:=(by rw [lx SF,List.length_map]);refine ⟨_,l.map aU,.tail _ (.head _),⟨by rw [List.drop_zero,List.take_append_of_le_length (by omega),List.take_of_length_le (by omega)],SF,by simp⟩,by simp only [List.nil_append,List.length_map];exact hl,fun q'=>⟨_,.here _,?_⟩⟩;(conv=>whnf);exact ⟨q',rfl,rfl⟩
 rintro v h1 ⟨q,rfl,rfl⟩;exact ⟨_,_,⟨rfl,rfl⟩,aa.sl,fun k o hm=>List.mem_cons_of_mem _ hm,fun ew=>(List.nodup_cons.1 ew).2⟩
theorem Ma:pg Tryz.prog 117=true:=by decide +kernel
def sU (a b:az):Bool:=decide (a.kind=b.kind)&&(decide (a.text=b.text)&&true)
theorem yS (a b:az):sU a b=decide (a=b):=by obtain ⟨a1,a2⟩:=a;obtain ⟨b1,b2⟩:=b;unfold sU;rw [Bool.eq_iff_iff];simp
end Go.Abs.Wall
namespace Go.Abs.Wall
open Go Go.Abs Go.Proofs
def pz {α:Type} (cmp:α->α->Int) (l:List α):List α:=l.mergeSort fun a b=>!decide (cmp b a<0)
structure Hi {α:Type} (cmp:α->α->Int):Prop where
 ua:∀ x,¬ cmp x x<0
 tr:∀ x y z,cmp x y<0->cmp y z<0->cmp x z<0
 nt:∀ x y z,¬ cmp x y<0->¬ cmp y z<0->¬ cmp x z<0
 yy:∀ x y,¬ cmp x y<0->¬ cmp y x<0->x=y
structure pb {α:Type} (cmp:α->α->Int):Prop where
 ua:∀ x,¬ cmp x x<0
 tr:∀ x y z,cmp x y<0->cmp y z<0->cmp x z<0
 nt:∀ x y z,¬ cmp x y<0->¬ cmp y z<0->¬ cmp x z<0
theorem Hi.w {α:Type} {cmp:α->α->Int} (h:Hi cmp):pb cmp:=⟨h.ua,h.tr,h.nt⟩
theorem Hj {α:Type} {cmp:α->α->Int} {l:List α}:(pz cmp l).Perm l:=List.mergeSort_perm _ _
theorem pb.sorted {α:Type} {cmp:α->α->Int} (h:pb cmp) (l:List α):(pz cmp l).Pairwise fun x y=>¬ cmp y x<0:=by
 have:=List.pairwise_mergeSort (le:=fun a b=>!decide (cmp b a<0)) (by
  intro a b c h1 h2;simp only [Bool.not_eq_true',decide_eq_false_iff_not] at h1 h2 ⊢;exact h.nt c b a h2 h1) (by
  intro a b;simp only [Bool.or_eq_true,Bool.not_eq_true',decide_eq_false_iff_not];by_cases hc:cmp b a<0
  ·exact .inr fun h2=>h.ua _ (h.tr _ _ _ hc h2)
  exact .inl hc) l
 refine List.Pairwise.imp ?_ this;intro a b Df;simpa using Df
theorem pb.unique {α:Type} {cmp:α->α->Int} (h:pb cmp) {l l':List α} (ha:∀ x∈l,∀ y∈l,¬ cmp x y<0->¬ cmp y x<0->x=y) (hp:l'.Perm l) (hs:l'.Pairwise fun x y=>¬ cmp y x<0):l'=pz cmp l:=
 List.Perm.eq_of_pairwise (le:=fun x y=>¬ cmp y x<0) (fun a b h3 h4 h1 h2=>ha a (hp.mem_iff.1 h3) b (Hj.mem_iff.1 h4) h2 h1) hs (h.sorted l) (hp.trans Hj.symm)
theorem sJ {α:Type} {cmp:α->α->Int} {l:List α}:(pz cmp l).length=l.length:=Hj.length_eq
theorem Jn {α:Type} {cmp:α->α->Int} {l:List α} {a:α}:a∈pz cmp l↔a∈l:=Hj.mem_iff
section
variable {f g k:Nat} {α:Type} {enc:α->List AV} {dec:List AV->α}
theorem SG (iJ:0<k) (hf:tP Tryz.prog f) (hg:tP Tryz.prog g) (hs:Bq Tryz.prog f g k) (cmp:α->α->Int) (hd:∀ a,dec (enc a)=a) (hk:∀ a,(enc a).length=k) (ho:pb cmp) (xs:List α) (ha:∀ x∈xs,∀ y∈xs,¬ cmp x y<0->¬ cmp y x<0->x=y) (aM:xs≠[]) (jR:xs.length<=4294967296)
  (zP:∀ x∈xs,∀ y∈xs,ab Tryz.prog g [.agg (enc x),.agg (enc y)] [] (.int .i64 (cmp x y))) (b:Nat) :
  aw Tryz.prog f [.aQ b 0 xs.length k,.fn g []] [(b,.vec (xs.map enc).flatten)] (fun v h'=>v=.aB []/\h'=[(b,.vec ((pz cmp xs).map enc).flatten)]):=by
 have hinv:∀ x∈xs.map enc,enc (dec x)=x:=by intro x hx;obtain ⟨a,_,rfl⟩:=List.mem_map.1 hx;rw [hd]
 have h1:=k9 iJ hf hg hs (fun x y=>cmp (dec x) (dec y)) (xs.map enc) (by
   intro x hx;obtain ⟨a,_,rfl⟩:=List.mem_map.1 hx;exact hk a) (by simpa using aM) (by simpa using jR) (by
   intro x hx y hy;obtain ⟨a,ha,rfl⟩:=List.mem_map.1 hx;obtain ⟨c,hc,rfl⟩:=List.mem_map.1 hy;rw [hd,hd];exact zP a ha c hc) (fun x _=>ho.ua _) (fun x _ y _ z _=>ho.tr _ _ _) (fun x _ y _ z _=>ho.nt _ _ _) b
 rw [List.length_map] at h1;refine aw.mono ?_ h1;rintro v h' ⟨rfl,ys,rfl,hp,hy⟩;refine ⟨rfl,?_⟩;have kV:ys=(ys.map dec).map enc:=by rw [List.map_map];symm;refine (List.map_congr_left fun y hy=>?_).trans (List.map_id _);exact hinv y (hp.mem_iff.1 hy)
 have rP:(ys.map dec).Perm xs:=by have:=hp.map dec;rw [List.map_map] at this;refine this.trans (List.Perm.of_eq ?_);refine (List.map_congr_left fun a _=>?_).trans (List.map_id _);exact hd a
 have mN:(ys.map dec).Pairwise fun x y=>¬ cmp y x<0:=by rw [List.pairwise_map];exact hy
 rw [ho.unique ha rP mN] at kV;rw [kV]
theorem C0 (iJ:0<k) (hf:tP Tryz.prog f) (hg:tP Tryz.prog g) (hs:Bq Tryz.prog f g k) (cmp:α->α->Int) (hd:∀ a,dec (enc a)=a) (hk:∀ a,(enc a).length=k) (ho:Hi cmp) (xs:List α) (aM:xs≠[]) (jR:xs.length<=4294967296)
  (zP:∀ x∈xs,∀ y∈xs,ab Tryz.prog g [.agg (enc x),.agg (enc y)] [] (.int .i64 (cmp x y))) (b:Nat) :
  aw Tryz.prog f [.aQ b 0 xs.length k,.fn g []] [(b,.vec (xs.map enc).flatten)] (fun v h'=>v=.aB []/\h'=[(b,.vec ((pz cmp xs).map enc).flatten)]):=
 SG iJ hf hg hs cmp hd hk ho.w xs (fun x _ y _=>ho.yy x y) aM jR zP b
end
theorem xQ {a b:Int}:ct a b<0↔a<b:=by unfold ct;split<;>(try split)<;>omega
theorem sn {a b:Int}:ct a b=0↔a=b:=by unfold ct;split<;>(try split)<;>omega
theorem Eo {a b:List UInt8}:pX a b<0↔a<b:=by
 unfold pX;by_cases h:a<b
 ·simp [h]
 rw [if_neg h];split<;>simp [h]
theorem C1 {a b:List UInt8}:pX a b=0↔a=b:=by
 unfold pX;by_cases h:a<b
 ·rw [if_pos h];exact ⟨fun h=>(by cases h),fun e=>(by subst e;exact absurd h (List.lt_irrefl _))⟩
 rw [if_neg h];split<;>simp_all
structure kH {α:Type} (c:α->α->Int):Prop where
 zero:∀ x y,c x y=0↔x=y
 vF:∀ x y,c x y<0↔0<c y x
 tr:∀ x y z,c x y<0->c y z<0->c x z<0
theorem kH.c {α:Type} {c:α->α->Int} (h:kH c):Hi c:=by
 have hn:∀ x y,¬ c x y<0->x=y\/c y x<0:=by
  intro x y hh;by_cases hz:c x y=0
  ·exact .inl ((h.zero _ _).1 hz)
  exact .inr ((h.vF y x).2 (by omega))
 have hi:∀ x,¬ c x x<0:=fun x=>by have:=(h.zero x x).2 rfl;omega
 refine ⟨hi,h.tr,fun x y z a b=>?_,fun x y a b=>?_⟩
 ·rcases hn _ _ a with rfl|a
  ·exact b
  rcases hn _ _ b with rfl|b
  ·intro hh;exact hi _ (h.tr _ _ _ a hh)
  intro hh;exact hi _ (h.tr _ _ _ (h.tr _ _ _ b a) hh)
 rcases hn _ _ a with rfl|a
 ·rfl
 exact absurd a b
def mu {β γ:Type} (c1:β->β->Int) (c2:γ->γ->Int) (a b:β × γ):Int:=if c1 a.1 b.1≠0 then c1 a.1 b.1 else c2 a.2 b.2
theorem kH.mu {β γ:Type} {c1:β->β->Int} {c2:γ->γ->Int} (h1:kH c1) (h2:kH c2):kH (Wall.mu c1 c2):=by
 have aP:∀ a b,Wall.mu c1 c2 a b<0↔c1 a.1 b.1<0\/(a.1=b.1/\c2 a.2 b.2<0):=by
  intro a b;unfold Wall.mu;split
  ·rename_i h;have:a.1≠b.1:=fun e=>h ((h1.zero _ _).2 e);simp [this]
  rename_i h;have e0:c1 a.1 b.1=0:=(by simpa using h);have e:a.1=b.1:=(h1.zero _ _).1 e0;simp [e] at *;omega
 have C4:∀ a b,0<Wall.mu c1 c2 a b↔0<c1 a.1 b.1\/(a.1=b.1/\0<c2 a.2 b.2):=by
  intro a b;unfold Wall.mu;split
  ·rename_i h;have:a.1≠b.1:=fun e=>h ((h1.zero _ _).2 e);simp [this]
  rename_i h;have e0:c1 a.1 b.1=0:=(by simpa using h);have e:a.1=b.1:=(h1.zero _ _).1 e0;simp [e] at *;omega
 refine ⟨fun a b=>?_,fun a b=>?_,fun a b d x y=>?_⟩
 ·unfold Wall.mu;split
  ·rename_i h;exact ⟨fun e=>absurd e h,fun e=>by subst e;exact absurd ((h1.zero _ _).2 rfl) h⟩
  rename_i h;have e:a.1=b.1:=(h1.zero _ _).1 (by simpa using h);rw [h2.zero];exact ⟨fun e2=>Prod.ext e e2,fun e2=>by rw [e2]⟩
 ·rw [aP,C4,h1.vF,h2.vF];constructor
  ·rintro (h|⟨h,h'⟩)
   ·exact .inl h
   exact .inr ⟨h.symm,h'⟩
  rintro (h|⟨h,h'⟩)
  ·exact .inl h
  exact .inr ⟨h.symm,h'⟩
 rw [aP] at x y ⊢;rcases x with x|⟨ex,x⟩<;>rcases y with y|⟨ey,y⟩
 ·exact .inl (h1.tr _ _ _ x y)
 ·exact .inl (by rw [<- ey];exact x)
 ·exact .inl (by rw [ex];exact y)
 exact .inr ⟨ex.trans ey,h2.tr _ _ _ x y⟩
theorem kH.of {α β:Type} {c:β->β->Int} (h:kH c) (f:α->β) (hf:∀ a b,f a=f b->a=b):kH fun a b=>c (f a) (f b):=
 ⟨fun a b=>by rw [h.zero];exact ⟨hf a b,fun e=>by rw [e]⟩,fun a b=>h.vF _ _,fun a b d=>h.tr _ _ _⟩
def cE {α:Type} (c:α->α->Int):List α->List α->Int
 | [],[]=>0
 | [],_::_=>-1
 | _::_,[]=>1
 | a::s,b::t=>if c a b≠0 then c a b else cE c s t
theorem kH.cE {α:Type} {c:α->α->Int} (h:kH c):kH (Wall.cE c):=by
 have hz:∀ x y,Wall.cE c x y=0↔x=y:=by
  intro x;induction x with
  | nil=>intro y;cases y<;>simp [Wall.cE]
  | cons a s ih=>
    intro y;cases y with
    | nil=>simp [Wall.cE]
    | cons b t=>
      unfold Wall.cE;split
      ·rename_i hn;exact ⟨fun e=>absurd e hn,fun e=>by cases e;exact absurd ((h.zero _ _).2 rfl) hn⟩
      rename_i hn;have e:a=b:=(h.zero _ _).1 (by simpa using hn);rw [ih];simp [e]
 have hs:∀ x y,Wall.cE c x y<0↔0<Wall.cE c y x:=by
  intro x;induction x with
  | nil=>intro y;cases y<;>simp [Wall.cE]
  | cons a s ih=>
    intro y;cases y with
    | nil=>simp [Wall.cE]
    | cons b t=>
      unfold Wall.cE;have SH:c a b=0↔c b a=0:=by rw [h.zero,h.zero];exact ⟨Eq.symm,Eq.symm⟩
      by_cases hn:c a b=0
      ·rw [if_neg (by simpa using hn),if_neg (by simpa using SH.1 hn)];exact ih t
      rw [if_pos hn,if_pos (fun e=>hn (SH.2 e))];exact h.vF _ _
 refine ⟨hz,hs,?_⟩;intro x;induction x with
 | nil=>
   intro y z h1 h2;cases y with
   | nil=>simp [Wall.cE] at h1
   | cons b t=>cases z with
     | nil=>simp [Wall.cE] at h2
     | cons d u=>simp [Wall.cE]
 | cons a s ih=>
   intro y z h1 h2;cases y with
   | nil=>simp [Wall.cE] at h1
   | cons b t=>cases z with
     | nil=>simp [Wall.cE] at h2
     | cons d u=>
       unfold Wall.cE at h1 h2 ⊢;have RK:∀ x,¬ c x x<0:=fun x=>by have:=(h.zero x x).2 rfl;omega
       by_cases e1:c a b=0
       ·have C5:=(h.zero _ _).1 e1;subst C5;rw [if_neg (by simpa using e1)] at h1;by_cases e2:c a d=0
        ·rw [if_neg (by simpa using e2)] at h2 ⊢;exact ih t u h1 h2
        rw [if_pos e2] at h2 ⊢;exact h2
       rw [if_pos e1] at h1;by_cases e2:c b d=0
       ·have C6:=(h.zero _ _).1 e2;subst C6;rw [if_pos e1];exact h1
       rw [if_pos e2] at h2;have h3:=h.tr _ _ _ h1 h2;rw [if_pos (by omega)];exact h3
theorem zI:kH ct:=⟨fun _ _=>sn,fun x y=>by unfold ct;split<;>(try split)<;>(try split)<;>omega,fun x y z=>by rw [xQ,xQ,xQ];omega⟩
theorem zS:kH pX:=⟨fun _ _=>C1,fun x y=>by
  rw [Eo];unfold pX;by_cases h:y<x
  ·rw [if_pos h];exact ⟨fun h2=>absurd (List.lt_trans h h2) (List.lt_irrefl _),fun h2=>by omega⟩
  rw [if_neg h];by_cases e:y=x
  ·rw [if_pos e,e];exact ⟨fun h2=>absurd h2 (List.lt_irrefl _),fun h2=>by omega⟩
  rw [if_neg e];refine ⟨fun _=>by omega,fun _=>?_⟩;refine Classical.byContradiction fun hx=>?_;rw [List.not_lt] at h hx;exact e (List.le_antisymm hx h),
 fun x y z=>by rw [Eo,Eo,Eo];exact List.lt_trans⟩
theorem Hk (x y:Int):gV [x,y]=if x≠0 then x else y:=by
 simp only [gV];split
 ·rfl
 split
 ·rfl
 omega
theorem zU:kH lQ:=by
 have h:=(kH.mu zI zS).of (fun u:az=>(u.kind,u.text)) (fun a b h=>by cases a;cases b;simp_all);have he:lQ=fun a b=>mu ct pX (a.kind,a.text) (b.kind,b.text):=by funext a b;exact Hk _ _
 rw [he];exact h
def Hl:List AV->az
 | [.int _ k,.str t]=>⟨k,t⟩
 | _=>⟨0,[]⟩
def xR (l:List az):List az:=pz lQ l
theorem C7:Bq Tryz.prog 116 117 2:=
 RV Tryz.ZY 2 117 Tryz.isAgg117 Tryz.sizeOf117 (fun args w=>EM ⟨Tryz.f117,_,rfl,rfl,rfl⟩)
def c116:av:=⟨[0,1,4],[],[],[],[],[]⟩
def c157:av:=⟨[0,1,2,3,4,10,11,12,13,14,15,16,17,18,19,20,25,32,39,56,75,80,97,125],[],[],[],[(17,[0,1,2,3,4,5,6,7,8,9,10,11,12,13,14,15,16],[])],[]⟩
def c121:av:=⟨[0,2],[],[],[],[],[]⟩
def c171:av:=⟨[0,2,4,8,14],[],[],[],[],[]⟩
def c196:av:=⟨[0,1,2,3,8,9,14,34],[],[],[],[(4,[0,1,2,3,4,5,6,7,8,9,10,11,12,13,14,15,16],[]),(6,[0,1,2,3,4,5,6,7,8,9,10,11,12,13,14,15,16,17],[])],[]⟩
theorem C8:ab Tryz.prog 171 [.int .u64 0] [] (.int .i64 0):=by
 refine aA (F:=Tryz.f171) c171 rfl rfl rfl mixed rfl fun X=>?_;(conv=>whnf);refine cF rfl ?_;(conv=>whnf);refine cF rfl ?_;(conv=>whnf);refine cF rfl ?_;(conv=>whnf);repeat ((first|(refine ⟨0,0,ag ⟨rfl,rfl⟩,?_⟩)|(refine ⟨ag ⟨by decide,by decide⟩,?_⟩));conv=>whnf)
 exact ⟨rfl,rfl⟩
theorem bitsLen:ab Tryz.prog 121 [.int .u64 0] [] (.int .i64 0):=by
 refine aA (F:=Tryz.f121) c121 rfl rfl rfl mixed rfl fun X=>?_;(conv=>whnf);refine cF rfl ?_;(conv=>whnf);repeat (refine ab.k0 (C8) ?_;conv=>whnf)
 exact ⟨rfl,rfl⟩
theorem C9 (c:FuncId):ab Tryz.prog 196 [.aS,.int .i64 0,.int .i64 0,.fn c []] [] (.aB []):=by
 refine aA (F:=Tryz.f196) c196 rfl rfl rfl mixed rfl fun X=>?_;(conv=>whnf);repeat (refine ⟨ag ⟨by omega,by omega⟩,?_⟩;conv=>whnf)
 refine bS rfl mixed [0,1,2,3,8] [] (fun m r h=>r=[(0,[],.aS),(1,[],.int .i64 0),(2,[],.int .i64 0),(3,[],.fn c []),(8,[],.int .i64 1)]/\h=[]/\m=0/\True) ?_ ?_
 ·(conv=>whnf);exact ⟨_,rfl,rfl,rfl,trivial⟩
 rintro m r h ⟨rfl,rfl,rfl,_⟩;(conv=>whnf);refine cF rfl ?_;(conv=>whnf);exact ⟨rfl,rfl⟩
theorem D0 (c:FuncId):ab Tryz.prog 157 [.aS,.int .i64 0,.int .i64 0,.int .i64 0,.fn c []] [] (.aB []):=by
 refine aA (F:=Tryz.f157) c157 rfl rfl rfl mixed rfl fun X=>?_;(conv=>whnf);skip;refine bS rfl mixed [0,1,2,3,4,10,11] [] (fun m r h=>r=[(0,[],.aS),(1,[],.int .i64 0),(2,[],.int .i64 0),(3,[],.int .i64 0),(4,[],.fn c []),(10,[],.bool true),(11,[],.bool true)]/\h=[]/\m=0/\True) ?_ ?_
 ·(conv=>whnf);exact ⟨_,rfl,rfl,rfl,trivial⟩
 rintro m r h ⟨rfl,rfl,rfl,_⟩;(conv=>whnf);repeat (refine ⟨ag ⟨by omega,by omega⟩,?_⟩;conv=>whnf)
 refine cT rfl ?_;(conv=>whnf);repeat (refine ab.k0 (C9 c) ?_;conv=>whnf)
 exact ⟨rfl,rfl⟩
theorem D1 (c:FuncId):ab Tryz.prog 116 [.gu,.fn c []] [] (.aB []):=by
 refine ab.args (zx:=[.aS,.fn c []]) ?_ (.cons (by intro c u h;simpa [ae] using h) (.cons (aa.refl _) .nil));refine aA (F:=Tryz.f116) c116 rfl rfl rfl mixed rfl fun X=>?_;(conv=>whnf);repeat ((first|refine ab.k0 (bitsLen) ?_|refine ab.k0 (D0 c) ?_);conv=>whnf)
 exact ⟨rfl,rfl⟩
theorem D2 (b:Nat) (xs:List az) (aM:xs≠[]) (jR:xs.length<=4294967296) :
  aw Tryz.prog 116 [.aQ b 0 xs.length 2,.fn 117 []] [(b,.vec (xs.map aU).flatten)] (fun v h'=>v=.aB []/\h'=[(b,.vec ((xR xs).map aU).flatten)]):=
 C0 (by decide) ⟨Tryz.f116,_,rfl,rfl,rfl⟩ ⟨Tryz.f117,_,rfl,rfl,rfl⟩ C7 lQ (dec:=Hl) (fun a=>rfl) (fun a=>rfl) zU.c xs aM jR (fun x _ y _=>SE x y) b
end Go.Abs.Wall
namespace Go.Abs.Wall
open Go Go.Abs Go.Proofs
structure zY where
 spell:Int
 De:Int
 cV:Int
 cls:Int
 oW:Int
structure aD where
 list:Lst
 lex:Lex
 cC:zY
 period:Int
def SI (c:zY):List AV:=[.int .i64 c.spell,.int .i64 c.De,.int .i64 c.cV,.int .i64 c.cls,.int .i64 c.oW]
def aZ (H:aD):List AV:=pU H.list++(fo H.lex++(SI H.cC++[.int .i64 H.period]))
structure dx (H:aD):Prop where
 list:zR H.list
 lex:rT H.lex
def iq (c:zY):List Int:=[c.spell,c.De,c.cV,c.cls,c.oW]
def fA (H:aD):Int:=
 if ln H.list≠0 then ln H.list
 else if js H.lex≠0 then js H.lex
 else if (iq H.cC).all (bL · 0 1000)=false then 50
 else if bL H.period 1 H.list.iO=false then 13
 else 0
def c33:av:=⟨[0,1,2,3,4,6,11,17,34,35,36,37,42,50],[],[],[],[],[]⟩
theorem Ka (H:aD) (hh:dx H):ab Tryz.prog 33 [.agg (aZ H)] [] (.int .i64 (fA H)):=by
 refine aA (F:=Tryz.f33) c33 rfl rfl rfl mixed rfl fun X=>?_;(conv=>whnf);repeat (refine ab.k0 (w7 H.list hh.list) ?_;conv=>whnf)
 refine ⟨fun hc=>?_,fun hc=>?_⟩<;>simp at hc
 ·(conv=>whnf);exact ⟨by rw [fA,if_pos hc],rfl⟩
 (conv=>whnf);repeat (refine ab.k0 (Sx H.lex hh.lex) ?_;conv=>whnf)
 refine ⟨fun hd=>?_,fun hd=>?_⟩<;>simp at hd
 ·(conv=>whnf);exact ⟨by rw [fA,if_neg (by omega),if_pos hd],rfl⟩
 have h0:fA H=if (iq H.cC).all (bL · 0 1000)=false then 50 else if bL H.period 1 H.list.iO=false then 13 else 0:=(by rw [fA,if_neg (by omega),if_neg (by omega)]);(conv=>whnf);skip;refine bS rfl mixed [1,34,35,36] [] (fun m r h=>∃ (i:Nat),r=[(1,[],.ai (aZ H)),(34,[],.sl 1 none (ints (iq H.cC))),(35,[],.int .i64 5),(36,[],.int .i64 i)]/\h=[]/\m=5 - i/\i<=5/\(iq H.cC).all (bL · 0 1000)=((iq H.cC).drop i).all (bL · 0 1000)) ?_ ?_
 ·(conv=>whnf);exact ⟨_,0,rfl,rfl,rfl,by omega,rfl⟩
 rintro m r h' ⟨i,rfl,rfl,rfl,hi,hb⟩;(conv=>whnf);refine ⟨fun aG=>?_,fun aG=>?_⟩<;>simp at aG
 ·obtain ⟨c,hc⟩:=aF (l:=iq H.cC) (i:=i) (by show i<5;omega);rw [drop_cons hc,List.all_cons] at hb;(conv=>whnf);repeat ((first|refine ix (by assumption) ?_|refine ab.k0 (within _ _ _) ?_);conv=>whnf)
  refine ⟨fun hq=>?_,fun hq=>?_⟩
  ·have hq:(!bL c 0 1000)=true:=hq;rw [Bool.not_eq_true'] at hq;rw [hq,Bool.false_and] at hb;(conv=>whnf);exact ⟨by rw [h0,if_pos hb],rfl⟩
  have hq:(!bL c 0 1000)=false:=hq;rw [Bool.not_eq_false'] at hq;rw [hq,Bool.true_and] at hb;(conv=>whnf);repeat (refine ⟨ag ⟨by omega,by omega⟩,?_⟩;conv=>whnf)
  exact ⟨_,by omega,i+1,rfl,rfl,rfl,by omega,hb⟩
 rw [drop_nil (by show 5<=i;omega),List.all_nil] at hb;(conv=>whnf);repeat (refine ab.k0 (within _ _ _) ?_;conv=>whnf)
 refine ⟨fun hq=>?_,fun hq=>?_⟩
 ·have hq:(!bL H.period 1 H.list.iO)=true:=hq;rw [Bool.not_eq_true'] at hq;(conv=>whnf);exact ⟨by rw [h0,if_neg (by rw [hb];decide),if_pos hq],rfl⟩
 have hq:(!bL H.period 1 H.list.iO)=false:=hq;rw [Bool.not_eq_false'] at hq;(conv=>whnf);exact ⟨by rw [h0,if_neg (by rw [hb];decide),if_neg (by rw [hq];decide)],rfl⟩
def gN (H:aD) (line:List Int):Int:=
 if fA H≠0 then fA H
 else if 60<line.length then 2
 else if line.any (fun s=>!bL s 0 ((H.list.aK.length:Int) - 1))=true then 23
 else 0
def c37:av:=⟨[0,1,2,4,5,9,13,16],[],[],[],[],[]⟩
def c70:av:=⟨[0,1,3],[],[],[],[],[]⟩
theorem D3 (H:aD) (hh:dx H) (s:Int):ab Tryz.prog 70 [.int .i64 s,.ai (aZ H)] [] (.bool (!bL s 0 ((H.list.aK.length:Int) - 1))):=by
 have h1:=hh.list.aK;unfold aq at h1;refine aA (F:=Tryz.f70) c70 rfl rfl rfl mixed rfl fun X=>?_;(conv=>whnf);repeat ((first|refine ab.k0 (within _ _ _) ?_|(refine ⟨ag ⟨by rw [List.length_map];omega,by rw [List.length_map];omega⟩,?_⟩));conv=>whnf)
 refine ⟨?_,rfl⟩;rw [List.length_map];rfl
theorem Nv (H:aD) (line:List Int) (hh:dx H) (hl:line.length<=aq):ab Tryz.prog 37 [.agg (aZ H),.sl 1 none (ints line)] [] (.int .i64 (gN H line)):=by
 refine aA (F:=Tryz.f37) c37 rfl rfl rfl mixed rfl fun X=>?_;(conv=>whnf);repeat (refine ab.k0 (Ka H hh) ?_;conv=>whnf)
 refine ⟨fun hc=>?_,fun hc=>?_⟩<;>simp at hc
 ·(conv=>whnf);exact ⟨by rw [gN,if_pos hc],rfl⟩
 (conv=>whnf);refine ⟨fun hd=>?_,fun hd=>?_⟩<;>simp at hd
 ·(conv=>whnf);exact ⟨by rw [gN,if_neg (by omega),if_pos (by omega)],rfl⟩
 (conv=>whnf);repeat (refine ab.k0 (v8 line hl 70 [.ai (aZ H)] (fun s=>!bL s 0 ((H.list.aK.length:Int) - 1)) (fun s _=>D3 H hh s)) ?_;conv=>whnf)
 refine ⟨fun he=>?_,fun he=>?_⟩
 ·(conv=>whnf);exact ⟨by rw [gN,if_neg (by omega),if_neg (by omega),if_pos he],rfl⟩
 (conv=>whnf);exact ⟨by rw [gN,if_neg (by omega),if_neg (by omega),if_neg (by rw [he];decide)],rfl⟩
def jY (v:de):List az:=
 if v.kind=1 then [⟨1,v.text⟩,⟨3,v.text⟩]
 else if v.kind=2 then [⟨2,v.text⟩]
 else if v.kind=3 then [⟨4,v.text⟩]
 else []
def jS (p:Int):List de->List az
 | []=>[]
 | v::t=>(if bL p v.fr v.to then jY v else [])++jS p t
def rh (p:Int) (s:eN):List az:=xR (jS p s.values)
theorem SJ (v:de):(jY v).length<=2:=by unfold jY;split<;>(try split)<;>(try split)<;>simp
theorem Hm (p:Int):∀ l:List de,(jS p l).length<=2*l.length
 | []=>by simp [jS]
 | v::t=>by
   have h1:=Hm p t;have h2:=SJ v;unfold jS;rw [List.length_append,List.length_cons];split
   ·omega
   simp;omega
theorem SK (p:Int) (v:de):∀ l:List de,jS p (l++[v])=jS p l++(if bL p v.fr v.to then jY v else [])
 | []=>by simp [jS]
 | a::t=>by have:=SK p v t;simp only [List.cons_append,jS,this,List.append_assoc]
def Row {α:Type} (k:Nat) (enc:α->List AV) (L:List α) (v:AV) (hp:af):Prop:=(L=[]/\v=.gu/\hp=[])\/(L≠[]/\∃ b,v=.aQ b 0 L.length k/\hp=[(b,.vec (L.map enc).flatten)])
theorem wD:aa .aS .gu:=by intro c u h;simpa [ae] using h
theorem D4 {k:Nat} (hk:0<k):aa .gu (.sl k none []):=by intro c u h;simp only [ae] at h;exact aa.nil hk c u (by simpa [ae] using h)
theorem qq {α:Type} {k:Nat} {enc:α->List AV} {L:List α} (hk:∀ a,(enc a).length=k):((L.map enc).flatten).length=L.length*k:=by rw [lx (k:=k) (by intro x hx;obtain ⟨a,_,rfl⟩:=List.mem_map.1 hx;exact hk a),List.length_map]
theorem Ry {α:Type} {b k n:Nat} {enc:α->List AV} {L:List α} (hk:∀ a,(enc a).length=k) (hn:L.length=n):jf b (L.map enc).flatten (.aQ b 0 n k) (.sl k none (L.map enc)):=
 jf.row (pre:=[]) (post:=[]) (zq:=[]) (by simp) rfl (by simpa using hn) (by intro x hx;obtain ⟨a,_,rfl⟩:=List.mem_map.1 hx;exact hk a)
theorem Row.ok {α:Type} {f:FuncId} {vs:List AV} {k:Nat} {enc:α->List AV} {L:List α} (iJ:0<k) (hk:∀ a,(enc a).length=k)
  (h:aw Tryz.prog f vs [] (fun v h'=>∃ hp Z,Row k enc L v hp/\h'=hp++Z)):ab Tryz.prog f vs [] (.sl k none (L.map enc)):=by
 refine ab.of (aw.Gl h ?_);rintro v h1 ⟨hp,Z,⟨rfl,rfl,rfl⟩|⟨_,b,rfl,rfl⟩,rfl⟩
 ·exact .inl (D4 iJ)
 exact .inr ⟨b,_,Z,Z,_,.here _,jd.refl _,Ry hk rfl,aa.refl _⟩
def c71:av:=⟨[0,1,2,4,6,13,14,15,16,26,28,29,40,48],[],[6],[],[],[]⟩
def c59:av:=⟨[0,1,2,4,5,6,10,19],[],[],[],[],[]⟩
theorem D5 (H:aD) (n:Int) (s:eN) (h0:0<=n) (hs:H.list.aK[n.toNat]?=some s) (hv:s.values.length<=1048576) :
  aw Tryz.prog 71 [.agg (aZ H),.int .i64 n] [] (fun v h'=>∃ hp Z,Row 2 aU (rh H.period s) v hp/\h'=hp++Z):=by
 refine aA (F:=Tryz.f71) c71 rfl rfl rfl mixed rfl fun X=>?_;(conv=>whnf);repeat ((refine cp n.toNat (by omega) hs ?_);conv=>whnf)
 refine bD rfl mixed [2,4,13,14,15] [] (fun m r h=>∃ (i:Nat) (v:AV) (hp:af),r=[(2,[],.ai (aZ H)),(4,[],v),(13,[],.sl 4 none (s.values.map fY)),(14,[],.int .i64 (s.values.map fY).length),(15,[],.int .i64 i)]/\h=hp/\m=s.values.length - i/\i<=s.values.length/\Row 2 aU (jS H.period (s.values.take i)) v hp) ?_ ?_
 ·(conv=>whnf);exact ⟨_,_,ah.nD (.cons (aa.refl _) (.cons wD (gT.refl _))),_,0,_,_,rfl,rfl,rfl,by omega,.inl ⟨rfl,rfl,rfl⟩⟩
 rintro m r h' ⟨i,v,hp,rfl,rfl,rfl,hi,hr⟩;(conv=>whnf);refine ⟨fun aG=>?_,fun aG=>?_⟩<;>simp at aG
 ·obtain ⟨x,hx⟩:=aF aG;have ej:=SK H.period x (s.values.take i);rw [<- cN hx] at ej;have Ep:(jS H.period (s.values.take i)).length+2<=aN:=by have:=Hm H.period (s.values.take i);rw [List.length_take] at this;unfold aN;omega
  (conv=>whnf);repeat ((first|refine ix (by assumption) ?_|refine ab.k0 (within _ _ _) ?_|refine ⟨_,_,bj.here _,⟨Nat.le_of_ble_eq_true rfl,rfl⟩,?_⟩|intro (nb:Nat));conv=>whnf)
  refine ⟨fun hq=>?_,fun hq=>?_⟩
  ·have hq:(!bL H.period x.fr x.to)=true:=hq;rw [Bool.not_eq_true'] at hq;rw [hq] at ej;simp only [Bool.false_eq_true,if_false,List.append_nil] at ej;(conv=>whnf);repeat (refine ⟨ag ⟨by omega,by omega⟩,?_⟩;conv=>whnf)
   exact ⟨_,_,ah.refl _ _,_,by omega,i+1,_,_,rfl,rfl,rfl,by omega,by rw [ej];exact hr⟩
  have hq:(!bL H.period x.fr x.to)=false:=hq;rw [Bool.not_eq_false'] at hq;rw [hq,if_pos rfl,jY] at ej;(conv=>whnf);refine ⟨fun hk=>?_,fun hk=>?_⟩<;>simp only [decide_eq_true_eq,decide_eq_false_iff_not] at hk
  ·rw [if_pos hk] at ej;rcases hr with ⟨he,rfl,rfl⟩|⟨aM,b,rfl,rfl⟩
   ·(conv=>whnf);repeat ((first|refine ⟨ag ⟨by omega,by omega⟩,?_⟩|(refine ⟨⟨Nat.le_of_ble_eq_true rfl,Nat.le_of_ble_eq_true rfl⟩,fun b'=>?_⟩));conv=>whnf)
    refine ⟨_,_,ah.refl _ _,_,by omega,i+1,_,_,rfl,rfl,rfl,by omega,?_⟩;rw [ej,he];exact .inr ⟨by simp,b',rfl,rfl⟩
   (conv=>whnf);repeat ((first|refine ⟨ag ⟨by omega,by omega⟩,?_⟩|(refine ⟨_,.head _,⟨qq (fun _=>rfl),Nat.le_trans (Nat.add_le_add_left (Nat.le_of_ble_eq_true rfl) _) Ep⟩,fun b'=>⟨_,.here _,?_⟩⟩));conv=>whnf)
   refine ⟨_,_,ah.refl _ _,_,by omega,i+1,_,_,rfl,rfl,rfl,by omega,?_⟩;rw [ej];refine .inr ⟨by simp,b',?_,?_⟩
   ·rw [List.length_append];rfl
   rw [List.map_append,List.flatten_append];rfl
  rw [if_neg hk] at ej;(conv=>whnf);refine ⟨fun bg=>?_,fun bg=>?_⟩<;>simp only [decide_eq_true_eq,decide_eq_false_iff_not] at bg
  ·rw [if_pos bg] at ej;rcases hr with ⟨he,rfl,rfl⟩|⟨aM,b,rfl,rfl⟩
   ·(conv=>whnf);repeat ((first|refine ⟨ag ⟨by omega,by omega⟩,?_⟩|(refine ⟨⟨Nat.le_of_ble_eq_true rfl,Nat.le_of_ble_eq_true rfl⟩,fun b'=>?_⟩));conv=>whnf)
    refine ⟨_,_,ah.refl _ _,_,by omega,i+1,_,_,rfl,rfl,rfl,by omega,?_⟩;rw [ej,he];exact .inr ⟨by simp,b',rfl,rfl⟩
   (conv=>whnf);repeat ((first|refine ⟨ag ⟨by omega,by omega⟩,?_⟩|(refine ⟨_,.head _,⟨qq (fun _=>rfl),Nat.le_trans (Nat.add_le_add_left (Nat.le_of_ble_eq_true rfl) _) Ep⟩,fun b'=>⟨_,.here _,?_⟩⟩));conv=>whnf)
   refine ⟨_,_,ah.refl _ _,_,by omega,i+1,_,_,rfl,rfl,rfl,by omega,?_⟩;rw [ej];refine .inr ⟨by simp,b',?_,?_⟩
   ·rw [List.length_append];rfl
   rw [List.map_append,List.flatten_append];rfl
  rw [if_neg bg] at ej;(conv=>whnf);refine ⟨fun jT=>?_,fun jT=>?_⟩<;>simp only [decide_eq_true_eq,decide_eq_false_iff_not] at jT
  ·rw [if_pos jT] at ej;rcases hr with ⟨he,rfl,rfl⟩|⟨aM,b,rfl,rfl⟩
   ·(conv=>whnf);repeat ((first|refine ⟨ag ⟨by omega,by omega⟩,?_⟩|(refine ⟨⟨Nat.le_of_ble_eq_true rfl,Nat.le_of_ble_eq_true rfl⟩,fun b'=>?_⟩));conv=>whnf)
    refine ⟨_,_,ah.refl _ _,_,by omega,i+1,_,_,rfl,rfl,rfl,by omega,?_⟩;rw [ej,he];exact .inr ⟨by simp,b',rfl,rfl⟩
   (conv=>whnf);repeat ((first|refine ⟨ag ⟨by omega,by omega⟩,?_⟩|(refine ⟨_,.head _,⟨qq (fun _=>rfl),Nat.le_trans (Nat.add_le_add_left (Nat.le_of_ble_eq_true rfl) _) Ep⟩,fun b'=>⟨_,.here _,?_⟩⟩));conv=>whnf)
   refine ⟨_,_,ah.refl _ _,_,by omega,i+1,_,_,rfl,rfl,rfl,by omega,?_⟩;rw [ej];refine .inr ⟨by simp,b',?_,?_⟩
   ·rw [List.length_append];rfl
   rw [List.map_append,List.flatten_append];rfl
  rw [if_neg jT,List.append_nil] at ej;(conv=>whnf);repeat (refine ⟨ag ⟨by omega,by omega⟩,?_⟩;conv=>whnf)
  exact ⟨_,_,ah.refl _ _,_,by omega,i+1,_,_,rfl,rfl,rfl,by omega,by rw [ej];exact hr⟩
 rw [List.take_of_length_le aG] at hr;have Ep:(jS H.period s.values).length<=4294967296:=by have:=Hm H.period s.values;omega
 rcases hr with ⟨he,rfl,rfl⟩|⟨aM,b,rfl,rfl⟩
 ·(conv=>whnf);repeat (refine ab.k0 (D1 _) ?_;conv=>whnf)
  exact ⟨[],[],.inl ⟨by unfold rh;rw [he];simp [xR,pz],rfl,rfl⟩,rfl⟩
 (conv=>whnf);skip;refine aw.mono ?_ (D2 b _ aM Ep);rintro v h1 ⟨rfl,rfl⟩;(conv=>whnf);skip;exact ⟨_,[],.inr ⟨by intro h;have:=congrArg List.length h;rw [rh,xR,sJ] at this;exact aM (List.eq_nil_of_length_eq_zero this),b,by rw [rh,xR,sJ],rfl⟩,by rw [List.append_nil];rfl⟩
theorem SL (H:aD) (n:Int) (s:eN) (h0:0<=n) (hs:H.list.aK[n.toNat]?=some s) (hv:s.values.length<=1048576) :
  ab Tryz.prog 71 [.agg (aZ H),.int .i64 n] [] (.sl 2 none ((rh H.period s).map aU)):=Row.ok (by decide) (fun _=>rfl) (D5 H n s h0 hs hv)
end Go.Abs.Wall
namespace Go.Abs.Wall
open Go Go.Abs Go.Proofs
structure Sp where
 H:aD
 e:kM
 body:List UInt8
structure bU where
 bX:List UInt8
 closed:Bool
 cl:List Int
 last:az
deriving DecidableEq
def ri (s:Sp):List AV:=aZ s.H++(fi s.e++[.str s.body])
def jZ (p:bU):List AV:=[.str p.bX,.int .i64 0,.bool p.closed,.sl 1 none (ints p.cl),.int .i64 p.last.kind,.str p.last.text]
def dQ (s:Sp) (cl:List Int):List UInt8:=s.body++ku s.H.lex cl
structure lW (s:Sp):Prop where
 lex:pW s.H.lex
 body:1<=s.body.length/\s.body.length<=12
 root:s.e.root.length<=s.body.length
structure kL (s:Sp) (p:bU):Prop where
 bB:p.cl.length<=3
 eh:∀ c∈p.cl,0<=c/\c<s.H.lex.ao.length
 bX:p.bX.length<=(dQ s p.cl).length
 new:p.last.kind=0->p.cl=[]/\p.bX=[]
theorem lW.dQ {s:Sp} (h:lW s) {cl:List Int} (hc:∀ c∈cl,0<=c/\c<s.H.lex.ao.length):(Wall.dQ s cl).length<=12+4*cl.length:=by have h1:=h.body;have h2:=Gi h.lex hc;unfold Wall.dQ;rw [List.length_append];omega
theorem Bz (s:Sp) (cl:List Int) (c:Int):dQ s (cl++[c])=dQ s cl++(cS s.H.lex c).text:=by unfold dQ;rw [PJ,List.append_assoc]
def c74:av:=⟨[0,1,3,4,5,7,14,15,16,17],[],[],[],[],[]⟩
def c159:av:=⟨[0,1,3,4,5,7,11,25,26,27,28],[],[],[],[(2,[0,1,2,3,4,5,6,7,8],[])],[]⟩
theorem SM (s:Sp) (p:bU) (hs:lW s) (hp:kL s p):ab Tryz.prog 74 [.ai (ri s),.agg (jZ p)] [] (.bool (decide (p.bX.length=(dQ s p.cl).length))):=by
 have hb:=hs.body;have dG:=hp.bB;refine aA (F:=Tryz.f74) c74 rfl rfl rfl mixed rfl fun X=>?_;(conv=>whnf);refine bS rfl mixed [0,3,5,14,15,16] [] (fun m r h=>∃ (i:Nat) (n:Int),r=[(0,[],.ai (ri s)),(3,[],.ai (jZ p)),(5,[],.int .i64 n),(14,[],.sl 1 none (ints p.cl)),(15,[],.int .i64 (ints p.cl).length),(16,[],.int .i64 i)]/\h=[]/\m=p.cl.length - i/\i<=p.cl.length/\n=(dQ s (p.cl.take i)).length) ?_ ?_
 ·(conv=>whnf);exact ⟨_,0,_,rfl,rfl,rfl,by omega,by simp [dQ,ku]⟩
 rintro m r h' ⟨i,n,rfl,rfl,rfl,hi,hn⟩;(conv=>whnf);refine ⟨fun aG=>?_,fun aG=>?_⟩<;>simp at aG
 ·obtain ⟨c,hc⟩:=aF aG;have bJ:=hp.eh c (List.mem_of_getElem? hc);have dH:=lP (hs.lex.cS bJ.1 bJ.2).text;have hb:=hs.dQ (cl:=p.cl.take i) fun d hd=>hp.eh d (List.mem_of_mem_take hd);rw [List.length_take] at hb;have ly:=cN hc;(conv=>whnf);repeat ((first|refine ⟨ag ⟨by omega,by omega⟩,?_⟩|refine ix (by assumption) ?_|(refine cp c.toNat (by omega) (kz bJ.1 bJ.2) ?_));conv=>whnf)
  exact ⟨_,by omega,i+1,_,rfl,rfl,rfl,by omega,by rw [ly,Bz,List.length_append,hn];omega⟩
 rw [List.take_of_length_le aG] at hn;(conv=>whnf);refine ⟨congrArg AV.bool ?_,rfl⟩;rw [hn,decide_eq_decide];omega
theorem D6 (s:Sp) (p:bU) (hs:lW s) (hp:kL s p):ab Tryz.prog 159 [.ai (ri s),.agg (jZ p)] [] (.str ((dQ s p.cl).drop p.bX.length)):=by
 have hb:=hs.body;have dG:=hp.bB;have ej:=hp.bX;refine aA (F:=Tryz.f159) c159 rfl rfl rfl mixed rfl fun X=>?_;(conv=>whnf);refine ⟨fun hc=>?_,fun hc=>?_⟩<;>simp at hc
 ·have ht:dQ s p.cl=s.body:=by rw [hc];simp [dQ,ku]
  rw [ht] at ej ⊢;(conv=>whnf);repeat ((first|refine ⟨ag ⟨by omega,by omega⟩,?_⟩|refine And.intro (by show aJ (aH Tryz.f159 _) _=true;decide +kernel) ?_);conv=>whnf)
  refine ⟨congrArg AV.str ?_,rfl⟩;rw [List.take_of_length_le (by omega)];rfl
 (conv=>whnf);skip;refine bS rfl mixed [0,3,5,25,26,27] [] (fun m r h=>∃ (i:Nat) (t:List UInt8),r=[(0,[],.ai (ri s)),(3,[],.ai (jZ p)),(5,[],.str t),(25,[],.sl 1 none (ints p.cl)),(26,[],.int .i64 (ints p.cl).length),(27,[],.int .i64 i)]/\h=[]/\m=p.cl.length - i/\i<=p.cl.length/\t=dQ s (p.cl.take i)) ?_ ?_
 ·(conv=>whnf);exact ⟨_,0,_,rfl,rfl,rfl,by omega,by simp [dQ,ku]⟩
 rintro m r h' ⟨i,t,rfl,rfl,rfl,hi,hn⟩;(conv=>whnf);refine ⟨fun aG=>?_,fun aG=>?_⟩<;>simp at aG
 ·obtain ⟨c,hc⟩:=aF aG;have bJ:=hp.eh c (List.mem_of_getElem? hc);have dH:=lP (hs.lex.cS bJ.1 bJ.2).text;have hb:=hs.dQ (cl:=p.cl.take i) fun d hd=>hp.eh d (List.mem_of_mem_take hd);rw [List.length_take] at hb;have ly:=cN hc;have hl:(t++(cS s.H.lex c).text).length<=aq:=by rw [hn];simp [aq];omega
  (conv=>whnf);repeat ((first|refine ⟨ag ⟨by omega,by omega⟩,?_⟩|refine ix (by assumption) ?_|(refine cp c.toNat (by omega) (kz bJ.1 bJ.2) ?_)|(refine ⟨ag hl,?_⟩));conv=>whnf)
  exact ⟨_,by omega,i+1,_,rfl,rfl,rfl,by omega,by rw [ly,Bz,hn]⟩
 rw [List.take_of_length_le aG] at hn;subst hn;(conv=>whnf);repeat (refine ⟨ag ⟨by omega,by omega⟩,?_⟩;conv=>whnf)
 refine ⟨congrArg AV.str ?_,rfl⟩;rw [List.take_of_length_le (by omega)];rfl
end Go.Abs.Wall
