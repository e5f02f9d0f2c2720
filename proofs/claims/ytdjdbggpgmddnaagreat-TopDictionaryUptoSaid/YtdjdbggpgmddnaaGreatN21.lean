/- Small laws for the walks and contracts of functions; each theorem names its conditions. -/
import Derived.Test.YtdjdbggpgmddnaaGreatN20
import Derived.Test.YtdjdbggpgmddnaaGreatN11
import Derived.Laws.Externs
set_option maxRecDepth 100000
set_option maxHeartbeats 2000000
set_option linter.unusedVariables false
set_option linter.unusedSimpArgs false
namespace Go.Abs.Wall.Dic
open Go Go.Abs Go.Proofs Go.Abs.Wall
def LC:Value:=.iface 116 (.agg #[])
def RD (rb:Nat) (s:List UInt8) (a:Nat):Nat × Ob:=(rb,.vec [.val LC,.str s,.int .i64 a])
def wr (n:Int):Value:=.iface 121 (.agg #[.int .i64 n])
def byteAt (s:List UInt8) (a:Nat):Int:=if a=s.length then 0 else ((s.getD a 0).toNat:Int)
theorem byteAt_in {s:List UInt8} {a:Nat}:0<=byteAt s a/\byteAt s a<=255:=by
 unfold byteAt;split
 ·omega
 have:=(s.getD a 0).toNat_lt;omega
theorem strAt {s:List UInt8} {a:Nat} (h:decide ((a:Int)<(s.length:Int))=true):s[a]?=some (s.getD a 0):=by have h:(a:Int)<s.length:=(by simpa using h);rw [List.getD_eq_getElem?_getD,List.getElem?_eq_getElem (by omega)];rfl
def Bad (rb:Nat) (s:List UInt8) (v:Value) (h:Heap):Prop:=∃ n a,v=wr n/\IntKind.i64.has n/\a<=s.length/\h=[RD rb s a]
def c214:Cfg:=⟨[0,2,12],[],[],[],[(1,[0,1,2,3,4,5,6,7,8,9],[]),(3,[0,1,2,3,4,5,6,7,8,9],[])],[]⟩
def c209:Cfg:=⟨[0,1,4,27],[],[],[],[(1,[0,1,2,3,4,5,6,7,8,9,10,11,12,13,14,15,16,17,18,19,20,21,22],[])],[]⟩
def c47:Cfg:=⟨[0],[],[],[],[(0,[],[])],[]⟩
def c211:Cfg:=⟨[0,1,7],[],[],[],[(1,[],[])],[]⟩
def c219:Cfg:=⟨[0,1,2,6,7,17],[],[],[],[(3,[],[])],[]⟩
theorem nextW (rb:Nat) (s:List UInt8) (a:Nat) (ha:a<=s.length) (hs:s.length<=65536):QCall Tryz.prog 214 [.optr rb 0] [RD rb s a] (.int .u8 (byteAt s a)):=by
 refine fcalls (F:=Tryz.f214) c214 rfl rfl rfl mixed rfl fun X=>?_;(conv=>whnf);unfold RD;repeat ((first|refine ⟨_,_,.head _,rfl,?_⟩|refine And.intro (by show drawOK (opsAt Tryz.f214 _) _=true;decide +kernel) ?_);conv=>whnf)
 refine ⟨fun h1=>?_,fun h1=>?_⟩<;>simp at h1
 ·(conv=>whnf);skip;exact ⟨by rw [byteAt,if_pos (by omega)],rfl⟩
 obtain ⟨y,hy⟩:∃ y,s[a]?=some y:=⟨_,List.getElem?_eq_getElem (by omega)⟩;(conv=>whnf);repeat ((first|refine sx (by assumption) ?_|refine ⟨_,_,.head _,rfl,?_⟩|refine And.intro (by show drawOK (opsAt Tryz.f214 _) _=true;decide +kernel) ?_);conv=>whnf)
 exact ⟨by rw [byteAt,if_neg (by omega),List.getD_eq_getElem?_getD,hy];rfl,rfl⟩
theorem isW (rb:Nat) (s:List UInt8) (a:Nat) (c:Int) (ha:a<=s.length) (hs:s.length<=65536) :
  ACalls Tryz.prog 209 [.optr rb 0,.int .u8 c] [RD rb s a] (fun v h'=>(v=.bool true/\a<s.length/\h'=[RD rb s (a+1)])\/(v=.bool false/\h'=[RD rb s a])):=by
 refine fcalls (F:=Tryz.f209) c209 rfl rfl rfl mixed rfl fun X=>?_;(conv=>whnf);unfold RD;repeat ((first|(refine ⟨a,s.getD a 0,(fun hg=>⟨rfl,strAt hg⟩),?_⟩)|refine ⟨_,_,.head _,rfl,?_⟩|refine And.intro (by show drawOK (opsAt Tryz.f209 _) _=true;decide +kernel) ?_);conv=>whnf)
 refine ⟨fun h1=>?_,fun h1=>?_⟩
 ·have h2:a<s.length:=by
   rw [Bool.and_eq_true] at h1;simpa using h1.1
  (conv=>whnf);repeat ((first|refine ⟨gP_of ⟨by omega,by omega⟩,?_⟩|(refine ⟨_,_,.here _,⟨Nat.le_of_ble_eq_true rfl,Nat.le_of_ble_eq_true rfl⟩,?_⟩)|refine ⟨_,_,.head _,rfl,?_⟩);conv=>whnf)
  exact .inl ⟨rfl,h2,rfl⟩
 (conv=>whnf);skip;exact .inr ⟨rfl,rfl⟩
def keepA (n:Nat):Cfg:={ c47 with keep:=List.range n }
theorem failW (rb:Nat) (s:List UInt8) (a:Nat) (ha:a<=s.length) (hs:s.length<=65536) (R:AV->Heap->Prop):PCalls Tryz.prog 47 [.optr rb 0] [RD rb s a] R (Bad rb s):=by
 refine fpcalls (F:=Tryz.f47) c47 rfl rfl rfl mixed rfl fun X=>?_;(conv=>whnf);unfold RD;refine region_panic (c1:=keepA 8) rfl 5 rfl rfl rfl rfl rfl rfl (Nat.le_of_ble_eq_true rfl) rfl rfl rfl ?_;(conv=>whnf);repeat (refine ⟨_,_,.head _,rfl,?_⟩;conv=>whnf)
 refine ⟨a,rfl,?_⟩;(conv=>whnf);exact ⟨a,a,rfl,(⟨by omega,by omega⟩:-9223372036854775808<=(a:Int)/\(a:Int)<=9223372036854775807),ha,rfl⟩
theorem mustW (rb:Nat) (s:List UInt8) (a:Nat) (c:Int) (ha:a<=s.length) (hs:s.length<=65536) :
  PCalls Tryz.prog 211 [.optr rb 0,.int .u8 c] [RD rb s a] (fun v h'=>v=.tup []/\a<s.length/\h'=[RD rb s (a+1)]) (Bad rb s):=by
 refine fpcalls (F:=Tryz.f211) c211 rfl rfl rfl mixed rfl fun X=>?_;(conv=>whnf);repeat ((refine ACalls.mono ?_ (isW rb s a c ha hs));conv=>whnf)
 rintro v h' (⟨rfl,h1,rfl⟩|⟨rfl,rfl⟩)
 ·(conv=>whnf);skip;refine cF rfl ?_;(conv=>whnf);skip;exact ⟨rfl,h1,rfl⟩
 (conv=>whnf);skip;refine cT rfl ?_;(conv=>whnf);skip;refine region_pcall (c1:=keepA 10) (c2:=keepA 10) rfl 1 rfl rfl rfl rfl ?_;(conv=>whnf);skip;refine ⟨_,rfl,(failW rb s a ha hs _).mono (fun _ _ h=>h) fun v h' hS=>?_⟩;(conv=>whnf);exact hS
theorem digitW (rb:Nat) (s:List UInt8) (a:Nat) (lo hi:Int) (ha:a<=s.length) (hs:s.length<=65536) (hlo:48<=lo) (hhi:hi<=57) :
  PCalls Tryz.prog 219 [.optr rb 0,.int .u8 lo,.int .u8 hi] [RD rb s a] (fun v h'=>∃ n:Int,v=.int .i64 n/\0<=n/\n<=9/\a<s.length/\h'=[RD rb s (a+1)]) (Bad rb s):=by
 have hb:=byteAt_in (s:=s) (a:=a);refine fpcalls (F:=Tryz.f219) c219 rfl rfl rfl mixed rfl fun X=>?_;(conv=>whnf);repeat ((refine QCall.k (nextW rb s a ha hs) ?_);conv=>whnf)
 refine ⟨fun h1=>?_,fun h1=>?_⟩
 ·(conv=>whnf);skip;refine region_pcall (c1:=keepA 30) (c2:=keepA 30) rfl 1 rfl rfl rfl rfl ?_;(conv=>whnf);skip;refine ⟨_,rfl,(failW rb s a ha hs (fun v h'=>False)).mono (fun _ _ h=>h.elim) fun v h' hS=>?_⟩;(conv=>whnf);exact hS
 simp at h1;have hal:a<s.length:=by refine Nat.lt_of_not_le fun hn=>?_;have:byteAt s a=0:=(by rw [byteAt,if_pos (by omega)]);omega
 have hw:IntKind.u8.wrap (byteAt s a - 48)=byteAt s a - 48:=by simp [IntKind.wrap,IntKind.signed,IntKind.bits];omega
 unfold RD;(conv=>whnf);repeat ((first|refine ⟨gP_of ⟨by omega,by omega⟩,?_⟩|refine ⟨_,_,.head _,rfl,?_⟩|refine ⟨_,_,.here _,leOK,?_⟩);conv=>whnf)
 exact ⟨byteAt s a - 48,by rw [hw],by omega,by omega,hal,rfl⟩
end Go.Abs.Wall.Dic
namespace Go.Abs.Wall.Dic
open Go Go.Abs Go.Proofs Go.Abs.Wall
def idxB (s:List UInt8) (c:Int):Int:=firstIdx ⟨s.toArray⟩ c.toNat.toUInt8
theorem idxB_in {s:List UInt8} {c:Int}:-1<=idxB s c/\idxB s c<s.length:=by
 unfold idxB firstIdx;split
 ·rename_i i h;have:=List.mem_of_find?_eq_some h;rw [List.mem_range] at this;have h2:(ByteArray.mk s.toArray).size=s.length:=(by simp [ByteArray.size]);omega
 omega
theorem idxExt (s:List UInt8) (c:Int) (hs:s.length<=1048576):QCall Tryz.prog 222 [.str s,.int .u8 c] [] (.int .i64 (idxB s c)):=by
 refine ⟨fun X g w us hc hr=>.inr ?_⟩;simp only [RepVs] at hr;obtain ⟨u,r,hus,hx,u2,r2,e2,hx2,hr⟩:=hr;subst e2 hr;simp only [Rep] at hx hx2;obtain ⟨b,rfl,hb,_⟩:=hx;obtain ⟨rfl,_⟩:=hx2;have hU:us=#[.string b,.int .u8 c]:=(by rw [<- Array.toList_inj,hus]);subst hU
 have hb2:b=ByteArray.mk s.toArray:=by
  cases b
  simp only at hb;subst hb;simp
 subst hb2;have hi:=idxB_in (s:=s) (c:=c);refine ⟨.int .i64 (idxB s c),w,?_,_,_,g,[],rfl,⟨rfl,rfl⟩,hc,?_,Step.refl _ _ _ _⟩
 ·rw [run_callFunc_extern Tryz.func222 (by kernel_rfl) (by kernel_rfl) (by kernel_rfl) (e:=Extern.BytealgIndexByte.indexByte) (by kernel_rfl),run_indexByte_string];rfl
 simp only [Rep];refine ⟨trivial,?_⟩;exact (⟨by omega,by omega⟩:-9223372036854775808<=idxB s c/\idxB s c<=9223372036854775807)
def c221:Cfg:=⟨[0,1,4],[],[],[],[],[]⟩
def c220:Cfg:=⟨[0,1,4],[],[],[],[],[]⟩
def c218:Cfg:=⟨[0,2,3,4,5,6,20,37,69,87,95,97,103,116],[],[2],[],[(6,[0,1,2,3,4,5,6,7],[]),(10,[0,1,2,3,4,5,6,7,8,9,10,11,12],[]),(4,[],[]),(13,[],[]),(15,[],[])],[]⟩
theorem idxLite (s:List UInt8) (c:Int) (hs:s.length<=1048576):QCall Tryz.prog 221 [.str s,.int .u8 c] [] (.int .i64 (idxB s c)):=by
 refine fcalls (F:=Tryz.f221) c221 rfl rfl rfl mixed rfl fun X=>?_;(conv=>whnf);repeat (refine QCall.k0 (idxExt s c hs) ?_;conv=>whnf)
 exact ⟨rfl,rfl⟩
theorem idxW (s:List UInt8) (c:Int) (hs:s.length<=1048576):QCall Tryz.prog 220 [.str s,.int .u8 c] [] (.int .i64 (idxB s c)):=by
 refine fcalls (F:=Tryz.f220) c220 rfl rfl rfl mixed rfl fun X=>?_;(conv=>whnf);repeat (refine QCall.k0 (idxLite s c hs) ?_;conv=>whnf)
 exact ⟨rfl,rfl⟩
structure Nod where
 kind:Int
 depth:Int
 sign:Int
 turn:Int
 mir:Bool
 state:Int
 min:Int
 max:Int
def encNod (n:Nod):List AV:=[.int .i64 n.kind,.int .i64 n.depth,.int .i64 n.sign,.int .i64 n.turn,.bool n.mir,.int .i64 n.state,.int .i64 n.min,.int .i64 n.max]
inductive Itm where
 | mk (nd:Nod) (code:List UInt8) (at':Int) (kids:List Itm)
def itmC (nd:Nod) (code:List UInt8) (a:Int) (k:AV):List AV:=encNod nd++[.str code,.int .i64 a,k]
theorem isB (rb:Nat) (s:List UInt8) (a:Nat) (c:Int) (ha:a<=s.length) (hs:s.length<=65536) (h2:Heap) {K:AV->Heap->Prop}
  (hk:∀ m b,a<=b->b<=s.length->(m=true->a<b)->K (.bool m) (h2++[RD rb s b])) :
  ACalls Tryz.prog 209 [.optr rb 0,.int .u8 c] (h2++[RD rb s a]) K:=by
 refine ACalls.mono ?_ ((isW rb s a c ha hs).under h2);rintro v h' ⟨h1,(⟨rfl,h3,rfl⟩|⟨rfl,rfl⟩),rfl⟩
 ·exact hk true (a+1) (by omega) (by omega) fun _=>by omega
 exact hk false a (by omega) ha fun h=>by cases h
theorem glyphP (rb:Nat) (s:List UInt8) (a:Nat) (ha:a<=s.length) (hs:s.length<=65536) :
  PCalls Tryz.prog 218 [.optr rb 0] [RD rb s a] (fun v h'=>∃ nd code b o,v=.agg (itmC nd code a .nilS)/\code.length<=65536/\a<b/\b<=s.length/\h'=[o,RD rb s b]) (Bad rb s):=by
 have hb:=byteAt_in (s:=s) (a:=a);refine fpcalls (F:=Tryz.f218) c218 rfl rfl rfl mixed rfl fun X=>?_;(conv=>whnf);unfold RD;repeat ((first|refine ⟨_,_,.tail _ (.head _),rfl,?_⟩|refine ⟨_,_,.here _,leOK,?_⟩|intro (nb:Nat));conv=>whnf)
 rename_i n2;show ACalls _ _ [.optr rb 0] ((nb,.vec (itmC ⟨1,0,0,0,false,0,0,0⟩ [] a .nilS))::(n2,.vec (itmC ⟨0,0,0,0,false,0,0,0⟩ [] 0 .nilS))::[RD rb s a]) _;refine QCall.k ((nextW rb s a ha hs).more.more) ?_;(conv=>whnf);skip;refine ⟨fun h1=>?_,fun h1=>?_⟩
 ·(conv=>whnf);skip;refine region_pcall (c1:=keepA 119) (c2:=keepA 119) rfl 1 rfl rfl rfl rfl ?_;(conv=>whnf);skip;refine ⟨_,rfl,((failW rb s a ha hs (fun v h'=>False)).under [(nb,.vec (itmC ⟨1,0,0,0,false,0,0,0⟩ [] a .nilS)),(n2,.vec (itmC ⟨0,0,0,0,false,0,0,0⟩ [] 0 .nilS))]).mono (fun v h' h=>by obtain ⟨_,hh,_⟩:=h;exact hh.elim) fun v h' hS=>?_⟩;(conv=>whnf);exact hS
 simp at h1;have hal:a<s.length:=by refine Nat.lt_of_not_le fun hn=>?_;have:byteAt s a=0:=(by rw [byteAt,if_pos (by omega)]);omega
 unfold RD;(conv=>whnf);repeat ((first|refine ⟨gP_of ⟨by omega,by omega⟩,?_⟩|(refine ⟨_,_,.tail _ (.tail _ (.head _)),rfl,?_⟩)|(refine ⟨_,_,.there (.there (.here _)),⟨Nat.le_of_ble_eq_true rfl,Nat.le_of_ble_eq_true rfl⟩,?_⟩));conv=>whnf)
 refine sloop rfl mixed [0,2,3] [] (fun m r h=>∃ (b:Nat),r=[(0,[],.optr rb 0),(2,[],.optr n2 0),(3,[],.optr nb 0)]/\h=[(nb,.vec (itmC ⟨1,0,0,0,false,0,0,0⟩ [] a .nilS)),(n2,.vec (itmC ⟨0,0,0,0,false,0,0,0⟩ [] 0 .nilS)),RD rb s b]/\m=s.length - b/\a<b/\b<=s.length) ?_ ?_
 ·(conv=>whnf);exact ⟨_,a+1,rfl,rfl,rfl,by omega,by omega⟩
 rintro m r h ⟨b,rfl,rfl,rfl,hab,hbs⟩;have hbb:=byteAt_in (s:=s) (a:=b);unfold RD;(conv=>whnf);repeat ((first|refine ⟨gP_of ⟨by omega,by omega⟩,?_⟩|(refine ⟨_,_,.tail _ (.tail _ (.head _)),rfl,?_⟩)|refine ⟨_,_,.head _,rfl,?_⟩|refine And.intro (by show drawOK (opsAt Tryz.f218 _) _=true;decide +kernel) ?_);conv=>whnf)
 refine ⟨fun h2=>?_,fun h2=>?_⟩
 ·(conv=>whnf);repeat ((refine QCall.k ((nextW rb s b hbs hs).more.more) ?_);conv=>whnf)
  refine ⟨fun h3=>?_,fun h3=>?_⟩
  ·(conv=>whnf);repeat (refine And.intro (by show drawOK (opsAt Tryz.f218 _) _=true;decide +kernel) ?_;conv=>whnf)
   repeat ((first|refine ⟨gP_of ⟨by omega,by omega⟩,?_⟩|(refine ⟨_,_,.tail _ (.tail _ (.head _)),rfl,?_⟩)|(refine ⟨_,_,.here _,⟨Nat.le_of_ble_eq_true rfl,Nat.le_of_ble_eq_true rfl⟩,?_⟩)|refine ⟨_,_,.head _,rfl,?_⟩);conv=>whnf)
   show ACalls _ _ _ ([(nb,.vec (itmC ⟨1,0,0,0,false,0,0,0⟩ (List.drop a (List.take b s)) a .nilS)),(n2,.vec (itmC ⟨0,0,0,0,false,0,0,0⟩ [] 0 .nilS))]++[RD rb s b]) _;have hcd:(List.drop a (List.take b s)).length<=65536:=by rw [List.length_drop,List.length_take];omega
   generalize List.drop a (List.take b s)=cd at hcd ⊢;refine isB rb s b 92 hbs hs _ fun m1 b1 hb1 hb1s _=>?_;(conv=>whnf);repeat (refine ⟨_,_,.here _,leOK,?_⟩;conv=>whnf)
   show ACalls _ _ _ ([(nb,.vec (itmC ⟨1,0,0,0,m1,0,0,0⟩ cd a .nilS)),(n2,.vec (itmC ⟨0,0,0,0,false,0,0,0⟩ [] 0 .nilS))]++[RD rb s b1]) _;refine isB rb s b1 47 hb1s hs _ fun m2 b2 hb2 hb2s _=>?_;(conv=>whnf);skip;refine ⟨fun h4=>?_,fun h4=>?_⟩
   ·(conv=>whnf);skip;refine region_pcall (c1:=keepA 119) (c2:=keepA 119) rfl 1 rfl rfl rfl rfl ?_;(conv=>whnf);skip;refine ⟨_,rfl,((digitW rb s b2 49 51 hb2s hs (by omega) (by omega)).under [(nb,.vec (itmC ⟨1,0,0,0,m1,0,0,0⟩ cd a .nilS)),(n2,.vec (itmC ⟨0,0,0,0,false,0,0,0⟩ [] 0 .nilS))]).mono (fun v h' h=>?_) fun v h' hS=>?_⟩
    ·obtain ⟨h1,⟨n,rfl,hn0,hn9,hlt,rfl⟩,rfl⟩:=h;obtain ⟨b3,hb3⟩:∃ b3,b3=b2+1:=⟨_,rfl⟩;have hb3s:b3<=s.length:=(by omega);rw [<- hb3];unfold RD;(conv=>whnf);repeat ((first|(refine ⟨_,_,.tail _ (.tail _ (.head _)),rfl,?_⟩)|refine ⟨_,_,.here _,leOK,?_⟩);conv=>whnf)
     refine region_hand (c1:=keepA 119) (c2:=keepA 119) rfl 0 rfl rfl ?_;(conv=>whnf);refine ⟨_,hand_assert rfl rfl rfl,?_⟩;rintro v h' ⟨rfl,rfl⟩;(conv=>whnf);skip;refine cT rfl ?_;(conv=>whnf);repeat ((first|(refine QCall.k ((nextW rb s b3 hb3s hs).more.more) ?_)|(refine QCall.k0 (idxW _ _ (by simp)) ?_));conv=>whnf)
     refine ⟨fun h5=>?_,fun h5=>?_⟩
     ·have hix:-1<=idxB [35,61,33] (byteAt s b3)/\idxB [35,61,33] (byteAt s b3)<3:=idxB_in (s:=[35,61,33]) (c:=byteAt s b3);have hA:-9223372036854775808<=idxB [35,61,33] (byteAt s b3)+1/\idxB [35,61,33] (byteAt s b3)+1<=9223372036854775807:=⟨by omega,by omega⟩;have h3l:b3<s.length:=by refine Nat.lt_of_not_le fun hn=>?_;have hz:byteAt s b3=0:=(by rw [byteAt,if_pos (by omega)]);rw [hz] at h5;exact absurd h5 (by decide)
      (conv=>whnf);repeat ((first|refine ⟨gP_of ⟨by omega,by omega⟩,?_⟩|(refine ⟨_,_,.tail _ (.tail _ (.head _)),rfl,?_⟩)|(refine ⟨_,_,.there (.there (.here _)),⟨Nat.le_of_ble_eq_true rfl,Nat.le_of_ble_eq_true rfl⟩,?_⟩)|(refine ⟨gP_of hA,?_⟩)|(refine ⟨⟨Nat.le_of_ble_eq_true rfl,rfl⟩,?_⟩)|refine ⟨_,_,Rem.there (.here _),?_⟩|refine ⟨_,_,.head _,rfl,?_⟩|refine ⟨_,_,.here _,leOK,?_⟩);conv=>whnf)
      first|exact ⟨⟨1,0,0,n,m1,idxB [35,61,33] (byteAt s b3)+1,0,0⟩,cd,b3+1,_,rfl,hcd,by omega,by omega,rfl⟩|exact ⟨⟨1,0,0,0,m1,idxB [35,61,33] (byteAt s b3)+1,0,0⟩,cd,b3+1,_,rfl,hcd,by omega,by omega,rfl⟩
     (conv=>whnf);repeat ((first|(refine ⟨⟨Nat.le_of_ble_eq_true rfl,rfl⟩,?_⟩)|refine ⟨_,_,Rem.there (.here _),?_⟩|refine ⟨_,_,.head _,rfl,?_⟩);conv=>whnf)
     first|exact ⟨⟨1,0,0,n,m1,0,0,0⟩,cd,b3,_,rfl,hcd,by omega,by omega,rfl⟩|exact ⟨⟨1,0,0,0,m1,0,0,0⟩,cd,b3,_,rfl,hcd,by omega,by omega,rfl⟩
    (conv=>whnf);exact hS
   obtain ⟨b3,hb3⟩:∃ b3,b3=b2:=⟨_,rfl⟩;have hb3s:b3<=s.length:=(by omega);rw [<- hb3];unfold RD;(conv=>whnf);repeat ((refine ⟨_,_,.tail _ (.tail _ (.head _)),rfl,?_⟩);conv=>whnf)
   refine region_hand (c1:=keepA 119) (c2:=keepA 119) rfl 0 rfl rfl ?_;(conv=>whnf);refine ⟨_,hand_assert rfl rfl rfl,?_⟩;rintro v h' ⟨rfl,rfl⟩;(conv=>whnf);skip;refine cT rfl ?_;(conv=>whnf);repeat ((first|(refine QCall.k ((nextW rb s b3 hb3s hs).more.more) ?_)|(refine QCall.k0 (idxW _ _ (by simp)) ?_));conv=>whnf)
   refine ⟨fun h5=>?_,fun h5=>?_⟩
   ·have hix:-1<=idxB [35,61,33] (byteAt s b3)/\idxB [35,61,33] (byteAt s b3)<3:=idxB_in (s:=[35,61,33]) (c:=byteAt s b3);have hA:-9223372036854775808<=idxB [35,61,33] (byteAt s b3)+1/\idxB [35,61,33] (byteAt s b3)+1<=9223372036854775807:=⟨by omega,by omega⟩;have h3l:b3<s.length:=by refine Nat.lt_of_not_le fun hn=>?_;have hz:byteAt s b3=0:=(by rw [byteAt,if_pos (by omega)]);rw [hz] at h5;exact absurd h5 (by decide)
    (conv=>whnf);repeat ((first|refine ⟨gP_of ⟨by omega,by omega⟩,?_⟩|(refine ⟨_,_,.tail _ (.tail _ (.head _)),rfl,?_⟩)|(refine ⟨_,_,.there (.there (.here _)),⟨Nat.le_of_ble_eq_true rfl,Nat.le_of_ble_eq_true rfl⟩,?_⟩)|(refine ⟨gP_of hA,?_⟩)|(refine ⟨⟨Nat.le_of_ble_eq_true rfl,rfl⟩,?_⟩)|refine ⟨_,_,Rem.there (.here _),?_⟩|refine ⟨_,_,.head _,rfl,?_⟩|refine ⟨_,_,.here _,leOK,?_⟩);conv=>whnf)
    first|exact ⟨⟨1,0,0,n,m1,idxB [35,61,33] (byteAt s b3)+1,0,0⟩,cd,b3+1,_,rfl,hcd,by omega,by omega,rfl⟩|exact ⟨⟨1,0,0,0,m1,idxB [35,61,33] (byteAt s b3)+1,0,0⟩,cd,b3+1,_,rfl,hcd,by omega,by omega,rfl⟩
   (conv=>whnf);repeat ((first|(refine ⟨⟨Nat.le_of_ble_eq_true rfl,rfl⟩,?_⟩)|refine ⟨_,_,Rem.there (.here _),?_⟩|refine ⟨_,_,.head _,rfl,?_⟩);conv=>whnf)
   first|exact ⟨⟨1,0,0,n,m1,0,0,0⟩,cd,b3,_,rfl,hcd,by omega,by omega,rfl⟩|exact ⟨⟨1,0,0,0,m1,0,0,0⟩,cd,b3,_,rfl,hcd,by omega,by omega,rfl⟩
  have hbl:b<s.length:=by refine Nat.lt_of_not_le fun hn=>?_;have hz:byteAt s b=0:=(by rw [byteAt,if_pos (by omega)]);rw [hz] at h3;simp at h3
  (conv=>whnf);repeat ((first|refine ⟨gP_of ⟨by omega,by omega⟩,?_⟩|(refine ⟨_,_,.tail _ (.tail _ (.head _)),rfl,?_⟩)|(refine ⟨_,_,.there (.there (.here _)),⟨Nat.le_of_ble_eq_true rfl,Nat.le_of_ble_eq_true rfl⟩,?_⟩));conv=>whnf)
  exact ⟨_,by omega,b+1,rfl,rfl,rfl,by omega,by omega⟩
 (conv=>whnf);repeat (refine And.intro (by show drawOK (opsAt Tryz.f218 _) _=true;decide +kernel) ?_;conv=>whnf)
 repeat ((first|refine ⟨gP_of ⟨by omega,by omega⟩,?_⟩|(refine ⟨_,_,.tail _ (.tail _ (.head _)),rfl,?_⟩)|(refine ⟨_,_,.here _,⟨Nat.le_of_ble_eq_true rfl,Nat.le_of_ble_eq_true rfl⟩,?_⟩)|refine ⟨_,_,.head _,rfl,?_⟩);conv=>whnf)
 show ACalls _ _ _ ([(nb,.vec (itmC ⟨1,0,0,0,false,0,0,0⟩ (List.drop a (List.take b s)) a .nilS)),(n2,.vec (itmC ⟨0,0,0,0,false,0,0,0⟩ [] 0 .nilS))]++[RD rb s b]) _;have hcd:(List.drop a (List.take b s)).length<=65536:=by rw [List.length_drop,List.length_take];omega
 generalize List.drop a (List.take b s)=cd at hcd ⊢;refine isB rb s b 92 hbs hs _ fun m1 b1 hb1 hb1s _=>?_;(conv=>whnf);repeat (refine ⟨_,_,.here _,leOK,?_⟩;conv=>whnf)
 show ACalls _ _ _ ([(nb,.vec (itmC ⟨1,0,0,0,m1,0,0,0⟩ cd a .nilS)),(n2,.vec (itmC ⟨0,0,0,0,false,0,0,0⟩ [] 0 .nilS))]++[RD rb s b1]) _;refine isB rb s b1 47 hb1s hs _ fun m2 b2 hb2 hb2s _=>?_;(conv=>whnf);skip;refine ⟨fun h4=>?_,fun h4=>?_⟩
 ·(conv=>whnf);skip;refine region_pcall (c1:=keepA 119) (c2:=keepA 119) rfl 1 rfl rfl rfl rfl ?_;(conv=>whnf);skip;refine ⟨_,rfl,((digitW rb s b2 49 51 hb2s hs (by omega) (by omega)).under [(nb,.vec (itmC ⟨1,0,0,0,m1,0,0,0⟩ cd a .nilS)),(n2,.vec (itmC ⟨0,0,0,0,false,0,0,0⟩ [] 0 .nilS))]).mono (fun v h' h=>?_) fun v h' hS=>?_⟩
  ·obtain ⟨h1,⟨n,rfl,hn0,hn9,hlt,rfl⟩,rfl⟩:=h;obtain ⟨b3,hb3⟩:∃ b3,b3=b2+1:=⟨_,rfl⟩;have hb3s:b3<=s.length:=(by omega);rw [<- hb3];unfold RD;(conv=>whnf);repeat ((first|(refine ⟨_,_,.tail _ (.tail _ (.head _)),rfl,?_⟩)|refine ⟨_,_,.here _,leOK,?_⟩);conv=>whnf)
   refine region_hand (c1:=keepA 119) (c2:=keepA 119) rfl 0 rfl rfl ?_;(conv=>whnf);refine ⟨_,hand_assert rfl rfl rfl,?_⟩;rintro v h' ⟨rfl,rfl⟩;(conv=>whnf);skip;refine cT rfl ?_;(conv=>whnf);repeat ((first|(refine QCall.k ((nextW rb s b3 hb3s hs).more.more) ?_)|(refine QCall.k0 (idxW _ _ (by simp)) ?_));conv=>whnf)
   refine ⟨fun h5=>?_,fun h5=>?_⟩
   ·have hix:-1<=idxB [35,61,33] (byteAt s b3)/\idxB [35,61,33] (byteAt s b3)<3:=idxB_in (s:=[35,61,33]) (c:=byteAt s b3);have hA:-9223372036854775808<=idxB [35,61,33] (byteAt s b3)+1/\idxB [35,61,33] (byteAt s b3)+1<=9223372036854775807:=⟨by omega,by omega⟩;have h3l:b3<s.length:=by refine Nat.lt_of_not_le fun hn=>?_;have hz:byteAt s b3=0:=(by rw [byteAt,if_pos (by omega)]);rw [hz] at h5;exact absurd h5 (by decide)
    (conv=>whnf);repeat ((first|refine ⟨gP_of ⟨by omega,by omega⟩,?_⟩|(refine ⟨_,_,.tail _ (.tail _ (.head _)),rfl,?_⟩)|(refine ⟨_,_,.there (.there (.here _)),⟨Nat.le_of_ble_eq_true rfl,Nat.le_of_ble_eq_true rfl⟩,?_⟩)|(refine ⟨gP_of hA,?_⟩)|(refine ⟨⟨Nat.le_of_ble_eq_true rfl,rfl⟩,?_⟩)|refine ⟨_,_,Rem.there (.here _),?_⟩|refine ⟨_,_,.head _,rfl,?_⟩|refine ⟨_,_,.here _,leOK,?_⟩);conv=>whnf)
    first|exact ⟨⟨1,0,0,n,m1,idxB [35,61,33] (byteAt s b3)+1,0,0⟩,cd,b3+1,_,rfl,hcd,by omega,by omega,rfl⟩|exact ⟨⟨1,0,0,0,m1,idxB [35,61,33] (byteAt s b3)+1,0,0⟩,cd,b3+1,_,rfl,hcd,by omega,by omega,rfl⟩
   (conv=>whnf);repeat ((first|(refine ⟨⟨Nat.le_of_ble_eq_true rfl,rfl⟩,?_⟩)|refine ⟨_,_,Rem.there (.here _),?_⟩|refine ⟨_,_,.head _,rfl,?_⟩);conv=>whnf)
   first|exact ⟨⟨1,0,0,n,m1,0,0,0⟩,cd,b3,_,rfl,hcd,by omega,by omega,rfl⟩|exact ⟨⟨1,0,0,0,m1,0,0,0⟩,cd,b3,_,rfl,hcd,by omega,by omega,rfl⟩
  (conv=>whnf);exact hS
 obtain ⟨b3,hb3⟩:∃ b3,b3=b2:=⟨_,rfl⟩;have hb3s:b3<=s.length:=(by omega);rw [<- hb3];unfold RD;(conv=>whnf);repeat ((refine ⟨_,_,.tail _ (.tail _ (.head _)),rfl,?_⟩);conv=>whnf)
 refine region_hand (c1:=keepA 119) (c2:=keepA 119) rfl 0 rfl rfl ?_;(conv=>whnf);refine ⟨_,hand_assert rfl rfl rfl,?_⟩;rintro v h' ⟨rfl,rfl⟩;(conv=>whnf);skip;refine cT rfl ?_;(conv=>whnf);repeat ((first|(refine QCall.k ((nextW rb s b3 hb3s hs).more.more) ?_)|(refine QCall.k0 (idxW _ _ (by simp)) ?_));conv=>whnf)
 refine ⟨fun h5=>?_,fun h5=>?_⟩
 ·have hix:-1<=idxB [35,61,33] (byteAt s b3)/\idxB [35,61,33] (byteAt s b3)<3:=idxB_in (s:=[35,61,33]) (c:=byteAt s b3);have hA:-9223372036854775808<=idxB [35,61,33] (byteAt s b3)+1/\idxB [35,61,33] (byteAt s b3)+1<=9223372036854775807:=⟨by omega,by omega⟩;have h3l:b3<s.length:=by refine Nat.lt_of_not_le fun hn=>?_;have hz:byteAt s b3=0:=(by rw [byteAt,if_pos (by omega)]);rw [hz] at h5;exact absurd h5 (by decide)
  (conv=>whnf);repeat ((first|refine ⟨gP_of ⟨by omega,by omega⟩,?_⟩|(refine ⟨_,_,.tail _ (.tail _ (.head _)),rfl,?_⟩)|(refine ⟨_,_,.there (.there (.here _)),⟨Nat.le_of_ble_eq_true rfl,Nat.le_of_ble_eq_true rfl⟩,?_⟩)|(refine ⟨gP_of hA,?_⟩)|(refine ⟨⟨Nat.le_of_ble_eq_true rfl,rfl⟩,?_⟩)|refine ⟨_,_,Rem.there (.here _),?_⟩|refine ⟨_,_,.head _,rfl,?_⟩|refine ⟨_,_,.here _,leOK,?_⟩);conv=>whnf)
  first|exact ⟨⟨1,0,0,n,m1,idxB [35,61,33] (byteAt s b3)+1,0,0⟩,cd,b3+1,_,rfl,hcd,by omega,by omega,rfl⟩|exact ⟨⟨1,0,0,0,m1,idxB [35,61,33] (byteAt s b3)+1,0,0⟩,cd,b3+1,_,rfl,hcd,by omega,by omega,rfl⟩
 (conv=>whnf);repeat ((first|(refine ⟨⟨Nat.le_of_ble_eq_true rfl,rfl⟩,?_⟩)|refine ⟨_,_,Rem.there (.here _),?_⟩|refine ⟨_,_,.head _,rfl,?_⟩);conv=>whnf)
 first|exact ⟨⟨1,0,0,n,m1,0,0,0⟩,cd,b3,_,rfl,hcd,by omega,by omega,rfl⟩|exact ⟨⟨1,0,0,0,m1,0,0,0⟩,cd,b3,_,rfl,hcd,by omega,by omega,rfl⟩
theorem glyphW (rb:Nat) (s:List UInt8) (a:Nat) (ha:a<=s.length) (hs:s.length<=65536) :
  PCalls Tryz.prog 218 [.optr rb 0] [RD rb s a] (fun v h'=>∃ nd code b,v=.agg (itmC nd code a .nilS)/\code.length<=65536/\a<b/\b<=s.length/\h'=[RD rb s b]) (Bad rb s):=by
 refine (glyphP rb s a ha hs).post ?_ fun v h1 hS=>⟨h1,hS,fun _ _ hm=>hm,fun hn=>hn⟩;rintro v h1 ⟨nd,code,b,o,rfl,h2,h3,h4,rfl⟩;refine ⟨_,[RD rb s b],⟨nd,code,b,rfl,h2,h3,h4,rfl⟩,VLe.refl _,fun k o' hm=>List.mem_cons_of_mem _ hm,fun hn=>?_⟩;simp only [keys,List.map_cons,List.map_nil,List.nodup_cons] at hn ⊢;exact hn.2
end Go.Abs.Wall.Dic
namespace Go.Abs.Wall.Dic
open Go Go.Abs Go.Proofs Go.Abs.Wall
def c217:Cfg:=⟨[0,2,3,6],[],[],[],[(2,[],[]),(4,[],[]),(5,[],[]),(6,[],[]),(7,[],[])],[]⟩
def zN:Nod:=⟨0,0,0,0,false,0,0,0⟩
theorem leafP (rb:Nat) (s:List UInt8) (a:Nat) (ha:a<=s.length) (hs:s.length<=65536) :
  PCalls Tryz.prog 217 [.optr rb 0] [RD rb s a] (fun v h'=>∃ nd code n b os,v=.agg (itmC nd code n .nilS)/\code.length<=65536/\a<b/\b<=s.length/\h'=os++[RD rb s b]) (Bad rb s):=by
 refine fpcalls (F:=Tryz.f217) c217 rfl rfl rfl mixed rfl fun X=>?_;(conv=>whnf);unfold RD;repeat (intro (nb:Nat);conv=>whnf)
 show ACalls _ _ _ ([(nb,.vec (itmC zN [] 0 .nilS))]++[RD rb s a]) _;refine isB rb s a 123 ha hs _ fun m b hb hbs hm=>?_;(conv=>whnf);skip;refine ⟨fun h1=>?_,fun h1=>?_⟩
 ·(conv=>whnf);skip;refine region_pcall (c1:=keepA 24) (c2:=keepA 24) rfl 1 rfl rfl rfl rfl ?_;(conv=>whnf);skip;refine ⟨_,rfl,((glyphW rb s b hbs hs).under [(nb,.vec (itmC zN [] 0 .nilS))]).mono (fun v h' h=>?_) fun v h' hS=>?_⟩
  ·obtain ⟨h1',⟨nd,code,b',rfl,hcl,hbb,hbl,rfl⟩,rfl⟩:=h;(conv=>whnf);repeat ((first|(refine ⟨_,_,.here _,⟨Nat.le_of_ble_eq_true rfl,Nat.le_of_ble_eq_true rfl⟩,?_⟩)|refine ⟨_,_,.head _,rfl,?_⟩);conv=>whnf)
   exact ⟨nd,code,b,b',[_],rfl,hcl,by omega,hbl,rfl⟩
  (conv=>whnf);exact hS
 simp at h1;have hab:=hm h1;(conv=>whnf);repeat ((first|refine ⟨_,_,.here _,leOK,?_⟩|intro (nb:Nat));conv=>whnf)
 rename_i n2;refine region_pcall (c1:=keepA 24) (c2:=keepA 24) rfl 1 rfl rfl rfl rfl ?_;(conv=>whnf);skip;refine ⟨_,rfl,((digitW rb s b 48 57 hbs hs (by omega) (by omega)).under [(nb,.vec (itmC ⟨6,0,0,0,false,0,0,0⟩ [] 0 .nilS)),(n2,.vec (itmC zN [] 0 .nilS))]).mono (fun v h' h=>?_) fun v h' hS=>?_⟩
 rotate_left
 ·(conv=>whnf);exact hS
 obtain ⟨h1,⟨k1,rfl,_,_,hlt1,rfl⟩,rfl⟩:=h;(conv=>whnf);repeat (refine ⟨_,_,.here _,leOK,?_⟩;conv=>whnf)
 refine region_pcall (c1:=keepA 24) (c2:=keepA 24) rfl 1 rfl rfl rfl rfl ?_;(conv=>whnf);skip;refine ⟨_,rfl,((mustW rb s (b+1) 45 (by omega) hs).under [(nb,.vec (itmC ⟨6,0,0,0,false,0,k1,0⟩ [] 0 .nilS)),(n2,.vec (itmC zN [] 0 .nilS))]).mono (fun v h' h=>?_) fun v h' hS=>?_⟩
 rotate_left
 ·(conv=>whnf);exact hS
 obtain ⟨h1,⟨rfl,hlt2,rfl⟩,rfl⟩:=h;(conv=>whnf);skip;refine region_pcall (c1:=keepA 24) (c2:=keepA 24) rfl 1 rfl rfl rfl rfl ?_;(conv=>whnf);skip;refine ⟨_,rfl,((digitW rb s (b+1+1) 48 57 (by omega) hs (by omega) (by omega)).under [(nb,.vec (itmC ⟨6,0,0,0,false,0,k1,0⟩ [] 0 .nilS)),(n2,.vec (itmC zN [] 0 .nilS))]).mono (fun v h' h=>?_) fun v h' hS=>?_⟩
 rotate_left
 ·(conv=>whnf);exact hS
 obtain ⟨h1,⟨k2,rfl,_,_,hlt3,rfl⟩,rfl⟩:=h;(conv=>whnf);repeat (refine ⟨_,_,.here _,leOK,?_⟩;conv=>whnf)
 refine region_pcall (c1:=keepA 24) (c2:=keepA 24) rfl 1 rfl rfl rfl rfl ?_;(conv=>whnf);skip;refine ⟨_,rfl,((mustW rb s (b+1+1+1) 125 (by omega) hs).under [(nb,.vec (itmC ⟨6,0,0,0,false,0,k1,k2⟩ [] 0 .nilS)),(n2,.vec (itmC zN [] 0 .nilS))]).mono (fun v h' h=>?_) fun v h' hS=>?_⟩
 rotate_left
 ·(conv=>whnf);exact hS
 obtain ⟨h1,⟨rfl,hlt4,rfl⟩,rfl⟩:=h;(conv=>whnf);repeat ((first|refine ⟨_,_,.head _,rfl,?_⟩|refine ⟨_,_,.tail _ (.head _),rfl,?_⟩|refine ⟨_,_,.there (.here _),leOK,?_⟩);conv=>whnf)
 exact ⟨⟨6,0,0,0,false,0,k1,k2⟩,[],0,b+1+1+1+1,[_,_],rfl,by simp,by omega,by omega,rfl⟩
mutual
inductive ItH:Itm->List AV->Heap->Prop
 | leaf (nd:Nod) (code:List UInt8) (a:Int):code.length<=65536->ItH (.mk nd code a []) (itmC nd code a .nilS) []
 | node (nd:Nod) (code:List UInt8) (a:Int) (xs:List Itm) (b:Nat) (rows:List (List AV)) (hp:Heap):code.length<=65536->xs≠[]->ItsH xs rows hp ->
    ItH (.mk nd code a xs) (itmC nd code a (.osl b 0 xs.length 11)) ((b,.vec rows.flatten)::hp)
inductive ItsH:List Itm->List (List AV)->Heap->Prop
 | nil:ItsH [] [] []
 | cons (x:Itm) (cs:List AV) (h1:Heap) (xs:List Itm) (rows:List (List AV)) (h2:Heap):ItH x cs h1->ItsH xs rows h2->ItsH (x::xs) (cs::rows) (h1++h2)
end
mutual
def isz:Itm->Nat
 | .mk _ _ _ xs=>1+iszs xs
def iszs:List Itm->Nat
 | []=>0
 | x::xs=>isz x+iszs xs
end
def GotI (rb:Nat) (s:List UInt8) (a:Nat) (cs:List AV) (h':Heap):Prop:=∃ x hp b,ItH x cs hp/\a<b/\b<=s.length/\isz x+1<=2*(b - a)/\h'=hp++[RD rb s b]
theorem leafW (rb:Nat) (s:List UInt8) (a:Nat) (ha:a<=s.length) (hs:s.length<=65536) :
  PCalls Tryz.prog 217 [.optr rb 0] [RD rb s a] (fun v h'=>∃ cs,v=.agg cs/\GotI rb s a cs h') (Bad rb s):=by
 refine (leafP rb s a ha hs).post ?_ fun v h1 hS=>⟨h1,hS,fun _ _ hm=>hm,fun hn=>hn⟩;rintro v h1 ⟨nd,code,n,b,os,rfl,h2,h3,h4,rfl⟩;refine ⟨_,[RD rb s b],⟨_,rfl,.mk nd code n [],[],b,.leaf nd code n h2,h3,h4,?_,rfl⟩,VLe.refl _,fun k o' hm=>List.mem_append_right _ hm,fun hn=>by simp [keys]⟩;simp only [isz,iszs];omega
end Go.Abs.Wall.Dic
namespace Go.Abs.Wall.Dic
open Go Go.Abs Go.Proofs Go.Abs.Wall
theorem ItH.form {x:Itm} {cs:List AV} {hp:Heap} (h:ItH x cs hp):∃ nd code a k,cs=itmC nd code a k:=by
 cases h
 ·exact ⟨_,_,_,_,rfl⟩
 exact ⟨_,_,_,_,rfl⟩
def c215:Cfg:=⟨[0,1,4,7],[],[],[],[],[]⟩
theorem oneP (kind:Int) (b:Nat) (x:Itm) (xs:List Itm) (cs:List AV) (rows:List (List AV)) (hp h2:Heap) (hx:ItH x cs hp) (hxs:ItsH xs rows h2) (hl:xs.length<=65536) :
  ACalls Tryz.prog 215 [.int .i64 kind,.osl b 0 (xs.length+1) 11] ((b,.vec (cs++rows.flatten))::(hp++h2)) (fun v h'=>∃ y cs' hp' os,v=.agg cs'/\ItH y cs' hp'/\isz y<=1+(isz x+iszs xs)/\(xs=[]->isz y=isz x)/\h'=os++hp'):=by
 obtain ⟨nd,code,a,k,rfl⟩:=hx.form;refine fcalls (F:=Tryz.f215) c215 rfl rfl rfl mixed rfl fun X=>?_;(conv=>whnf);repeat (intro (nb:Nat);conv=>whnf)
 refine ⟨fun h1=>?_,fun h1=>?_⟩<;>simp at h1
 ·have hz:xs=[]:=List.eq_nil_of_length_eq_zero (by omega);subst hz;cases hxs
  (conv=>whnf);repeat ((first|(refine ⟨0,gP_of ⟨rfl,by simp⟩,?_⟩)|(refine ⟨_,_,.tail _ (.head _),rfl,?_⟩)|(refine ⟨_,_,.here _,⟨Nat.le_of_ble_eq_true rfl,Nat.le_of_ble_eq_true rfl⟩,?_⟩)|refine ⟨_,_,.head _,rfl,?_⟩);conv=>whnf)
  exact ⟨x,itmC nd code a k,hp,[_,_],rfl,hx,by omega,fun _=>rfl,by rw [List.append_nil];rfl⟩
 (conv=>whnf);repeat ((first|refine ⟨_,_,.head _,rfl,?_⟩|refine ⟨_,_,.here _,leOK,?_⟩);conv=>whnf)
 exact ⟨.mk ⟨kind,0,0,0,false,0,0,0⟩ [] 0 (x::xs),_,(b,.vec (itmC nd code a k++rows.flatten))::(hp++h2),[_],rfl,.node _ _ _ _ b (itmC nd code a k::rows) (hp++h2) (by simp) (by simp) (.cons _ _ _ _ _ _ hx hxs),by simp only [isz,iszs];omega,(fun h=>by rw [h] at h1;simp at h1),rfl⟩
theorem nodup_tail {a b:Heap} (h:(keys (a++b)).Nodup):(keys b).Nodup:=by rw [keys_append,List.nodup_append] at h;exact h.2.1
theorem oneW (kind:Int) (b:Nat) (x:Itm) (xs:List Itm) (cs:List AV) (rows:List (List AV)) (hp h2:Heap) (hx:ItH x cs hp) (hxs:ItsH xs rows h2) (hl:xs.length<=65536) :
  ACalls Tryz.prog 215 [.int .i64 kind,.osl b 0 (xs.length+1) 11] ((b,.vec (cs++rows.flatten))::(hp++h2)) (fun v h'=>∃ y cs',v=.agg cs'/\ItH y cs' h'/\isz y<=1+(isz x+iszs xs)/\(xs=[]->isz y=isz x)):=by
 refine ACalls.post (oneP kind b x xs cs rows hp h2 hx hxs hl) ?_;rintro v h' ⟨y,cs',hp',os,rfl,h1,h3,h4,rfl⟩;exact ⟨_,hp',⟨y,cs',rfl,h1,h3,h4⟩,VLe.refl _,fun k o hm=>List.mem_append_right _ hm,nodup_tail⟩
end Go.Abs.Wall.Dic
/-
 The abstract layer,part Pd: drawn regions in which a call stands that may panic.
-/
namespace Go.Abs
open Go
variable {P:Program} {n:Nat} {X:Nat->Prop} {all:List Oper} {cl ord:List Nat} {r:Regs}
theorem look_now {kn rest nf:List Nat} {ents:List (Nat × Nat × G × AV)} {h:Heap} {L:Array Bool} (hi:DInv n P all cl ord r kn rest nf ents h L) (hs:DrawS all cl ord) {k:Nat} {o:Oper} (hk:all[k]?=some o) (hkn:k∈kn) {t:Nat} (ht:t∈readsOf all o)
  (hw:∀ (j:Nat) (o':Oper),all[j]?=some o'->o'.dst=some t->Nat.testBit (clN cl j) k=false):Look all cl ents r k t (lookR (entR ents r) t):=by
 have huniq:∀ x∈ents,∀ j o',all[j]?=some o'->o'.dst=some t->x.2.1=t->x.1=j:=by intro x hx j o' ho' hd' hxt;obtain ⟨_,o2,ho2,hd2⟩:=hi.ent1 x hx;rw [hxt] at hd2;exact hs.d1 _ _ _ _ _ ho2 ho' hd2 hd'
 by_cases hw2:∃ (j:Nat) (o':Oper),all[j]?=some o'/\o'.dst=some t
 ·obtain ⟨j,o',ho',hd'⟩:=hw2;rcases hs.n1 k o t hk ht j o' ho' hd' with hc|hc
  ·obtain ⟨hj,_⟩:=hi.kn_clo hs hkn hc;obtain ⟨g,v,hm⟩:=hi.ent3 j hj o' t ho' hd';exact .inl ⟨j,g,v,hc,hm,look_some hm fun x hx hxt=>hi.ent2 x hx _ hm (huniq x hx j o' ho' hd' hxt)⟩
  have:=hw j o' ho' hd';unfold Cl at hc;rw [this] at hc;cases hc
 refine .inr ⟨fun j o' ho' hd'=>absurd ⟨j,o',ho',hd'⟩ hw2,look_none ?_⟩;intro x hx hxt;obtain ⟨_,o2,ho2,hd2⟩:=hi.ent1 x hx;exact hw2 ⟨_,o2,ho2,hxt ▸ hd2⟩
def noWr (all:List Oper) (cl:List Nat) (t k:Nat):Bool:=(List.range all.length).all fun j=>match all[j]? with
 | some o=>(match o.dst with
   | some d=>!(Nat.beq d t&&Nat.testBit (clN cl j) k)
   | none=>true)
 | none=>true
theorem noWr_ok {t k:Nat} (h:noWr all cl t k=true) (j:Nat) (o':Oper) (ho:all[j]?=some o') (hd:o'.dst=some t):Nat.testBit (clN cl j) k=false:=by unfold noWr at h;rw [List.all_eq_true] at h;have:=h j (List.mem_range.2 (List.getElem?_eq_some_iff.1 ho).1);rw [ho] at this;simp only [hd] at this;have hb:Nat.beq t t=true:=Nat.beq_refl t;rw [hb,Bool.true_and] at this;simpa using this
def stays (all:List Oper) (cl:List Nat) (m k:Nat) (r:Regs) (h h':Heap):Prop:=Nat.testBit (clN cl m) k=true \/
 ∃ o T t b off,all[k]?=some o/\o.op=.load T (.tmp t)/\o.guard=none/\noWr all cl t k=true/\lookR r t=some ([],.optr b off)/\∃ x,(b,x)∈h/\(b,x)∈h'
theorem one_of_key {h:Heap} {b:Nat} {x y:Ob} (hn:(keys h).Nodup) (hx:(b,x)∈h) (hy:(b,y)∈h):x=y:=by
 induction h with
 | nil=>cases hx
 | cons e h ih=>
   simp only [keys,List.map_cons,List.nodup_cons] at hn;rcases List.mem_cons.1 hx with ex|hx'<;>rcases List.mem_cons.1 hy with ey|hy'
   ·rw [<- ex] at ey;cases ey;rfl
   ·exact absurd (keys_of_mem hy') (by rw [<- ex] at hn;exact hn.1)
   ·exact absurd (keys_of_mem hx') (by rw [<- ey] at hn;exact hn.1)
   exact ih hn.2 hx' hy'
def pcl (P:Program) (c:Call) (f:FuncId) (r:Regs) (h:Heap) (R:AV->Heap->Prop) (S:Value->Heap->Prop):Prop:=∃ vs,opnds r [] c.args.toList=some vs/\PCalls P f vs h R S
theorem ploud_step {K:Regs->Heap->Prop} {SP:Value->Heap->Prop} {Rg:List Nat->List Nat->Regs->Heap->Prop} {Q:Exit->Act->World->Prop} (hs:DrawS all cl ord) {fuel i:Nat} {rest kn nf:List Nat} {ents:List (Nat × Nat × G × AV)} {h:Heap} {L:Array Bool} {g0:Gh} {a:Act} {w:World} {o:Oper} {cal:Call} {f:FuncId}
  (hi:DInv n P all cl ord r kn (i::rest) nf ents h L) (ho:all[i]?=some o) (hoi:all.toArray[i]?=some o) (hgd:o.guard=none) (hop:o.op=.call cal) (hcl:cal.callee=.value (.func f)) (hkl:L.getD i false=false)
  (he:∀ e∈o.after.toList,Region.binds .any e=true->L.getD e.on false=true)
  (hr:pcl P cal f (entR ents r) h (fun v h'=>(∀ k∈nf,stays all cl i k (entR ents r) h h')/\setP n o.dst [] v (entR ents r) fun r'=>Rg rest nf r' h') SP) (hc:Conc n X g0 (entR (entL L ents) r) h a w) (hu:unl all.length L<=fuel+1)
  (IH:∀ (rest kn nf:List Nat) (ents:List (Nat × Nat × G × AV)) (h:Heap) (L:Array Bool) (g0:Gh) (a:Act) (w:World),
    DInv n P all cl ord r kn rest nf ents h L->Rg rest nf (entR ents r) h->Conc n X g0 (entR (entL L ents) r) h a w->unl all.length L<=fuel ->
    (∀ r' h' g' a' w',K r' h'->Conc n X g' r' h' a' w'->Step X g0 h w g' h' w'->Q .normal a' w')->wpAny P .any all.toArray Q fuel L a w)
  (hf:∀ r' h' g' a' w',K r' h'->Conc n X g' r' h' a' w'->Step X g0 h w g' h' w'->Q .normal a' w')
  (hpan:∀ v h' g' a' w',SP v h'->Conc n X g' [] h' a' w'->Step X g0 h w g' h' w'->Q (.panic [{ v:=v,recovered:=false }]) a' w') :
  wpOp P all.toArray Q i (wpAny P .any all.toArray Q fuel (L.setIfInBounds i true)) a w:=by
 have hko:i∈ord:=by rw [hi.split];simp
 have hnk:i ∉ kn:=by have:=hs.p3;rw [hi.split,List.nodup_append] at this;exact fun hm=>this.2.2 i hm i (by simp) rfl
 obtain ⟨hlt,_⟩:=hi.lt hs hko;have hlti:i<all.length:=by rw [<- hi.lsize];exact hlt
 have hil:=hkl;have hedge:∀ e∈o.after.toList,Region.binds .any e=true->e.on∈kn:=by obtain ⟨o2,ho2,hh⟩:=hs.p4 kn i rest hi.split;rw [ho] at ho2;cases ho2;exact hh
 have hclk:∀ j,Cl cl i j->j∈kn:=by
  intro j hj
  have:=(clo_closed hs (S:=fun x=>x∈kn\/x=i) (fun x hS=>by
   rcases hS with hS|rfl
   ·obtain ⟨o',ho',hh⟩:=hi.kn_closed hs x hS;exact ⟨o',ho',fun e a b=>.inl (hh e a b)⟩
   exact ⟨o,ho,fun e a b=>.inl (hedge e a b)⟩) i (.inr rfl) j hj)
  rcases this.1 with h|rfl
  ·exact h
  exact absurd this.2 (Nat.lt_irrefl _)
 have hlook:∀ t∈readsOf all o,Look all cl ents r i t (lookR (entR ents r) t):=by intro t ht;refine look_of hi hs ho (fun x hx=>hx) (fun j hj=>⟨hclk j hj,fun x hx _=>hx⟩) ?_ t ht;intro x hx hcx;exact hnk (hi.kn_clo hs (hi.ent1 x hx).1 hcx).1
 have hclo:∀ j,Cl cl i j->L.getD j false=true:=by
  intro j hj
  have:=(clo_closed hs (S:=fun x=>L.getD x false=true\/x=i) (fun x hS=>by
   rcases hS with hS|rfl
   ·obtain ⟨o',ho',hh⟩:=hi.lclosed x hS;exact ⟨o',ho',fun e a b=>.inl (hh e a b)⟩
   exact ⟨o,ho,fun e a b=>.inl (he e a b)⟩) i (.inr rfl) j hj)
  rcases this.1 with h|rfl
  ·exact h
  exact absurd this.2 (Nat.lt_irrefl _)
 unfold wpOp;simp only [hoi,wanted_none hgd,if_true];left;have hac:∀ j,Cl cl i j->Cl cl j i->False:=fun j a b=>hnk (hi.kn_clo hs (hclk j a) b).1
 have hlookL:∀ t∈readsX o.op.operands.toList,lookR (entR ents r) t=lookR (entR (entL L ents) r) t:=by
  intro t ht;have ht':t∈readsOf all o:=by unfold readsOf;exact List.mem_append_right _ ht
  refine look_fun hi hs (hlook t ht') (look_of hi hs ho (fun x hx=>(mem_entL.1 hx).1) ?_ ?_ t ht') hac
  ·intro j hj;exact ⟨hclk j hj,fun x hx hxj=>mem_entL.2 ⟨hx,by rw [hxj];exact hclo j hj⟩⟩
  intro x hx hcx;exact hnk (hi.kn_clo hs (hi.ent1 x (mem_entL.1 hx).1).1 hcx).1
 obtain ⟨vs,hvs,hP⟩:=hr;have hvs2:opnds (entR (entL L ents) r) [] cal.args.toList=some vs:=by rw [<- hvs];symm;exact opnds_congr fun x hx'=>opnd_congr fun t ht=>hlookL t (mem_readsX (by rw [hop];simp [Op.operands,Call.operands];exact .inr (Array.mem_toList_iff.1 (ht ▸ hx'))))
 have hgL:holdsC a []:=fun e he=>by cases he
 have hrv:=hc.opnds hgL hvs2;have hun:unl all.length (L.setIfInBounds i true)<=fuel:=by have:=unl_set hlti hi.lsize.symm hil;omega
 obtain ⟨dst,op,ty,pos,aft,gd⟩:=o;simp only at hop hgd hP he ⊢;subst hop
 have hrun:(execOp a.eval ⟨dst,.call cal,ty,pos,aft,gd⟩).run P w=(callFunc f (cal.args.map a.eval++#[])).run P w:=
  run_callF rfl ⟨_,hcl,rfl⟩
 refine wp_pcall (us:=cal.args.map a.eval) hP hc.cw (by simpa using hrv) (by simpa using hrun) ?_ ?_
 rotate_left
 ·intro v h2 g2 w2 hS hcw hst2;exact hpan v h2 g2 a w2 hS ((hc.step hcw hst2).less fun t gg x hl=>(by cases hl)) hst2
 rintro v h' g' u w' ⟨hkp,hset⟩ hcw hrep hst
 have hstab:∀ k'∈kn,(L.setIfInBounds i true).getD k' false=false->∃ o g v Rk,all[k']?=some o/\entryQ P all Rk h' (fun g' v'=>g'=g/\v'=v) o /\
   (∀ t∈readsOf all o,Look all cl ents r k' t (lookR Rk t)) /\
   (∀ d,o.dst=some d->(k',d,g,v)∈ents/\d<n/\(∀ e∈g,e.1≠d)/\∀ t gg v,lookR r t=some (gg,v)->∀ e∈gg,e.1≠d) /\
   (k' ∉ nf->∀ h',entryQ P all Rk h' (fun g' v'=>g'=g/\v'=v) o):=by
  intro k' hk' hl'
  have hl:L.getD k' false=false:=by
   cases hb:L.getD k' false with
   | false=>rfl
   | true=>rw [getD_set_true hb] at hl';cases hl'
  obtain ⟨o',g2,v2,Rk,q1,q2,q3,q4,q5⟩:=hi.fact k' hk' hl;refine ⟨o',g2,v2,Rk,q1,?_,q3,q4,q5⟩;by_cases hnf:k'∈nf
  ·rcases hkp k' hnf with h1|⟨o2,T,t,b,off,h1,h2,h3,h4,h5,x0,h6,h7⟩
   ·have:=hclo k' h1;rw [hl] at this;cases this
   rw [q1] at h1;cases h1
   have ht:t∈readsOf all o':=by unfold readsOf;rw [h2];exact List.mem_append_right _ (mem_readsX (by simp [Op.operands]))
   have hac':∀ j,Cl cl k' j->Cl cl j k'->False:=fun j a b=>by have:=(hi.kn_clo hs hk' a).2;have:=(hi.kn_clo hs (hi.kn_clo hs hk' a).1 b).2;omega
   have hlk:lookR Rk t=some ([],.optr b off):=by rw [<- h5];exact look_fun hi hs (q3 t ht) (look_now hi hs q1 hk' ht (noWr_ok h4)) hac'
   unfold entryQ at q2 ⊢;simp only [h3,h2,opQ,opnd,hlk,subG] at q2 ⊢;obtain ⟨cs,l,k1,k2⟩:=q2;exact ⟨cs,l,by rw [one_of_key hc.cw.nodup k1 h6];exact h7,k2⟩
  exact q5 hnf h'
 have hown0:∀ {p:Prop},(L.setIfInBounds i true).getD i false=false->p:=by intro p hh;have:(L.setIfInBounds i true).getD i false=true:=(by simp [hlt]);rw [this] at hh;cases hh
 have hf':∀ r2 h2 g2 a2 w2,K r2 h2->Conc n X g2 r2 h2 a2 w2->Step X g' h' w' g2 h2 w2->Q .normal a2 w2:=
  fun r2 h2 g2 a2 w2 hK hc2 hst2=>hf r2 h2 g2 a2 w2 hK hc2 (hst.trans hc.cw.own hst2)
 cases hd:dst with
 | none=>
   rw [hd] at hset;have hi':=hi.enter (n:=n) (P:=P) (g:=[]) (v:=v) (ents':=ents) (nf':=nf) (h':=h') (L':=L.setIfInBounds i true) hs ho (by rw [hd]) (by simp) (.inr ⟨rfl,he⟩) hstab hown0;refine IH rest _ nf ents h' _ g' _ w' hi' hset ?_ hun hf';have hE:entL (L.setIfInBounds i true) ents=entL L ents:=by unfold entL;refine List.filter_congr fun x hx=>?_;exact getD_set_ne false (fun e=>hnk (e ▸ (hi.ent1 x hx).1))
   rw [hE];simpa [Act.put] using hc.step hcw hst
 | some d=>
   rw [hd] at hset;unfold setP at hset;simp only at hset;split at hset<;>try contradiction
   rename_i hdn;rw [Nat.blt_eq] at hdn;split at hset<;>try contradiction
   rename_i hni;have hnr:=notIn_entR (notIn_cons hni).2;have hi':=hi.enter (n:=n) (P:=P) (g:=[]) (v:=v) (ents':=(i,d,[],v)::ents) (nf':=nf) (h':=h') (L':=L.setIfInBounds i true) hs ho (by rw [hd]) (by simp) (.inr ⟨rfl,he⟩) hstab hown0;refine IH rest _ nf ((i,d,[],v)::ents) h' _ g' _ w' hi' hset ?_ hun hf';have hE:entL (L.setIfInBounds i true) ((i,d,[],v)::ents)=(i,d,[],v)::entL L ents:=by unfold entL;have h1:(L.setIfInBounds i true).getD i false=true:=(by simp [hlt]);rw [List.filter_cons,if_pos h1];congr 1;refine List.filter_congr fun x hx=>?_;exact getD_set_ne false (fun e=>hnk (e ▸ (hi.ent1 x hx).1))
   rw [hE];show Conc n X g' ((d,[],v)::entR (entL L ents) r) h' (a.put (some d) u) w';refine hc.put' hcw hst hdn (by simp) ?_ (fun _=>⟨by simp,hrep⟩) (fun hh=>absurd (fun e he=>by cases he) hh);intro t gg vv hl e hee hed;rcases look_entR hl with ⟨x,hx,ex⟩|hl
   ·obtain ⟨hx,hlx⟩:=mem_entL.1 hx;have hcx:=hi.path x hx e (by rw [ex];exact hee) i _ ho (hed ▸ hd);exact hnk (hi.kn_clo hs (hi.ent1 x hx).1 hcx).1
   exact notIn_look hnr hl e hee hed
theorem draw_gameC {c:Cfg} {K:Regs->Heap->Prop} {SP:Value->Heap->Prop} {Q:Exit->Act->World->Prop} {m:Nat} {post:List Nat} {o:Oper} {cal:Call} {f:FuncId} (hs:DrawS all (clos all []) ord) (ho:all[m]?=some o) (hgd:o.guard=none) (hop:o.op=.call cal) (hcl:cal.callee=.value (.func f))
  (hlate:allSome (clos all []) [m] post=true):∀ (fuel:Nat) (kn nf:List Nat) (ents:List (Nat × Nat × G × AV)) (h:Heap) (L:Array Bool) (g0:Gh) (a:Act) (w:World),
  DInv n P all (clos all []) ord r kn (m::post) nf ents h L ->
  pcl P cal f (entR ents r) h (fun v h'=>(∀ k∈nf,stays all (clos all []) m k (entR ents r) h h')/\setP n o.dst [] v (entR ents r) fun r'=>regD P c n all (clos all []) K post nf r' h') SP->Conc n X g0 (entR (entL L ents) r) h a w->unl all.length L<=fuel ->
  (∀ r' h' g' a' w',K r' h'->Conc n X g' r' h' a' w'->Step X g0 h w g' h' w'->Q .normal a' w') ->
  (∀ v h' g' a' w',SP v h'->Conc n X g' [] h' a' w'->Step X g0 h w g' h' w'->Q (.panic [{ v:=v,recovered:=false }]) a' w')->wpAny P .any all.toArray Q fuel L a w:=by
 have hlate:=allSome_ok hlate;intro fuel;induction fuel with
 | zero=>
   intro kn nf ents h L g0 a w hi hr hc hu hf hpan;have hall:=unl_zero (Nat.le_zero.1 hu);have hx:m∈ord:=by rw [hi.split];simp
   obtain ⟨hlt,_⟩:=hi.lt hs hx;have h1:=hi.lsub m (hall m (by rw [<- hi.lsize];exact hlt));have:=hs.p3;rw [hi.split,List.nodup_append] at this;exact absurd rfl (this.2.2 m h1 m (by simp))
 | succ fuel IH=>
   intro kn nf ents h L g0 a w hi hr hc hu hf hpan;have hm0:m ∉ kn:=by have:=hs.p3;rw [hi.split,List.nodup_append] at this;exact fun hm=>this.2.2 m hm m (by simp) rfl
   refine ⟨fun hre=>?_,fun i hm=>?_⟩
   ·have:=ready_none hi hs hre m (by rw [hi.split];simp);exact absurd (hi.lsub m this) hm0
   obtain ⟨m1,oi',hoi,m2⟩:=mem_ready.1 hm;have hoi':all[i]?=some oi':=(by simpa using hoi);have hlti:i<all.length:=(List.getElem?_eq_some_iff.1 hoi').1;have hil:L.getD i false=false:=by rw [<- getD_true_false (by rw [hi.lsize];exact hlti)];exact m1
   have he:∀ e∈oi'.after.toList,Region.binds .any e=true->L.getD e.on false=true:=fun e he hb=>m2 e (by simpa using he) hb
   have hclo:∀ j,Cl (clos all []) i j->L.getD j false=true:=by
    intro j hj
    have:=(clo_closed hs (S:=fun x=>L.getD x false=true\/x=i) (fun x hS=>by
     rcases hS with hS|rfl
     ·obtain ⟨o',ho',hh⟩:=hi.lclosed x hS;exact ⟨o',ho',fun e a b=>.inl (hh e a b)⟩
     exact ⟨oi',hoi',fun e a b=>.inl (he e a b)⟩) i (.inr rfl) j hj)
    rcases this.1 with h|rfl
    ·exact h
    exact absurd this.2 (Nat.lt_irrefl _)
   have hin:i∈kn\/i=m\/i∈post:=by have:=hs.p2 i hlti;rw [hi.split] at this;simpa using this
   rcases hin with hik|rfl|hir
   ·refine run_quiet hi hs hik hil (fun o2 ho2=>by rw [hoi'] at ho2;cases ho2;exact he) hc ?_;intro g' a' w' hc' hst
    exact IH kn nf ents h _ g' a' w' (hi.list hik hoi' he) hr hc' (by have:=unl_set hlti hi.lsize.symm hil;omega)
     (fun r2 h2 g2 a2 w2 hK hc2 hst2=>hf r2 h2 g2 a2 w2 hK hc2 (hst.trans hc.cw.own hst2)) fun v h2 g2 a2 w2 hS hc2 hst2=>hpan v h2 g2 a2 w2 hS hc2 (hst.trans hc.cw.own hst2)
   ·rw [ho] at hoi';cases hoi'
    refine ploud_step (K:=K) (Rg:=fun l nf r' h'=>regD P c n all (clos all []) K l nf r' h') hs hi ho hoi hgd hop hcl hil he hr hc hu ?_ hf hpan;intro rest' kn nf ents h L g0 a w hi2 hr2 hc2 hu2 hf2;exact draw_game hs fuel rest' kn nf ents h L g0 a w hi2 hr2 hc2 hu2 hf2
   obtain ⟨x,hx,hcx⟩:=hlate i hir;simp only [List.mem_singleton] at hx;subst hx;have h1:=hclo x hcx;exact absurd (hi.lsub x h1) hm0
def rpreF (P:Program) (c:Cfg) (n:Nat) (all:List Oper) (fin:List Nat->Regs->Heap->Prop):List Nat->List Nat->Regs->Heap->Prop
 | [],nf,r,h=>fin nf r h
 | i::pre,nf,r,h=>match all[i]? with
   | none=>False
   | some o=>match loudD c o with
     | true=>False
     | false=>entryQ P all r h (aftD (rpreF P c n all fin pre) all i n o nf r h) o
theorem draw_gameF {c:Cfg} {Q:Exit->Act->World->Prop} {fin:List Nat->Regs->Heap->Prop} {post:List Nat} {fuel:Nat} {g0:Gh} {a:Act} {w:World} {L:Array Bool} {h:Heap} (hs:DrawS all (clos all []) ord)
  (hfin:∀ kn nf ents,DInv n P all (clos all []) ord r kn post nf ents h L->fin nf (entR ents r) h->Conc n X g0 (entR (entL L ents) r) h a w->wpAny P .any all.toArray Q fuel L a w):∀ (pre kn nf:List Nat) (ents:List (Nat × Nat × G × AV)),
  DInv n P all (clos all []) ord r kn (pre++post) nf ents h L->rpreF P c n all fin pre nf (entR ents r) h->Conc n X g0 (entR (entL L ents) r) h a w->unl all.length L<=fuel->wpAny P .any all.toArray Q fuel L a w:=by
 intro pre;induction pre with
 | nil=>intro kn nf ents hi hr hc hu;exact hfin kn nf ents hi hr hc
 | cons k pre ihr=>
   intro kn nf ents hi hr hc hu;have hko:k∈ord:=by rw [hi.split];simp
   have hnk:k ∉ kn:=by have:=hs.p3;rw [hi.split,List.nodup_append] at this;exact fun hm=>this.2.2 k hm k (by simp) rfl
   obtain ⟨hlt,o,ho⟩:=hi.lt hs hko
   have hkl:L.getD k false=false:=by
    cases hb:L.getD k false with
    | false=>rfl
    | true=>exact absurd (hi.lsub k hb) hnk
   have hedge:∀ e∈o.after.toList,Region.binds .any e=true->e.on∈kn:=by obtain ⟨o2,ho2,hh⟩:=hs.p4 kn k _ hi.split;rw [ho] at ho2;cases ho2;exact hh
   have hclk:∀ j,Cl (clos all []) k j->j∈kn:=by
    intro j hj
    have:=(clo_closed hs (S:=fun i=>i∈kn\/i=k) (fun i hS=>by
     rcases hS with hS|rfl
     ·obtain ⟨o',ho',hh⟩:=hi.kn_closed hs i hS;exact ⟨o',ho',fun e a b=>.inl (hh e a b)⟩
     exact ⟨o,ho,fun e a b=>.inl (hedge e a b)⟩) k (.inr rfl) j hj)
    rcases this.1 with h|rfl
    ·exact h
    exact absurd this.2 (Nat.lt_irrefl _)
   have hlook:∀ t∈readsOf all o,Look all (clos all []) ents r k t (lookR (entR ents r) t):=by intro t ht;refine look_of hi hs ho (fun x hx=>hx) (fun j hj=>⟨hclk j hj,fun x hx _=>hx⟩) ?_ t ht;intro x hx hcx;exact hnk (hi.kn_clo hs (hi.ent1 x hx).1 hcx).1
   unfold rpreF at hr;rw [ho] at hr;simp only at hr;split at hr<;>try contradiction
   obtain ⟨g,v,hKv,hE⟩:=entryQ_val hr;unfold aftD at hKv;split at hKv<;>try contradiction
   rename_i hpath;have hpath:=pathOK_ok hpath;obtain ⟨nf2,hnf2⟩:∃ nf2,nf2=(match hfree (entR ents r) g o.op with|true=>nf|false=>k::nf):=⟨_,rfl⟩
   have hfr0:k ∉ nf2->∀ h',entryQ P all (entR ents r) h' (fun g' v'=>g'=g/\v'=v) o:=by
    intro hk' h';rw [hnf2] at hk';split at hk'
    ·rename_i hfr;exact entryQ_free hfr hE
    simp at hk'
   have hinc:∀ x∈nf,x∈nf2:=by
    intro x hx;rw [hnf2];split
    ·exact hx
    exact List.mem_cons_of_mem _ hx
   have hold:∀ k'∈kn,L.getD k' false=false->∃ o g v Rk,all[k']?=some o/\entryQ P all Rk h (fun g' v'=>g'=g/\v'=v) o /\
       (∀ t∈readsOf all o,Look all (clos all []) ents r k' t (lookR Rk t)) /\
       (∀ d,o.dst=some d->(k',d,g,v)∈ents/\d<n/\(∀ e∈g,e.1≠d)/\∀ t gg v,lookR r t=some (gg,v)->∀ e∈gg,e.1≠d) /\
       (k' ∉ nf2->∀ h',entryQ P all Rk h' (fun g' v'=>g'=g/\v'=v) o):=by
    intro k' hk' hl';obtain ⟨o',g2,v2,Rk,q1,q2,q3,q4,q5⟩:=hi.fact k' hk' hl';exact ⟨o',g2,v2,Rk,q1,q2,q3,q4,fun hh=>q5 fun hm=>hh (hinc _ hm)⟩
   cases hd:o.dst with
   | none=>
     rw [hd] at hKv
     have hi':=hi.enter (n:=n) (P:=P) (g:=g) (v:=v) (ents':=ents) (nf':=nf2) (h':=h) (L':=L) hs ho (by rw [hd]) hpath (.inl rfl) hold
      (fun _=>⟨o,g,v,entR ents r,ho,hE,hlook,fun d hd'=>(by rw [hd] at hd';cases hd'),hfr0⟩)
     exact ihr _ _ ents hi' (by rw [hnf2];exact hKv) hc hu
   | some d=>
     rw [hd] at hKv;unfold setP at hKv;simp only at hKv;split at hKv<;>try contradiction
     rename_i hdn;rw [Nat.blt_eq] at hdn;split at hKv<;>try contradiction
     rename_i hni;obtain ⟨hn1,hn2⟩:=notIn_cons hni;have hnr:=notIn_entR hn2
     have hi':=hi.enter (n:=n) (P:=P) (g:=g) (v:=v) (ents':=(k,d,g,v)::ents) (nf':=nf2) (h':=h) (L':=L) hs ho (by rw [hd]) hpath (.inl rfl) hold
      (fun _=>⟨o,g,v,entR ents r,ho,hE,fun t ht=>(hlook t ht).more (fun x hx=>List.mem_cons_of_mem _ hx),
        fun d' hd'=>(by rw [hd] at hd';cases hd';exact ⟨List.mem_cons_self,hdn,hn1,fun t gg vv hl=>notIn_look hnr hl⟩),hfr0⟩)
     refine ihr _ _ ((k,d,g,v)::ents) hi' (by rw [hnf2];exact hKv) ?_ hu;have hE:entL L ((k,d,g,v)::ents)=entL L ents:=by unfold entL;rw [List.filter_cons,if_neg (by simp only [hkl];exact Bool.false_ne_true)]
     rw [hE];exact hc
theorem region_dcall {c c1:Cfg} {F:Func} {E:En} {p:List Bool} {S:List Fr} {k id:Nat} {ops:Array Oper} {r:Regs} {h:Heap} (hcat:cat F p=.region id ops true) (hm:P.follows .mixedOrders=true) (pre:List Nat) (m:Nat) (post:List Nat) {o:Oper} {cal:Call} {f:FuncId}
  (hom:(opsAt F p)[m]?=some o) (hgd:o.guard=none) (hop:o.op=.call cal) (hcl:cal.callee=.value (.func f))
  (hd:drawOK (opsAt F p) (pre++(m::post))=true) (hlate:allSome (clos (opsAt F p) []) [m] post=true)
  (hr:rpreF P c1 E.n (opsAt F p) (fun nf r1 h1=>pcl P cal f r1 h1 (fun v h'=>(∀ k∈nf,stays (opsAt F p) (clos (opsAt F p) []) m k r1 h1 h')/\aftL (rdraw P c1 E.n (opsAt F p) (run P c F E k (.ex .normal) S) post nf) E.n o.dst r1 v h') (fun v h2=>run P c F E k (.ex (.pan v)) S [] h2)) pre [] r h) :
  Holds P E.n E.X (cat F p) (fun e r h=>run P c F E k (.ex e) S r h) r h:=by
 have ho:=opsAt_eq hcat;rw [ho] at hd hr hom hlate;rw [hcat];refine ⟨fun g a w hc=>?_⟩;refine wp_region_any hm ?_;obtain ⟨dc,ds⟩:=hc.cw.drew;have hs:=drawS hd;have hc':Conc E.n E.X g r h a w.drew:=hc.step dc ds
 have hi:DInv E.n P ops.toList (clos ops.toList []) (pre++(m::post)) r [] (pre++(m::post)) [] [] h (Array.replicate ops.size false):=by
  have hrep:∀ i,(Array.replicate ops.size false).getD i false=false:=by intro i;by_cases hi:i<ops.size<;>simp [hi]
  refine ⟨rfl,by simp,?_,?_,by simp,by simp,by simp,by simp,by simp⟩
  ·intro i hL;rw [hrep i] at hL;cases hL
  intro i hL;rw [hrep i] at hL;cases hL
 have hunl:unl ops.toList.length (Array.replicate ops.size false)<=ops.size:=by unfold unl;exact Nat.le_trans (List.length_filter_le _ _) (by simp)
 have:=draw_gameF (n:=E.n) (P:=P) (X:=E.X) (r:=r) (c:=c1) (fuel:=ops.size) (g0:=g) (a:=a) (w:=w.drew) (L:=Array.replicate ops.size false) (Q:=fun e a' w'=>∃ ex g' r' h',e=Ex.toExit ex/\run P c F E k (.ex ex) S r' h'/\Conc E.n E.X g' r' h' a' w'/\Step E.X g h w g' h' w') hs
  (h:=h) (fun kn nf ents hi1 hfin hc1=>?_) pre [] [] [] hi hr hc' hunl
 ·exact this
 obtain ⟨vs,hvs,hP⟩:=hfin;refine draw_gameC (n:=E.n) (P:=P) (X:=E.X) (r:=r) (c:=c1) (K:=run P c F E k (.ex .normal) S) (SP:=fun v h2=>run P c F E k (.ex (.pan v)) S [] h2) hs hom hgd hop hcl hlate _ kn nf ents h _ g a w.drew hi1 ⟨vs,hvs,hP.mono (fun v h' hh=>⟨hh.1,?_⟩) fun v h' hh=>hh⟩ hc1 hunl ?_ ?_
 ·exact setP_mono (fun _ hh=>rdraw_ok (fun _ _ h=>h) hh) hh.2
 ·intro r' h' g' a' w' hK hc2 hst;exact ⟨.normal,g',r',h',rfl,hK,hc2,ds.trans hc.cw.own hst⟩
 intro v h' g' a' w' hS hc2 hst;exact ⟨.pan v,g',[],h',rfl,hS,hc2,ds.trans hc.cw.own hst⟩
end Go.Abs
namespace Go.Abs.Wall.Dic
open Go Go.Abs Go.Proofs Go.Abs.Wall
def c216:Cfg:=⟨[0,2,3,5,14],[19],[],[],[(2,[],[]),(3,[],[]),(5,[],[])],[19]⟩
def kA (c:Cfg) (n:Nat):Cfg:={ c with keep:=List.range n }
def AboveC (rb:Nat) (s:List UInt8) (a:Nat):Prop:=∀ w,PCalls Tryz.prog 212 [.optr rb 0,.bool w] [RD rb s a] (fun v h'=>∃ cs,v=.agg cs/\GotI rb s a cs h') (Bad rb s)
def OverC (rb:Nat) (s:List UInt8) (a:Nat):Prop:=PCalls Tryz.prog 216 [.optr rb 0] [RD rb s a] (fun v h'=>∃ cs sh,v=.tup [.agg cs,.bool sh]/\GotI rb s a cs h') (Bad rb s)
def BesideC (rb:Nat) (s:List UInt8) (a:Nat):Prop:=PCalls Tryz.prog 213 [.optr rb 0] [RD rb s a] (fun v h'=>∃ cs,v=.agg cs/\GotI rb s a cs h') (Bad rb s)
theorem overP (rb:Nat) (s:List UInt8) (a:Nat) (ha:a<=s.length) (hs:s.length<=65536) (hA:∀ a',a<a'->a'<=s.length->AboveC rb s a') :
  PCalls Tryz.prog 216 [.optr rb 0] [RD rb s a] (fun v h'=>∃ cs sh h1,v=.tup [.agg cs,.bool sh]/\GotI rb s a cs h1/\List.Sublist h1 h') (Bad rb s):=by
 refine fpcalls (F:=Tryz.f216) c216 rfl rfl rfl mixed rfl fun X=>?_;(conv=>whnf);unfold RD;repeat (intro (nb:Nat);conv=>whnf)
 show ACalls _ _ _ ([(nb,.vec (itmC zN [] 0 .nilS))]++[RD rb s a]) _;refine isB rb s a 40 ha hs _ fun m b hb hbs hm=>?_;(conv=>whnf);skip;refine ⟨fun h1=>?_,fun h1=>?_⟩
 ·have hab:=hm h1;(conv=>whnf);skip;refine region_pcall (c1:=kA c216 26) (c2:=kA c216 26) rfl 1 rfl rfl rfl rfl ?_;(conv=>whnf);skip;refine ⟨_,rfl,((hA b hab hbs true).under [(nb,.vec (itmC zN [] 0 .nilS))]).mono (fun v h' h=>?_) fun v h' hS=>?_⟩
  rotate_left
  ·(conv=>whnf);exact hS
  obtain ⟨_,⟨cs,rfl,x,hp,b2,hx,hb2,hb2s,hsz,rfl⟩,rfl⟩:=h;obtain ⟨nd,code,n,k,rfl⟩:=hx.form;(conv=>whnf);repeat ((refine ⟨_,_,.here _,⟨Nat.le_of_ble_eq_true rfl,Nat.le_of_ble_eq_true rfl⟩,?_⟩);conv=>whnf)
  refine region_pcall (c1:=kA c216 26) (c2:=kA c216 26) rfl 1 rfl rfl rfl rfl ?_;(conv=>whnf);skip;refine ⟨_,rfl,((mustW rb s b2 41 hb2s hs).under ((nb,.vec (itmC nd code n k))::hp)).mono (fun v h' h=>?_) fun v h' hS=>?_⟩
  rotate_left
  ·(conv=>whnf);exact hS
  obtain ⟨_,⟨rfl,hlt,rfl⟩,rfl⟩:=h;(conv=>whnf);repeat ((first|(refine ⟨_,_,.head _,rfl,?_⟩)|(refine ⟨_,_,.here _,⟨Nat.le_of_ble_eq_true rfl,Nat.le_of_ble_eq_true rfl⟩,?_⟩));conv=>whnf)
  exact ⟨itmC nd code n k,true,_,rfl,⟨x,hp,b2+1,hx,by omega,by omega,by omega,rfl⟩,.cons _ (.refl _)⟩
 (conv=>whnf);skip;refine region_pcall (c1:=kA c216 26) (c2:=kA c216 26) rfl 1 rfl rfl rfl rfl ?_;(conv=>whnf);skip;refine ⟨_,rfl,((leafW rb s b hbs hs).under [(nb,.vec (itmC zN [] 0 .nilS))]).mono (fun v h' h=>?_) fun v h' hS=>?_⟩
 rotate_left
 ·(conv=>whnf);exact hS
 obtain ⟨_,⟨cs,rfl,x,hp,b2,hx,hb2,hb2s,hsz,rfl⟩,rfl⟩:=h;obtain ⟨nd,code,n,k,rfl⟩:=hx.form;(conv=>whnf);repeat ((refine ⟨_,_,.here _,⟨Nat.le_of_ble_eq_true rfl,Nat.le_of_ble_eq_true rfl⟩,?_⟩);conv=>whnf)
 show ACalls _ _ _ (((nb,.vec (itmC nd code n k))::hp)++[RD rb s b2]) _;refine isB rb s b2 38 hb2s hs _ fun m2 b3 hb3 hb3s _=>?_;(conv=>whnf);skip;refine ⟨fun h3=>?_,fun h3=>?_⟩
 ·(conv=>whnf);skip;refine region_dcall (c1:=kA c216 26) rfl mixed [0,1,2] 3 [4,5,6] (by rfl) (by rfl) (by rfl) (by rfl) (by rfl) (by rfl) ?_;(conv=>whnf);repeat ((refine ⟨_,_,.head _,rfl,?_⟩);conv=>whnf)
  refine ⟨_,rfl,((leafW rb s b3 hb3s hs).under ((nb,.vec (itmC nd code n k))::hp)).mono (fun v h' h=>?_) fun v h' hS=>?_⟩
  rotate_left
  ·(conv=>whnf);exact hS
  obtain ⟨_,⟨cs2,rfl,x2,hp2,b4,hx2,hb4,hb4s,hsz2,rfl⟩,rfl⟩:=h;obtain ⟨nd2,code2,n2,k2,rfl⟩:=hx2.form;refine ⟨fun j hj=>?_,?_⟩
  ·have hj:j∈[1]:=hj;rw [List.mem_singleton] at hj;subst hj;exact .inr ⟨_,_,_,_,_,rfl,rfl,rfl,rfl,rfl,_,.head _,.head _⟩
  (conv=>whnf);repeat ((first|refine ⟨_,_,.tail _ (.head _),rfl,?_⟩|refine ⟨_,_,.there (.here _),leOK,?_⟩|intro (nb:Nat));conv=>whnf)
  exact ⟨itmC ⟨4,0,0,0,false,0,0,0⟩ [] 0 (.osl nb 0 2 11),false,_,rfl,⟨.mk ⟨4,0,0,0,false,0,0,0⟩ [] 0 [x,x2],_,b4,.node _ _ _ [x,x2] nb [itmC nd code n k,itmC nd2 code2 n2 k2] _ (by simp) (by simp) (.cons _ _ _ _ _ _ hx (.cons _ _ _ _ _ _ hx2 .nil)),by omega,by omega,by simp only [isz,iszs];omega,rfl⟩,by simp only [List.append_nil,<- List.append_assoc];exact .cons_cons _ (.cons _ (by simp))⟩
 (conv=>whnf);repeat ((first|(refine ⟨_,_,.head _,rfl,?_⟩)|(refine ⟨_,_,.here _,⟨Nat.le_of_ble_eq_true rfl,Nat.le_of_ble_eq_true rfl⟩,?_⟩));conv=>whnf)
 exact ⟨itmC nd code n k,false,_,rfl,⟨x,hp,b3,hx,by omega,by omega,by omega,rfl⟩,.cons _ (.refl _)⟩
theorem nodup_of_sub {a b:Heap} (h:List.Sublist a b) (hn:(keys b).Nodup):(keys a).Nodup:=(h.map _).nodup hn
theorem PCalls.sub {f:FuncId} {args:List AV} {h:Heap} {R R':AV->Heap->Prop} {S:Value->Heap->Prop} (hf:PCalls Tryz.prog f args h R S) (hp:∀ v h1,R v h1->∃ h',R' v h'/\List.Sublist h' h1):PCalls Tryz.prog f args h R' S:=by refine PCalls.post hf (fun v h1 hR=>?_) fun v h1 hS=>⟨h1,hS,fun _ _ hm=>hm,fun hn=>hn⟩;obtain ⟨h',k1,k2⟩:=hp v h1 hR;exact ⟨v,h',k1,VLe.refl _,fun k o hm=>k2.subset hm,nodup_of_sub k2⟩
theorem overW (rb:Nat) (s:List UInt8) (a:Nat) (ha:a<=s.length) (hs:s.length<=65536) (hA:∀ a',a<a'->a'<=s.length->AboveC rb s a'):OverC rb s a:=
 PCalls.sub (overP rb s a ha hs hA) fun v h1 ⟨cs,sh,h2,e,hg,hsub⟩=>⟨h2,⟨cs,sh,e,hg⟩,hsub⟩
end Go.Abs.Wall.Dic
