/- Small laws for the walks and contracts of functions; each theorem names its conditions. -/
import Derived.Test.YtdjdbggpgmddnaaGreatN23
import Derived.Test.YtdjdbggpgmddnaaGreatN13
set_option maxRecDepth 100000
set_option maxHeartbeats 2000000
set_option linter.unusedVariables false
set_option linter.unusedSimpArgs false
namespace Go.Abs.Wall.Dic
open Go Go.Abs Go.Proofs Go.Abs.Wall
def c50:Cfg:=⟨[0,1,2,3,6,7,8,9,10,11,12,49,50,62,74,82,107],[],[7,8,9,10,11,12],[],[],[]⟩
def kF (ks:List Nat):Cfg:={ c50 with keep:=ks,own:=[],frz:=[7],ords:=[] }
def FamH (b12 b11 b10 b9 b8 b6:Nat) (m g be ab ho:Int):Heap:=[(b12,.vec [.int .i64 ho]),(b11,.vec [.int .i64 ab]),(b10,.vec [.int .i64 be]),(b9,.vec [.int .i64 g]),(b8,.vec [.int .i64 m]),(b6,.vec [.bool false])]
def FamJ (b12 b11 b10 b9 b8 b6:Nat) (i:Nat) (H:Heap):Prop:=∃ g be ab ho:Int,(0<=g/\g<=i)/\(0<=be/\be<=i)/\(0<=ab/\ab<=i)/\(0<=ho/\ho<=i)/\H=FamH b12 b11 b10 b9 b8 b6 i g be ab ho
def FamX (b12 b11 b10 b9 b8 b6:Nat) (H:Heap):Prop:=∃ m g be ab ho:Int,H=FamH b12 b11 b10 b9 b8 b6 m g be ab ho
theorem split6 {a b c d e f x:Nat × Ob}:[a,b,c,d,e,f,x]=[a,b,c,d,e,f]++[x]:=rfl
theorem familyP (l:List Nod) (i:Nat) (n:Nod) (parent:Int) (hn:l[i]?=some n) (hl:l.length<=1048576) :
  ACalls Tryz.prog 50 [nodesV l,.int .i64 i,.int .i64 parent] [] (fun v _=>∃ b,v=.bool b/\(b=true->n.kind=7->2<=(kidsL l i).length)):=by
 have hil:=(List.getElem?_eq_some_iff.1 hn).1;have hkl:=kidsL_len (l:=l) (node:=i) (by omega);refine fxcalls (F:=Tryz.f50) rfl rfl rfl rfl fun X=>?_;unfold nodesV;refine HX.seq (HX.region (RO.plain (c:=kF [1,2,3,6]) ?_));(conv=>whnf);repeat (intro (nb:Nat);conv=>whnf)
 revert nb;intro b6;refine HX.seq (HX.region (RO.plain (c:=kF [1,2,3,6,7]) ?_));(conv=>whnf);repeat ((first|(refine ⟨i,encNod n,gP_of ⟨rfl,by simp [hn]⟩,?_⟩)|(refine ⟨_,_,Rem.here _,⟨Nat.le_of_ble_eq_true rfl,rfl⟩,?_⟩)|intro (nb:Nat));conv=>whnf)
 refine HX.seq (HX.region (RO.plain (c:=kF [1,2,3,6,7,8,9,10,11,12]) ?_));(conv=>whnf);repeat ((first|(refine ⟨_,_,.here _,⟨Nat.le_of_ble_eq_true rfl,Nat.le_of_ble_eq_true rfl⟩,?_⟩)|(refine ⟨_,_,.there (.here _),⟨Nat.le_of_ble_eq_true rfl,Nat.le_of_ble_eq_true rfl⟩,?_⟩)|(refine ⟨_,_,.there (.there (.here _)),⟨Nat.le_of_ble_eq_true rfl,Nat.le_of_ble_eq_true rfl⟩,?_⟩)|(refine ⟨_,_,.there (.there (.there (.here _))),⟨Nat.le_of_ble_eq_true rfl,Nat.le_of_ble_eq_true rfl⟩,?_⟩)|(refine ⟨_,_,.there (.there (.there (.there (.here _)))),⟨Nat.le_of_ble_eq_true rfl,Nat.le_of_ble_eq_true rfl⟩,?_⟩)|intro (nb:Nat));conv=>whnf)
 rename_i b8 b9 b10 b11;revert nb;intro b12;refine HX.seq (HX.seq (HX.region (RO.plain (c:=kF [2,3,6,7,8,9,10,11,12,20]) ?_)));(conv=>whnf);repeat (refine QCall.k0 (kidsW l i) ?_;conv=>whnf)
 refine HX.block (HX.range (caps:=_) (gf:=110) (by simp) rfl ⟨Tryz.f110,_,rfl,rfl,rfl⟩ (kidsIt l i (by omega) hl) (FamJ b12 b11 b10 b9 b8 b6) (FamX b12 b11 b10 b9 b8 b6) ⟨0,0,0,0,by omega,by omega,by omega,by omega,rfl⟩ ?_ ?_ ?_)
 ·intro j k H hk hJ X' yl;rw [List.getElem?_map] at hk
  obtain ⟨x,hx,rfl⟩:∃ x,(kidsL l i)[j]?=some x/\AV.int .i64 (x:Nat)=k:=by
   cases hh:(kidsL l i)[j]? with
   | none=>rw [hh] at hk;cases hk
   | some x=>rw [hh] at hk;exact ⟨x,rfl,Option.some.inj hk⟩
  have hxin:=kidsL_in (l:=l) (node:=i) (by omega) (by omega) x (List.mem_of_getElem? hx);obtain ⟨nx,hnx⟩:∃ n,l[x]?=some n:=⟨_,List.getElem?_eq_getElem hxin.2⟩;obtain ⟨g,be,ab,ho,h1,h2,h3,h4,rfl⟩:=hJ;have hj:=(List.getElem?_eq_some_iff.1 hx).1;unfold FamH;(conv=>whnf);refine HI.region rfl (RO.plain (c:=kF [2,3,6,7,8,9,10,11,12,13]) ?_);(conv=>whnf);skip;refine ⟨rfl,HI.block (HI.seq (HI.region rfl (RO.plain (c:=kF [3,6,7,8,9,10,11,12,13]) ?_)))⟩;(conv=>whnf);repeat ((first|refine ⟨gP_of ⟨by omega,by omega⟩,?_⟩|(refine ⟨_,_,.tail _ (.tail _ (.tail _ (.tail _ (.head _)))),rfl,?_⟩)|(refine ⟨_,_,.there (.there (.there (.there (.here _)))),⟨Nat.le_of_ble_eq_true rfl,Nat.le_of_ble_eq_true rfl⟩,?_⟩));conv=>whnf)
  refine HI.seq (HI.region rfl (RO.plain (c:=kF [6,7,8,9,10,11,12,28]) ?_));(conv=>whnf);repeat ((refine ⟨x,encNod nx,gP_of ⟨rfl,by simp [hnx]⟩,?_⟩);conv=>whnf)
  refine HI.block (HI.seq (HI.region rfl (RO.plain (c:=kF [6,7,8,9,10,11,12,28,29]) ?_)));(conv=>whnf);skip;refine HI.cond rfl (fun c1=>?_) fun c1=>?_
  ·refine HI.region rfl (RO.plain (c:=kF []) ?_);(conv=>whnf);repeat ((first|refine ⟨gP_of ⟨by omega,by omega⟩,?_⟩|(refine ⟨_,_,.tail _ (.tail _ (.tail _ (.head _))),rfl,?_⟩)|(refine ⟨_,_,.there (.there (.there (.here _))),⟨Nat.le_of_ble_eq_true rfl,Nat.le_of_ble_eq_true rfl⟩,?_⟩));conv=>whnf)
   exact ⟨g+1,be,ab,ho,by omega,by omega,by omega,by omega,by unfold FamH;rw [show ((j+1:Nat):Int)=(j:Int)+1 by omega];rfl⟩
  refine HI.seq (HI.region rfl (RO.plain (c:=kF [6,7,8,9,10,11,12,28,33]) ?_));(conv=>whnf);skip;refine HI.cond rfl (fun c2=>?_) fun c2=>?_
  ·refine HI.region rfl (RO.plain (c:=kF []) ?_);(conv=>whnf);repeat ((first|refine ⟨gP_of ⟨by omega,by omega⟩,?_⟩|(refine ⟨_,_,.tail _ (.tail _ (.head _)),rfl,?_⟩)|(refine ⟨_,_,.there (.there (.here _)),⟨Nat.le_of_ble_eq_true rfl,Nat.le_of_ble_eq_true rfl⟩,?_⟩));conv=>whnf)
   exact ⟨g,be+1,ab,ho,by omega,by omega,by omega,by omega,by unfold FamH;rw [show ((j+1:Nat):Int)=(j:Int)+1 by omega];rfl⟩
  refine HI.seq (HI.region rfl (RO.plain (c:=kF [6,7,8,9,10,11,12,28,37]) ?_));(conv=>whnf);skip;refine HI.cond rfl (fun c3=>?_) fun c3=>?_
  ·refine HI.region rfl (RO.plain (c:=kF []) ?_);(conv=>whnf);repeat ((first|refine ⟨gP_of ⟨by omega,by omega⟩,?_⟩|(refine ⟨_,_,.tail _ (.head _),rfl,?_⟩)|(refine ⟨_,_,.there (.here _),⟨Nat.le_of_ble_eq_true rfl,Nat.le_of_ble_eq_true rfl⟩,?_⟩));conv=>whnf)
   exact ⟨g,be,ab+1,ho,by omega,by omega,by omega,by omega,by unfold FamH;rw [show ((j+1:Nat):Int)=(j:Int)+1 by omega];rfl⟩
  refine HI.seq (HI.region rfl (RO.plain (c:=kF [6,7,8,9,10,11,12,41]) ?_));(conv=>whnf);skip;refine HI.cond rfl (fun c4=>?_) fun c4=>?_
  ·refine HI.seq (HI.region rfl (RO.plain (c:=kF [6,7]) ?_));(conv=>whnf);repeat ((first|refine ⟨gP_of ⟨by omega,by omega⟩,?_⟩|(refine ⟨_,_,.head _,rfl,?_⟩)|(refine ⟨_,_,.here _,⟨Nat.le_of_ble_eq_true rfl,Nat.le_of_ble_eq_true rfl⟩,?_⟩));conv=>whnf)
   refine HI.seq (HI.region rfl (RO.plain (c:=kF [6,47]) ?_));(conv=>whnf);skip;refine HI.cond rfl (fun c5=>?_) fun c5=>?_
   ·refine HI.seq (HI.region rfl (RO.plain (c:=kF []) ?_));(conv=>whnf);repeat ((refine ⟨_,_,.there (.there (.there (.there (.there (.here _))))),⟨Nat.le_of_ble_eq_true rfl,Nat.le_of_ble_eq_true rfl⟩,?_⟩);conv=>whnf)
    refine HI.ret ?_;exact ⟨_,g,be,ab,ho+1,rfl⟩
   refine HI.skip ?_;exact ⟨g,be,ab,ho+1,by omega,by omega,by omega,by omega,by unfold FamH;rw [show ((j+1:Nat):Int)=(j:Int)+1 by omega];rfl⟩
  refine HI.skip ?_;exact ⟨g,be,ab,ho,by omega,by omega,by omega,by omega,by unfold FamH;rw [show ((j+1:Nat):Int)=(j:Int)+1 by omega];rfl⟩
 ·intro d kd H hJ;rw [List.length_map] at hJ;obtain ⟨g,be,ab,ho,h1,h2,h3,h4,rfl⟩:=hJ;unfold FamH;(conv=>whnf);refine HX.seq (HX.seq (HX.region (RO.plain (c:=kF [2,6,7,8,9,10,11,12,49]) ?_)));(conv=>whnf);skip;refine HX.block (HX.seq (HX.region (RO.plain (c:=kF [2,6,7,8,9,10,11,12,49,50]) ?_)));(conv=>whnf);skip;refine HX.cond rfl (fun c1=>?_) fun c1=>?_
  ·refine HX.seq (HX.region (RO.plain (c:=kF [6]) ?_));(conv=>whnf);repeat ((first|(refine ⟨_,_,.tail _ (.tail _ (.head _)),rfl,?_⟩)|(refine ⟨_,_,.tail _ (.tail _ (.tail _ (.tail _ (.head _)))),rfl,?_⟩)|(refine ⟨_,_,.there (.there (.there (.there (.there (.here _))))),⟨Nat.le_of_ble_eq_true rfl,Nat.le_of_ble_eq_true rfl⟩,?_⟩));conv=>whnf)
   refine HX.ret ⟨d,kd,_,rfl,split6,?_⟩;(conv=>whnf);repeat ((refine ⟨_,_,.tail _ (.tail _ (.tail _ (.tail _ (.tail _ (.head _))))),rfl,?_⟩);conv=>whnf)
   exact ⟨_,rfl,fun _ h7=>by have:=of_decide_eq_true c1;omega⟩
  refine HX.seq (HX.region (RO.plain (c:=kF [2,6,7,8,9,10,11,12,49,62]) ?_));(conv=>whnf);skip;refine HX.cond rfl (fun c2=>?_) fun c2=>?_
  ·refine HX.seq (HX.region (RO.plain (c:=kF [6]) ?_));(conv=>whnf);repeat ((first|(refine ⟨_,_,.tail _ (.head _),rfl,?_⟩)|(refine ⟨_,_,.tail _ (.tail _ (.tail _ (.tail _ (.head _)))),rfl,?_⟩)|(refine ⟨_,_,.there (.there (.there (.there (.there (.here _))))),⟨Nat.le_of_ble_eq_true rfl,Nat.le_of_ble_eq_true rfl⟩,?_⟩));conv=>whnf)
   refine HX.ret ⟨d,kd,_,rfl,split6,?_⟩;(conv=>whnf);repeat ((refine ⟨_,_,.tail _ (.tail _ (.tail _ (.tail _ (.tail _ (.head _))))),rfl,?_⟩);conv=>whnf)
   exact ⟨_,rfl,fun _ h7=>by have:=of_decide_eq_true c2;omega⟩
  refine HX.seq (HX.region (RO.plain (c:=kF [2,6,7,8,9,10,11,12,49,74]) ?_));(conv=>whnf);skip;refine HX.cond rfl (fun c3=>?_) fun c3=>?_
  ·refine HX.seq (HX.region (RO.plain (c:=kF [6]) ?_));(conv=>whnf);repeat ((first|(refine ⟨_,_,.tail _ (.tail _ (.tail _ (.head _))),rfl,?_⟩)|(refine ⟨_,_,.tail _ (.tail _ (.tail _ (.tail _ (.head _)))),rfl,?_⟩)|(refine ⟨_,_,.there (.there (.there (.there (.there (.here _))))),⟨Nat.le_of_ble_eq_true rfl,Nat.le_of_ble_eq_true rfl⟩,?_⟩));conv=>whnf)
   refine HX.ret ⟨d,kd,_,rfl,split6,?_⟩;(conv=>whnf);repeat ((refine ⟨_,_,.tail _ (.tail _ (.tail _ (.tail _ (.tail _ (.head _))))),rfl,?_⟩);conv=>whnf)
   exact ⟨_,rfl,fun _ h7=>by have:=of_decide_eq_true c3;omega⟩
  refine HX.seq (HX.region (RO.plain (c:=kF [2,6,7,8,9,10,11,12,49,82]) ?_));(conv=>whnf);skip;refine HX.cond rfl (fun c4=>?_) fun c4=>?_
  ·refine HX.seq (HX.region (RO.plain (c:=kF [6]) ?_));(conv=>whnf);repeat ((first|(refine ⟨_,_,.head _,rfl,?_⟩)|(refine ⟨_,_,.tail _ (.tail _ (.head _)),rfl,?_⟩)|(refine ⟨_,_,.tail _ (.tail _ (.tail _ (.tail _ (.head _)))),rfl,?_⟩)|(refine ⟨_,_,.there (.there (.there (.there (.there (.here _))))),⟨Nat.le_of_ble_eq_true rfl,Nat.le_of_ble_eq_true rfl⟩,?_⟩));conv=>whnf)
   refine HX.ret ⟨d,kd,_,rfl,split6,?_⟩;(conv=>whnf);repeat ((refine ⟨_,_,.tail _ (.tail _ (.tail _ (.tail _ (.tail _ (.head _))))),rfl,?_⟩);conv=>whnf)
   exact ⟨_,rfl,fun _ h7=>by have:=of_decide_eq_true c4;omega⟩
  refine HX.seq (HX.region (RO.plain (c:=kF [2,6,7,8,9,10,11,12,49,107]) ?_));(conv=>whnf);skip;refine HX.cond rfl (fun c5=>?_) fun c5=>?_
  ·refine HX.seq (HX.region (RO.plain (c:=kF [6]) ?_));(conv=>whnf);repeat ((first|(refine ⟨_,_,.tail _ (.tail _ (.head _)),rfl,?_⟩)|(refine ⟨_,_,.tail _ (.tail _ (.tail _ (.tail _ (.head _)))),rfl,?_⟩)|(refine ⟨_,_,.there (.there (.there (.there (.there (.here _))))),⟨Nat.le_of_ble_eq_true rfl,Nat.le_of_ble_eq_true rfl⟩,?_⟩));conv=>whnf)
   refine HX.ret ⟨d,kd,_,rfl,split6,?_⟩;(conv=>whnf);repeat ((refine ⟨_,_,.tail _ (.tail _ (.tail _ (.tail _ (.tail _ (.head _))))),rfl,?_⟩);conv=>whnf)
   exact ⟨_,rfl,fun hb _=>by simp only [Bool.and_eq_true] at hb;have:=of_decide_eq_true hb.1.1.1;omega⟩
  refine HX.skip ?_;(conv=>whnf);refine HX.seq (HX.region (RO.plain (c:=kF [6]) ?_));(conv=>whnf);repeat ((refine ⟨_,_,.there (.there (.there (.there (.there (.here _))))),⟨Nat.le_of_ble_eq_true rfl,Nat.le_of_ble_eq_true rfl⟩,?_⟩);conv=>whnf)
  refine HX.ret ⟨d,kd,_,rfl,split6,?_⟩;(conv=>whnf);repeat ((refine ⟨_,_,.tail _ (.tail _ (.tail _ (.tail _ (.tail _ (.head _))))),rfl,?_⟩);conv=>whnf)
  exact ⟨_,rfl,fun _ h7=>by rw [decide_eq_true h7] at c5;cases c5⟩
 intro d kd H hJ;obtain ⟨m,g,be,ab,ho,rfl⟩:=hJ;(conv=>whnf);refine ⟨d,kd,_,rfl,rfl,?_⟩;unfold FamH;(conv=>whnf);repeat ((refine ⟨_,_,.tail _ (.tail _ (.tail _ (.tail _ (.tail _ (.head _))))),rfl,?_⟩);conv=>whnf)
 exact ⟨_,rfl,fun h=>by cases h⟩
theorem familyW (l:List Nod) (i:Nat) (n:Nod) (parent:Int) (hn:l[i]?=some n) (hl:l.length<=1048576) :
  ACalls Tryz.prog 50 [nodesV l,.int .i64 i,.int .i64 parent] [] (fun v h'=>∃ b,v=.bool b/\(b=true->n.kind=7->2<=(kidsL l i).length)/\h'=[]):=by
 refine ACalls.post (familyP l i n parent hn hl) ?_;rintro v h' ⟨b,rfl,hb⟩;exact ⟨_,[],⟨b,rfl,hb,rfl⟩,VLe.refl _,(fun k o hm=>by cases hm),fun _=>List.nodup_nil⟩
end Go.Abs.Wall.Dic
namespace Go.Abs.Wall.Dic
open Go Go.Abs Go.Proofs Go.Abs.Wall
def c49:Cfg:=⟨[0,1,2,3,4,6,7,8,9,22,24,39,55,62,63,75,106,119,140,149],[],[7],[],[(18,[0,1,2,3,4,5,6,7,8,9,10,11,12,13,14,15],[]),(22,[0,1,2,3,4,5,6,7],[])],[]⟩
theorem firstP (L:Lst) (l:List Nod) (i:Nat) (n:Nod) (hn:l[i]?=some n) (hl:l.length<=1048576) (hs:L.signs.length<=LMAX) (hd:∀ n∈l,0<=n.depth/\n.depth<=4294967296) :
  ACalls Tryz.prog 49 [.agg (encLst L),.agg [nodesV l],.int .i64 i] [] (fun v _=>∃ e,v=.int .i64 e/\(e=0->0<=n.depth/\n.depth<=4)):=by
 have hil:=(List.getElem?_eq_some_iff.1 hn).1;refine fcalls (F:=Tryz.f49) c49 rfl rfl rfl mixed rfl fun X=>?_;(conv=>whnf);unfold nodesV;repeat ((first|refine ix (by assumption) ?_|(refine ⟨_,_,Rem.here _,⟨Nat.le_of_ble_eq_true rfl,rfl⟩,?_⟩)|intro (nb:Nat));conv=>whnf)
 refine ⟨fun c1=>?_,fun c1=>?_⟩
 ·(conv=>whnf);skip;exact ⟨20,rfl,by omega⟩
 (conv=>whnf);skip;have hd0:=hd n (List.mem_of_getElem? hn);refine ⟨fun c0=>?_,fun c0=>?_⟩
 ·have hi0:0<i:=by have:=of_decide_eq_true c0;omega
  obtain ⟨np,hnp⟩:∃ n,l[i - 1]?=some n:=⟨_,List.getElem?_eq_getElem (by omega)⟩;have hdp:=hd np (List.mem_of_getElem? hnp);have e1:(i:Int) - 1=((i - 1:Nat):Int):=(by omega);(conv=>whnf);repeat ((first|refine ⟨gP_of ⟨by omega,by omega⟩,?_⟩|(refine ⟨i - 1,encNod np,gP_of ⟨e1,by simp [hnp]⟩,?_⟩)|refine QCall.k0 (isLeafW np) ?_);conv=>whnf)
  refine ⟨fun cl=>?_,fun cl=>?_⟩
  ·(conv=>whnf);repeat (refine ⟨gP_of ⟨by omega,by omega⟩,?_⟩;conv=>whnf)
   refine ⟨fun c2=>?_,fun c2=>?_⟩
   ·(conv=>whnf);skip;exact ⟨21,rfl,by omega⟩
   (conv=>whnf);repeat ((first|refine ⟨_,_,.here _,leOK,?_⟩|intro (nb:Nat));conv=>whnf)
   refine ⟨fun c3=>?_,fun c3=>?_⟩
   ·(conv=>whnf);skip;refine ⟨fun c4=>?_,fun c4=>?_⟩
    ·(conv=>whnf);skip;exact ⟨23,rfl,by omega⟩
    have hsg:0<=n.sign/\n.sign<L.signs.length:=by simp at c4;omega
    obtain ⟨j,hj⟩:=Int.eq_ofNat_of_zero_le hsg.1;obtain ⟨sg,hsj⟩:∃ s,L.signs[j]?=some s:=⟨_,List.getElem?_eq_getElem (by omega)⟩;(conv=>whnf);repeat ((refine ⟨j,encSgn sg,gP_of ⟨hj,by simp [hsj]⟩,?_⟩);conv=>whnf)
    refine ⟨fun c5=>?_,fun c5=>?_⟩
    ·(conv=>whnf);skip;exact ⟨20,rfl,by omega⟩
    (conv=>whnf);repeat ((first|(refine ⟨_,_,.here _,⟨Nat.le_of_ble_eq_true rfl,Nat.le_of_ble_eq_true rfl⟩,?_⟩)|(refine ⟨_,_,.head _,rfl,?_⟩)|(refine ⟨by decide +kernel,?_⟩));conv=>whnf)
    refine ⟨fun c8=>?_,fun c8=>?_⟩
    ·(conv=>whnf);skip;exact ⟨20,rfl,by omega⟩
    (conv=>whnf);skip;exact ⟨0,rfl,fun _=>⟨hd0.1,by simp at c2;omega⟩⟩
   (conv=>whnf);skip;refine ⟨fun c4=>?_,fun c4=>?_⟩
   ·(conv=>whnf);skip;refine ⟨fun c5=>?_,fun c5=>?_⟩
    ·(conv=>whnf);skip;exact ⟨22,rfl,by omega⟩
    (conv=>whnf);repeat ((first|(refine ⟨_,_,.here _,⟨Nat.le_of_ble_eq_true rfl,Nat.le_of_ble_eq_true rfl⟩,?_⟩)|(refine ⟨_,_,.head _,rfl,?_⟩)|(refine ⟨by decide +kernel,?_⟩));conv=>whnf)
    refine ⟨fun c8=>?_,fun c8=>?_⟩
    ·(conv=>whnf);skip;exact ⟨20,rfl,by omega⟩
    (conv=>whnf);skip;exact ⟨0,rfl,fun _=>⟨hd0.1,by simp at c2;omega⟩⟩
   (conv=>whnf);repeat ((first|(refine ⟨_,_,.head _,rfl,?_⟩)|(refine ⟨by decide +kernel,?_⟩));conv=>whnf)
   refine ⟨fun c8=>?_,fun c8=>?_⟩
   ·(conv=>whnf);skip;exact ⟨20,rfl,by omega⟩
   (conv=>whnf);skip;exact ⟨0,rfl,fun _=>⟨hd0.1,by simp at c2;omega⟩⟩
  (conv=>whnf);skip;refine ⟨fun c2=>?_,fun c2=>?_⟩
  ·(conv=>whnf);skip;exact ⟨21,rfl,by omega⟩
  (conv=>whnf);repeat ((first|refine ⟨_,_,.here _,leOK,?_⟩|intro (nb:Nat));conv=>whnf)
  refine ⟨fun c3=>?_,fun c3=>?_⟩
  ·(conv=>whnf);skip;refine ⟨fun c4=>?_,fun c4=>?_⟩
   ·(conv=>whnf);skip;exact ⟨23,rfl,by omega⟩
   have hsg:0<=n.sign/\n.sign<L.signs.length:=by simp at c4;omega
   obtain ⟨j,hj⟩:=Int.eq_ofNat_of_zero_le hsg.1;obtain ⟨sg,hsj⟩:∃ s,L.signs[j]?=some s:=⟨_,List.getElem?_eq_getElem (by omega)⟩;(conv=>whnf);repeat ((refine ⟨j,encSgn sg,gP_of ⟨hj,by simp [hsj]⟩,?_⟩);conv=>whnf)
   refine ⟨fun c5=>?_,fun c5=>?_⟩
   ·(conv=>whnf);skip;exact ⟨20,rfl,by omega⟩
   (conv=>whnf);repeat ((first|(refine ⟨_,_,.here _,⟨Nat.le_of_ble_eq_true rfl,Nat.le_of_ble_eq_true rfl⟩,?_⟩)|(refine ⟨_,_,.head _,rfl,?_⟩)|(refine ⟨by decide +kernel,?_⟩));conv=>whnf)
   refine ⟨fun c8=>?_,fun c8=>?_⟩
   ·(conv=>whnf);skip;exact ⟨20,rfl,by omega⟩
   (conv=>whnf);skip;exact ⟨0,rfl,fun _=>⟨hd0.1,by simp at c2;omega⟩⟩
  (conv=>whnf);skip;refine ⟨fun c4=>?_,fun c4=>?_⟩
  ·(conv=>whnf);skip;refine ⟨fun c5=>?_,fun c5=>?_⟩
   ·(conv=>whnf);skip;exact ⟨22,rfl,by omega⟩
   (conv=>whnf);repeat ((first|(refine ⟨_,_,.here _,⟨Nat.le_of_ble_eq_true rfl,Nat.le_of_ble_eq_true rfl⟩,?_⟩)|(refine ⟨_,_,.head _,rfl,?_⟩)|(refine ⟨by decide +kernel,?_⟩));conv=>whnf)
   refine ⟨fun c8=>?_,fun c8=>?_⟩
   ·(conv=>whnf);skip;exact ⟨20,rfl,by omega⟩
   (conv=>whnf);skip;exact ⟨0,rfl,fun _=>⟨hd0.1,by simp at c2;omega⟩⟩
  (conv=>whnf);repeat ((first|(refine ⟨_,_,.head _,rfl,?_⟩)|(refine ⟨by decide +kernel,?_⟩));conv=>whnf)
  refine ⟨fun c8=>?_,fun c8=>?_⟩
  ·(conv=>whnf);skip;exact ⟨20,rfl,by omega⟩
  (conv=>whnf);skip;exact ⟨0,rfl,fun _=>⟨hd0.1,by simp at c2;omega⟩⟩
 (conv=>whnf);skip;refine ⟨fun c2=>?_,fun c2=>?_⟩
 ·(conv=>whnf);skip;exact ⟨21,rfl,by omega⟩
 (conv=>whnf);repeat ((first|refine ⟨_,_,.here _,leOK,?_⟩|intro (nb:Nat));conv=>whnf)
 refine ⟨fun c3=>?_,fun c3=>?_⟩
 ·(conv=>whnf);skip;refine ⟨fun c4=>?_,fun c4=>?_⟩
  ·(conv=>whnf);skip;exact ⟨23,rfl,by omega⟩
  have hsg:0<=n.sign/\n.sign<L.signs.length:=by simp at c4;omega
  obtain ⟨j,hj⟩:=Int.eq_ofNat_of_zero_le hsg.1;obtain ⟨sg,hsj⟩:∃ s,L.signs[j]?=some s:=⟨_,List.getElem?_eq_getElem (by omega)⟩;(conv=>whnf);repeat ((refine ⟨j,encSgn sg,gP_of ⟨hj,by simp [hsj]⟩,?_⟩);conv=>whnf)
  refine ⟨fun c5=>?_,fun c5=>?_⟩
  ·(conv=>whnf);skip;exact ⟨20,rfl,by omega⟩
  (conv=>whnf);repeat ((first|(refine ⟨_,_,.here _,⟨Nat.le_of_ble_eq_true rfl,Nat.le_of_ble_eq_true rfl⟩,?_⟩)|(refine ⟨_,_,.head _,rfl,?_⟩)|(refine ⟨by decide +kernel,?_⟩));conv=>whnf)
  refine ⟨fun c8=>?_,fun c8=>?_⟩
  ·(conv=>whnf);skip;exact ⟨20,rfl,by omega⟩
  (conv=>whnf);skip;exact ⟨0,rfl,fun _=>⟨hd0.1,by simp at c2;omega⟩⟩
 (conv=>whnf);skip;refine ⟨fun c4=>?_,fun c4=>?_⟩
 ·(conv=>whnf);skip;refine ⟨fun c5=>?_,fun c5=>?_⟩
  ·(conv=>whnf);skip;exact ⟨22,rfl,by omega⟩
  (conv=>whnf);repeat ((first|(refine ⟨_,_,.here _,⟨Nat.le_of_ble_eq_true rfl,Nat.le_of_ble_eq_true rfl⟩,?_⟩)|(refine ⟨_,_,.head _,rfl,?_⟩)|(refine ⟨by decide +kernel,?_⟩));conv=>whnf)
  refine ⟨fun c8=>?_,fun c8=>?_⟩
  ·(conv=>whnf);skip;exact ⟨20,rfl,by omega⟩
  (conv=>whnf);skip;exact ⟨0,rfl,fun _=>⟨hd0.1,by simp at c2;omega⟩⟩
 (conv=>whnf);repeat ((first|(refine ⟨_,_,.head _,rfl,?_⟩)|(refine ⟨by decide +kernel,?_⟩));conv=>whnf)
 refine ⟨fun c8=>?_,fun c8=>?_⟩
 ·(conv=>whnf);skip;exact ⟨20,rfl,by omega⟩
 (conv=>whnf);skip;exact ⟨0,rfl,fun _=>⟨hd0.1,by simp at c2;omega⟩⟩
end Go.Abs.Wall.Dic
namespace Go.Abs.Wall.Dic
open Go Go.Abs Go.Proofs Go.Abs.Wall
theorem hand_array {P:Program} {N:Nat} {X:Nat->Prop} {o:Oper} {r:Regs} {h:Heap} {t e:TypeId} {m k:Nat} {x i:Operand} {b off:Nat} {kq:IntKind} {n:Int} {ie:TypeInfo} (hop:o.op=.indexAddr t x i) (ht:P.underlying t=some (.array m e)) (hie:P.info? e=some ie) (hk:P.cellsOf e=k)
  (hx:opnd r [] x=some (.optr b off)) (hi:opnd r [] i=some (.int kq n)) (j:Nat) (hn:n=j) (hj:j<m):HandOp P N X o r h fun v h'=>v=.optr b (off+j*k)/\h'=h:=by
 subst hn;intro g a w hc next Q hnx;have hg0:holdsC a []:=fun e he=>by cases he
 have hr:=hc.opnd hg0 hx;have hri:=hc.opnd hg0 hi;simp only [Rep] at hr hri;obtain ⟨p,hp,hsp,hv⟩:=hr;obtain ⟨hri,_⟩:=hri;obtain ⟨dst,op,ty,pos,aft,gd⟩:=o;simp only at hop;subst hop
 have hadd:(⟨p.block,p.off+off,none⟩:Addr).add (j*P.cellsOf e)=⟨p.block,p.off+(off+j*P.cellsOf e),none⟩:=by
  unfold Addr.add;split
  ·rename_i h0;rw [h0];simp
  simp [Nat.add_assoc]
 refine wp_value (u:=.pointer (some ⟨p.block,p.off+(off+j*P.cellsOf e),none⟩)) (w':=w) ?_ (hnx _ _ g _ _ ⟨rfl,rfl⟩ hc.cw ?_ (Step.refl _ _ _ _))
 ·simp [execOp,hv,hri,Instr.indexAt,Instr.sureAddr,asIntOf,run_und ht,hj,run_sizeT hie,hadd]
 simp only [Rep];exact ⟨p,hp,hsp,by rw [hk]⟩
theorem firstC (L:Lst) (l:List Nod) (i:Nat) (n:Nod) (hn:l[i]?=some n) (hl:l.length<=1048576) (hs:L.signs.length<=LMAX) (hd:∀ n∈l,0<=n.depth/\n.depth<=4294967296) :
  ACalls Tryz.prog 49 [.agg (encLst L),.agg [nodesV l],.int .i64 i] [] (fun v h'=>∃ e,v=.int .i64 e/\(e=0->0<=n.depth/\n.depth<=4)/\h'=[]):=by
 refine ACalls.post (firstP L l i n hn hl hs hd) ?_;rintro v h' ⟨b,rfl,hb⟩;exact ⟨_,[],⟨b,rfl,hb,rfl⟩,VLe.refl _,(fun k o hm=>by cases hm),fun _=>List.nodup_nil⟩
def TextOK (l:List Nod):Prop:=(∀ n∈l,0<=n.depth/\n.depth<=4)/\∀ (i:Nat) (n:Nod),l[i]?=some n->n.kind=7->2<=(kidsL l i).length
def c23:Cfg:=⟨[0,1,2,3,4,5,6,7,8,9,10,11,15,20,23,24,25,32,36,37,38,39,45,61],[],[10],[],[(19,[],[]),(20,[],[])],[]⟩
theorem checkP (L:Lst) (hL:LstFit L) (l:List Nod) (hl:l.length<=1048576) (hs:L.signs.length<=LMAX) (hd:∀ n∈l,0<=n.depth/\n.depth<=4294967296) :
  ACalls Tryz.prog 23 [.agg (encLst L),.agg [nodesV l]] [] (fun v _=>∃ e,v=.int .i64 e/\(e=0->TextOK l)):=by
 refine fcalls (F:=Tryz.f23) c23 rfl rfl rfl mixed rfl fun X=>?_;(conv=>whnf);unfold nodesV;repeat (refine QCall.k0 (signsCheck L hL) ?_;conv=>whnf)
 refine ⟨fun c1=>?_,fun c1=>?_⟩
 ·(conv=>whnf);skip;exact ⟨lstErr L,rfl,fun h=>by rw [h] at c1;simp at c1⟩
 (conv=>whnf);skip;refine ⟨fun c2=>?_,fun c2=>?_⟩
 ·(conv=>whnf);skip;exact ⟨2,rfl,by omega⟩
 (conv=>whnf);skip;refine sloop rfl mixed [2,3,23,24] [] (fun m r h=>∃ (i:Nat),r=[(2,[],.iptr (encLst L)),(3,[],.iptr [.sl 8 none (l.map encNod)]),(23,[],.int .i64 ((l.map encNod).length:Nat)),(24,[],.int .i64 i)]/\h=[]/\m=l.length - i/\i<=l.length/\∀ n∈l.take i,0<=n.depth/\n.depth<=4) ?_ ?_
 ·(conv=>whnf);exact ⟨_,0,rfl,rfl,rfl,by omega,by simp⟩
 rintro m r h ⟨i,rfl,rfl,rfl,hi,hdo⟩;(conv=>whnf);skip;refine ⟨fun c3=>?_,fun c3=>?_⟩
 ·have hil:i<l.length:=by have:=of_decide_eq_true c3;rw [List.length_map] at this;omega
  obtain ⟨n,hn⟩:∃ n,l[i]?=some n:=⟨_,List.getElem?_eq_getElem hil⟩;(conv=>whnf);repeat ((refine ACalls.mono ?_ (firstC L l i n hn hl hs hd));conv=>whnf)
  rintro v h' ⟨e,rfl,he,rfl⟩;(conv=>whnf);skip;refine ⟨fun c4=>?_,fun c4=>?_⟩
  ·(conv=>whnf);skip;exact ⟨e,rfl,fun h=>by rw [h] at c4;simp at c4⟩
  (conv=>whnf);repeat (refine ⟨gP_of ⟨by omega,by omega⟩,?_⟩;conv=>whnf)
  have he0:e=0:=(by simpa using c4);refine ⟨l.length - (i+1),by omega,i+1,rfl,rfl,rfl,by omega,fun x hx=>?_⟩;rw [List.take_add_one,hn] at hx;rcases List.mem_append.1 hx with hx|hx
  ·exact hdo x hx
  simp at hx;subst hx;exact he he0
 have hil:¬ i<l.length:=fun h=>by rw [decide_eq_true (by rw [List.length_map];omega)] at c3;cases c3
 have hdp:∀ n∈l,0<=n.depth/\n.depth<=4:=by rw [List.take_of_length_le (by omega)] at hdo;exact hdo
 (conv=>whnf);repeat (intro (nb:Nat);conv=>whnf)
 revert nb;intro pb;refine sloop rfl mixed [3,8,36,37,38] [] (fun m r h=>∃ (i:Nat) (ps:List Int),r=[(3,[],.iptr [.sl 8 none (l.map encNod)]),(8,[],.optr pb 0),(36,[],.sl 8 none (l.map encNod)),(37,[],.int .i64 ((l.map encNod).length:Nat)),(38,[],.int .i64 i)]/\h=[(pb,.vec (ps.map (AV.int .i64)))]/\m=l.length - i/\i<=l.length/\ps.length=5/\∀ (j:Nat) (n:Nod),j<i->l[j]?=some n->n.kind=7->2<=(kidsL l j).length) ?_ ?_
 ·(conv=>whnf);exact ⟨_,0,[0,0,0,0,0],rfl,rfl,rfl,by omega,rfl,fun j n hj=>absurd hj (by omega)⟩
 rintro m r h ⟨i,ps,rfl,rfl,rfl,hi,hps,hfa⟩;(conv=>whnf);skip;refine ⟨fun c3=>?_,fun c3=>?_⟩
 ·have hil:i<l.length:=by have:=of_decide_eq_true c3;rw [List.length_map] at this;omega
  obtain ⟨n,hn⟩:∃ n,l[i]?=some n:=⟨_,List.getElem?_eq_getElem hil⟩;have hdn:=hdp n (List.mem_of_getElem? hn);(conv=>whnf);repeat ((first|refine ix (by assumption) ?_|(refine ⟨_,_,Rem.here _,⟨Nat.le_of_ble_eq_true rfl,rfl⟩,?_⟩)|intro (nb:Nat));conv=>whnf)
  obtain ⟨d,hdd⟩:=Int.eq_ofNat_of_zero_le hdn.1;refine ⟨fun c5=>?_,fun c5=>?_⟩
  ·have hd0:0<d:=by have:=of_decide_eq_true c5;omega
   obtain ⟨y,hy⟩:∃ y,ps[d - 1]?=some y:=⟨_,List.getElem?_eq_getElem (by omega)⟩;(conv=>whnf);refine region_hand (c1:=keepA 70) (c2:=keepA 70) rfl 3 rfl rfl ?_;(conv=>whnf);repeat (refine ⟨gP_of ⟨by omega,by omega⟩,?_⟩;conv=>whnf)
   refine ⟨_,hand_array (k:=1) (j:=d - 1) rfl rfl rfl rfl rfl rfl (by omega) (by omega),?_⟩;rintro v h' ⟨rfl,rfl⟩;(conv=>whnf);repeat ((refine ldo (.head _) rfl (v:=.int .i64 y) (by rw [Nat.zero_add,Nat.mul_one,List.getElem?_map,hy];rfl) ?_);conv=>whnf)
   refine region_hand (c1:=keepA 70) (c2:=keepA 70) rfl 4 rfl rfl ?_;(conv=>whnf);skip;refine ⟨_,hand_array (k:=1) (j:=d) rfl rfl rfl rfl rfl rfl hdd (by omega),?_⟩;rintro v h' ⟨rfl,rfl⟩;(conv=>whnf);skip;refine ⟨_,_,.here _,⟨Nat.le_of_ble_eq_true rfl,by rw [List.length_map];show 0+d*1+1<=_;omega⟩,?_⟩;(conv=>whnf);skip;refine ACalls.mono ?_ ((familyW l i n _ hn hl).frame _);rintro v h' ⟨h1,⟨b,rfl,hb,rfl⟩,rfl⟩;(conv=>whnf);skip;refine ⟨fun c6=>?_,fun c6=>?_⟩
   ·(conv=>whnf);skip;exact ⟨20,rfl,by omega⟩
   (conv=>whnf);repeat (refine ⟨gP_of ⟨by omega,by omega⟩,?_⟩;conv=>whnf)
   have hbt:b=true:=(by simpa using c6);refine ⟨l.length - (i+1),by omega,i+1,ps.set d n.kind,rfl,by rw [setC_row (by rw [List.length_map];omega),List.map_set,Nat.zero_add,Nat.mul_one];rfl,rfl,by omega,by rw [List.length_set];exact hps,fun j m hj hm hk=>?_⟩;by_cases hji:j=i
   ·subst hji;rw [hn] at hm;cases hm
    exact hb hbt hk
   exact hfa j m (by omega) hm hk
  (conv=>whnf);refine region_hand (c1:=keepA 70) (c2:=keepA 70) rfl 4 rfl rfl ?_;(conv=>whnf);skip;refine ⟨_,hand_array (k:=1) (j:=d) rfl rfl rfl rfl rfl rfl hdd (by omega),?_⟩;rintro v h' ⟨rfl,rfl⟩;(conv=>whnf);skip;refine ⟨_,_,.here _,⟨Nat.le_of_ble_eq_true rfl,by rw [List.length_map];show 0+d*1+1<=_;omega⟩,?_⟩;(conv=>whnf);skip;refine ACalls.mono ?_ ((familyW l i n _ hn hl).frame _);rintro v h' ⟨h1,⟨b,rfl,hb,rfl⟩,rfl⟩;(conv=>whnf);skip;refine ⟨fun c6=>?_,fun c6=>?_⟩
  ·(conv=>whnf);skip;exact ⟨20,rfl,by omega⟩
  (conv=>whnf);repeat (refine ⟨gP_of ⟨by omega,by omega⟩,?_⟩;conv=>whnf)
  have hbt:b=true:=(by simpa using c6);refine ⟨l.length - (i+1),by omega,i+1,ps.set d n.kind,rfl,by rw [setC_row (by rw [List.length_map];omega),List.map_set,Nat.zero_add,Nat.mul_one];rfl,rfl,by omega,by rw [List.length_set];exact hps,fun j m hj hm hk=>?_⟩;by_cases hji:j=i
  ·subst hji;rw [hn] at hm;cases hm
   exact hb hbt hk
  exact hfa j m (by omega) hm hk
 have hil:¬ i<l.length:=fun h=>by rw [decide_eq_true (by rw [List.length_map];omega)] at c3;cases c3
 (conv=>whnf);skip;exact ⟨0,rfl,fun _=>⟨hdp,fun j n hj hk=>hfa j n (by have:=(List.getElem?_eq_some_iff.1 hj).1;omega) hj hk⟩⟩
end Go.Abs.Wall.Dic
/-
 The abstract layer,part Pu: regions with several operations by hand;the capacity of nil;zeros appended to nil.
-/
namespace Go.Abs
open Go
variable {P:Program} {n:Nat} {X:Nat->Prop}
structure RS (P:Program) (n:Nat) (X:Nat->Prop) (ops:Array Oper) (i:Nat) (Q:Regs->Heap->Prop) (r:Regs) (h:Heap):Prop where
 go:∀ g a w (Qx:Exit->Act->World->Prop),Conc n X g r h a w->(∀ r' h' g' a' w',Q r' h'->Conc n X g' r' h' a' w'->Step X g h w g' h' w'->Qx .normal a' w')->wpOps P ops Qx (List.range' i (ops.size - i)) a w
theorem RS.plain {c:Cfg} {ops:Array Oper} {i:Nat} {Q:Regs->Heap->Prop} {r:Regs} {h:Heap} (h1:regP P c n ops.toList Q (ops.toList.drop i) r h):RS P n X ops i Q r h:=by
 refine ⟨fun g a w Qx hc hq=>?_⟩;have hops:ops.toList.toArray=ops:=by simp
 have:=regP_pre (Q:=Qx) [] (ops.toList.drop i) i r h g a w (fun j x hx=>by rw [List.getElem?_drop] at hx;exact hx) h1 hc
  fun r' h' g' a' w' hR hc' hst=>hq r' h' g' a' w' hR hc' hst
 rw [hops,List.append_nil,List.length_drop] at this;simpa using this
theorem RS.hand {c:Cfg} {ops:Array Oper} {i:Nat} {Q:Regs->Heap->Prop} {r:Regs} {h:Heap} (j:Nat) {o:Oper} (hij:Nat.ble i j=true) (hoj:ops.toList[j]?=some o) (hgd:o.guard=none)
  (h1:regP P c n ops.toList (fun r1 h1=>∃ K:AV->Heap->Prop,HandOp P n X o r1 h1 K/\∀ v h2,K v h2->setP n o.dst [] v r1 fun r2=>RS P n X ops (j+1) Q r2 h2) ((ops.toList.drop i).take (j - i)) r h):RS P n X ops i Q r h:=by
 have hij:=Nat.le_of_ble_eq_true hij;refine ⟨fun g a w Qx hc hq=>?_⟩;have hlt:j<ops.toList.length:=(List.getElem?_eq_some_iff.1 hoj).1;have hlen:ops.toList.length=ops.size:=(by simp);have hops:ops.toList.toArray=ops:=(by simp);have hsplit:List.range' i (ops.size - i)=List.range' i ((ops.toList.drop i).take (j - i)).length++(j::List.range' (j+1) (ops.size - (j+1))):=by rw [List.length_take,List.length_drop,Nat.min_eq_left (by omega),<- List.range'_succ];have:=List.range'_append_1 (s:=i) (m:=j - i) (n:=ops.size - (j+1)+1);rw [show i+(j - i)=j by omega] at this;rw [this];congr 1;omega
 rw [hsplit]
 have:=regP_pre (Q:=Qx) (j::List.range' (j+1) (ops.size - (j+1))) ((ops.toList.drop i).take (j - i)) i r h g a w
  (fun k x hx=>by rw [List.getElem?_take] at hx;split at hx;· rw [List.getElem?_drop] at hx;exact hx
                  cases hx) h1 hc ?_
 ·rw [hops] at this;exact this
 rintro r1 h1' g1 a1 w1 ⟨K,hH,hK⟩ hc1 hst1;have hio:ops.toList.toArray[j]?=some o:=by rw [hops];simpa using hoj
 rw [hops] at hio ⊢;simp only [wpOps,hio];rw [if_pos (wanted_none hgd)];left;have hg1:holdsC a1 []:=fun e he=>by cases he
 refine hH g1 a1 w1 hc1 _ _ ?_;intro v h2 g2 u w2 hv hcw hrep hst2;obtain ⟨r2,hK,hc2⟩:=setP_ok (u:=u) hc1 hcw hst2 (hK v h2 hv) (fun _=>⟨by simp,hrep⟩) (fun hh=>absurd hg1 hh);exact hK.go g2 _ w2 Qx hc2 fun r' h' g' a' w' hQ hc' hst'=>hq r' h' g' a' w' hQ hc' (hst1.trans hc.cw.own (hst2.trans hc1.cw.own hst'))
theorem region_rs {c:Cfg} {F:Func} {E:En} {p:List Bool} {S:List Fr} {k id:Nat} {ops:Array Oper} {r:Regs} {h:Heap} (hcat:cat F p=.region id ops false)
  (hr:RS P E.n E.X ops 0 (run P c F E k (.ex .normal) S) r h):Holds P E.n E.X (cat F p) (fun e r h=>run P c F E k (.ex e) S r h) r h:=by
 rw [hcat];refine ⟨fun g a w hc=>wp_region ?_⟩
 have:=hr.go g a w (fun e a' w'=>∃ ex g' r' h',e=Ex.toExit ex/\run P c F E k (.ex ex) S r' h'/\Conc E.n E.X g' r' h' a' w'/\Step E.X g h w g' h' w') hc
  fun r' h' g' a' w' hR hc' hst=>⟨.normal,g',r',h',rfl,hR,hc',hst⟩
 rw [Nat.sub_zero,<- List.range_eq_range'] at this;exact this
theorem hand_capnil {o:Oper} {r:Regs} {h:Heap} {cl:Call} {t e:TypeId} {x:Operand} (hop:o.op=.call cl) (hcal:cl.callee=.builtin .cap) (hat:cl.argTypes=#[t]) (har:cl.args=#[x]) (ht:P.underlying t=some (.slice e)) (hx:opnd r [] x=some .nilS) :
  HandOp P n X o r h fun v h'=>v=.int .i64 0/\h'=h:=by
 intro g a w hc next Q hnx;have hg0:holdsC a []:=fun e he=>by cases he
 have hr:=hc.opnd hg0 hx;simp only [Rep] at hr;obtain ⟨dst,op,ty,pos,aft,gd⟩:=o;obtain ⟨callee,args,ats⟩:=cl;simp only at hop hcal hat har;subst hop hcal hat har;refine wp_value (u:=goInt 0) (w':=w) ?_ (hnx _ _ g _ _ ⟨rfl,rfl⟩ hc.cw ?_ (Step.refl _ _ _ _))
 ·simp [execOp,resolve,invoke,builtin,hr,Builtin.cap_,run_und ht]
 rw [Rep];refine ⟨rfl,?_⟩;simp [IntKind.has,IntKind.min,IntKind.max,IntKind.signed,IntKind.bits]
theorem hand_zeros {o:Oper} {r:Regs} {h:Heap} {cl:Call} {t tx e:TypeId} {kn kq:IntKind} {x y:Operand} {z:List AV} {m:Nat} (hop:o.op=.call cl) (hcal:cl.callee=.builtin .append) (hat:cl.argTypes=#[t,tx]) (har:cl.args=#[x,y])
  (ht:P.underlying t=some (.slice e)) (htx:P.underlying tx=some (.int kn)) (hk0:1<=P.cellsOf e) (hbt:P.bytesOf e<=4096) (hz:zeroCs P e=some z) (hzl:z.length=P.cellsOf e)
  (hx:opnd r [] x=some .nilS) (hy:opnd r [] y=some (.int kq m)) (hm:0<m) (hmax:m<=4294967296) :
  HandOp P n X o r h fun v h'=>∃ q,v=.osl q 0 m (P.cellsOf e)/\h'=(q,.vec (repC m z))::h:=by
 intro g a w hc next Q hnx;have hg0:holdsC a []:=fun e he=>by cases he
 have hr:=hc.opnd hg0 hx;have hry:=hc.opnd hg0 hy;simp only [Rep] at hr hry;obtain ⟨hry,_⟩:=hry;obtain ⟨dst,op,ty,pos,aft,gd⟩:=o;obtain ⟨callee,args,ats⟩:=cl;simp only at hop hcal hat har;subst hop hcal hat har;obtain ⟨i,zv,hi,hzv,hzr,hz1⟩:=zeroCs_ok (c:=⟨g,live X h,w⟩) hz;have hisz:i.size=P.cellsOf e:=(by simp [Program.cellsOf,hi]);have hib:i.bytes=P.bytesOf e:=(by simp [Program.bytesOf,hi]);have hzs:zv.cells.size=P.cellsOf e:=by have:=hzr.length;simp at this;omega
 have hfit:Builtin.nextslicecap (0+m) 0*i.bytes<=281474976710656:=by have h1:Builtin.nextslicecap (0+m) 0<=2*(0+m):=nextslicecap_le (by omega);exact Nat.le_trans (Nat.mul_le_mul h1 (by omega:i.bytes<=4096)) (by omega)
 have h48:m*i.bytes<=281474976710656:=Nat.le_trans (Nat.mul_le_mul (by omega:m<=4294967296) (by omega:i.bytes<=4096)) (by omega);have hrn:=Go.Lib.run_append_grow_zeros (P:=P) w t tx ty e i zv kq kn ht htx hi hzv none 0 0 [] (by simp [Builtin.firstCells]) m hm (by omega) (by omega) (by omega) h48 hfit;refine wp_value (append_arrays (P:=P) (a:=a) (w:=w) (o:=⟨dst,.call ⟨.builtin .append,#[x,y],#[t,tx]⟩,ty,pos,aft,gd⟩) (b:=#[]) rfl rfl rfl (u:=.slice none 0 0) (uy:=.int kq m) (by simp [hr,hry]) _ _ hrn) ?_;obtain ⟨c1,s1⟩:=hc.cw.drew;have hcapw:=grownCap_ge w (0+m) 0 e;have hcapm:=grownCap_le_maxLen w (0+m) 0 e (by unfold maxLen;omega);have hzc:(Builtin.zeroCells zv.cells m).toList=(List.replicate m zv.cells.toList).flatten:=made_eq zv.cells (by omega) m;have hrz:=RepVs.repl hzr m
 obtain ⟨b',g',k1,k2,k3⟩:=c1.newVecZ (l:=repC m z) (us:=(List.replicate m zv.cells.toList).flatten) (Z:=Builtin.zeroCells zv.cells (grownCap w (0+m) 0 e - (0+m))) e
  (RepVs.mono (Step.le s1) _ _ hrz) (by
    intro v hv;simp only [List.mem_flatten,List.mem_replicate] at hv;obtain ⟨l,⟨_,rfl⟩,hu⟩:=hv;exact hz1 v (by simpa using hu))
 have e1:([]:List Value).toArray++Builtin.zeroCells zv.cells m=((List.replicate m zv.cells.toList).flatten).toArray:=by rw [<- Array.toList_inj];simp [hzc]
 rw [e1];refine hnx _ _ g' _ _ ⟨b',rfl,rfl⟩ k2 ?_ (s1.trans hc.cw.own k3);rw [Rep];refine ⟨_,grownCap w (0+m) 0 e,0,k1,rfl,by rw [Nat.zero_add];rfl,by omega,by unfold LMAX;omega,hk0,?_,fun _=>rfl,by unfold CAPM;unfold maxLen at hcapm;omega⟩;refine ⟨_,_,_,heap_alloc_new w.drew _,?_⟩;have hul:(List.replicate m zv.cells.toList).flatten.length=m*P.cellsOf e:=(by simp [hzs]);simp only [Array.size_append,List.size_toArray,size_zeroCells,hzs,List.length_append,hul];rw [<- Nat.add_mul];have:m+(grownCap w (0+m) 0 e - (0+m))=grownCap w (0+m) 0 e:=(by omega);rw [this];omega
end Go.Abs
