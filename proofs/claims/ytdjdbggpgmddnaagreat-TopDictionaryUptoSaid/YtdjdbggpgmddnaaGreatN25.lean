/- Small laws for the walks and contracts of functions; each theorem names its conditions. -/
import Derived.Test.YtdjdbggpgmddnaaGreatN24
set_option maxRecDepth 100000
set_option maxHeartbeats 2000000
set_option linter.unusedVariables false
set_option linter.unusedSimpArgs false
namespace Go.Abs.Wall.Dic
open Go Go.Abs Go.Proofs Go.Abs.Wall
def c113:Cfg:=⟨[0,1,4,6,16],[],[],[],[(3,[],[]),(5,[],[])],[]⟩
def c85:Cfg:=⟨[0,2,3,5,6,8,9,10,11,12,20,25,26,27,28],[],[],[],[(10,[],[])],[]⟩
theorem growW (m:Nat) (h0:0<m) (hm:m<=1048576):ACalls Tryz.prog 113 [.nilS,.int .i64 m] [] (fun v h'=>∃ q,v=.osl q 0 0 1/\h'=[(q,.vec (repC m [.int .i64 0]))]):=by
 refine fcalls (F:=Tryz.f113) c113 rfl rfl rfl mixed rfl fun X=>?_;(conv=>whnf);skip;refine cF (decide_eq_false (by omega)) ?_;(conv=>whnf);skip;refine region_rs rfl (RS.hand (c:=keepA 40) 2 rfl rfl rfl ?_);(conv=>whnf);skip;refine ⟨_,hand_capnil rfl rfl rfl rfl rfl rfl,?_⟩;rintro v h' ⟨rfl,rfl⟩;(conv=>whnf);refine RS.plain (c:=c113) ?_;(conv=>whnf);repeat (refine ⟨gP_of ⟨by omega,by omega⟩,?_⟩;conv=>whnf)
 rw [show (m:Int) - (0 - 0)=m by omega];refine cT (decide_eq_true (by omega)) ?_;(conv=>whnf);skip;refine region_rs rfl (RS.hand (c:=keepA 40) 2 rfl rfl rfl ?_);(conv=>whnf);skip;refine ⟨_,hand_capnil rfl rfl rfl rfl rfl rfl,?_⟩;rintro v h' ⟨rfl,rfl⟩;(conv=>whnf);refine RS.hand (c:=keepA 40) 5 rfl rfl rfl ?_;(conv=>whnf);repeat (refine ⟨gP_of ⟨by omega,by omega⟩,?_⟩;conv=>whnf)
 refine ⟨_,hand_zeros (m:=m) (kq:=.i64) rfl rfl rfl rfl rfl rfl (by decide +kernel) (by decide +kernel) rfl (by decide +kernel) rfl rfl h0 (by omega),?_⟩;rintro v h' ⟨q,rfl,rfl⟩;(conv=>whnf);refine RS.plain (c:=c113) ?_;(conv=>whnf);repeat (refine ⟨gP_of ⟨by omega,by omega⟩,?_⟩;conv=>whnf)
 exact ⟨q,rfl,rfl⟩
theorem take_flat {ss:List (List Nat)} {i:Nat} {s:List Nat} (h:ss[i]?=some s):(ss.take (i+1)).flatten=(ss.take i).flatten++s:=by rw [List.take_add_one,h];simp
theorem take_flat_le {ss:List (List Nat)} {i:Nat} {s:List Nat} (h:ss[i]?=some s):(ss.take i).flatten.length+s.length<=ss.flatten.length:=by have e1:ss.flatten.length=(ss.take i).flatten.length+(ss.drop i).flatten.length:=(by rw [<- List.length_append,<- List.flatten_append,List.take_append_drop]);rw [e1,drop_cons h,List.flatten_cons,List.length_append];omega
theorem natE_flat (s:List Nat):(s.map natE).flatten=s.map fun (k:Nat)=>AV.int .i64 k:=by
 induction s with
 | nil=>rfl
 | cons x s ih=>rw [List.map_cons,List.flatten_cons,ih];rfl
theorem concatW (ss:List (List Nat)) (hpos:0<ss.flatten.length) (hlen:ss.flatten.length<=1048576) (hs:ss.length<=1048576):QCall Tryz.prog 85 [.sl 1 none (ss.map fun s=>[natV s])] [] (natV ss.flatten):=by
 have hf:ACalls Tryz.prog 85 [.sl 1 none (ss.map fun s=>[natV s])] [] (fun v h'=>∃ q,v=.osl q 0 ss.flatten.length 1/\h'=[(q,.vec (ss.flatten.map fun (k:Nat)=>AV.int .i64 k))]):=by
  refine fcalls (F:=Tryz.f85) c85 rfl rfl rfl mixed rfl fun X=>?_;(conv=>whnf);skip;refine sloop rfl mixed [0,3,9,10,11] [] (fun m r h=>∃ (i:Nat),r=[(0,[],.sl 1 none (ss.map fun s=>[natV s])),(3,[],.int .i64 ((ss.take i).flatten.length:Nat)),(9,[],.sl 1 none (ss.map fun s=>[natV s])),(10,[],.int .i64 ((ss.map fun s=>[natV s]).length:Nat)),(11,[],.int .i64 i)]/\h=[]/\m=ss.length - i/\i<=ss.length) ?_ ?_
  ·(conv=>whnf);exact ⟨_,0,rfl,rfl,rfl,by omega⟩
  rintro m r h ⟨i,rfl,rfl,rfl,hi⟩;(conv=>whnf);skip;refine ⟨fun c1=>?_,fun c1=>?_⟩
  ·have hil:i<ss.length:=by have:=of_decide_eq_true c1;rw [List.length_map] at this;omega
   obtain ⟨s,hsi⟩:∃ s,ss[i]?=some s:=⟨_,List.getElem?_eq_getElem hil⟩;have hle:=take_flat_le hsi;have hsl:(s.map natE).length=s.length:=List.length_map _;(conv=>whnf);repeat ((first|refine ⟨gP_of ⟨by omega,by omega⟩,?_⟩|refine ix (by assumption) ?_);conv=>whnf)
   refine cF (decide_eq_false (by omega)) ?_;(conv=>whnf);repeat (refine ⟨gP_of ⟨by omega,by omega⟩,?_⟩;conv=>whnf)
   refine ⟨ss.length - (i+1),by omega,i+1,?_,rfl,rfl,by omega⟩;rw [take_flat hsi,List.length_append,hsl,show ((((ss.take i).flatten.length+s.length:Nat)):Int)=((ss.take i).flatten.length:Int)+(s.length:Int) by omega];rfl
  have hil:¬ i<ss.length:=fun h=>by rw [decide_eq_true (by rw [List.length_map];omega)] at c1;cases c1
  rw [List.take_of_length_le (by omega)];(conv=>whnf);repeat ((refine ACalls.mono ?_ (growW _ hpos hlen));conv=>whnf)
  rintro v h' ⟨q,rfl,rfl⟩;(conv=>whnf);skip;refine region_turn rfl mixed (Turn.cut (xs:=[]) (.here _)) ?_;(conv=>whnf);skip;refine sloop rfl mixed [6,25,26,27] [] (fun m r h=>∃ (i:Nat) (b:Nat),r=[(6,[],.osl b 0 (ss.take i).flatten.length 1),(25,[],.sl 1 none (ss.map fun s=>[natV s])),(26,[],.int .i64 ((ss.map fun s=>[natV s]).length:Nat)),(27,[],.int .i64 i)]/\h=[(b,.vec ((ss.take i).flatten.map fun (k:Nat)=>AV.int .i64 k))]/\m=ss.length - i/\i<=ss.length) ?_ ?_
  ·(conv=>whnf);exact ⟨_,0,q,rfl,rfl,rfl,by omega⟩
  rintro m r h ⟨i,b,rfl,rfl,rfl,hi⟩;(conv=>whnf);skip;refine ⟨fun c2=>?_,fun c2=>?_⟩
  ·have hil:i<ss.length:=by have:=of_decide_eq_true c2;rw [List.length_map] at this;omega
   obtain ⟨s,hsi⟩:∃ s,ss[i]?=some s:=⟨_,List.getElem?_eq_getElem hil⟩;have hle:=take_flat_le hsi;(conv=>whnf);repeat (refine ix (by assumption) ?_;conv=>whnf)
   refine ⟨_,.head _,⟨by rw [List.length_map,Nat.mul_one],by rw [List.length_map];unfold AMAX;omega⟩,fun b'=>⟨_,.here _,?_⟩⟩;(conv=>whnf);repeat (refine ⟨gP_of ⟨by omega,by omega⟩,?_⟩;conv=>whnf)
   refine ⟨ss.length - (i+1),by omega,i+1,b',?_,?_,rfl,by omega⟩
   ·rw [take_flat hsi,List.length_append,List.length_map];rfl
   rw [take_flat hsi,List.map_append,natE_flat]
  have hil:¬ i<ss.length:=fun h=>by rw [decide_eq_true (by rw [List.length_map];omega)] at c2;cases c2
  rw [List.take_of_length_le (by omega)];(conv=>whnf);skip;exact ⟨b,rfl,rfl⟩
 refine QCall.of (ACalls.frz hf ?_);rintro v h1 ⟨q,rfl,rfl⟩;exact ⟨q,_,_,_,_,.here _,FzH.refl _,fzRow rfl,VLe.refl _⟩
end Go.Abs.Wall.Dic
namespace Go.Abs.Wall.Dic
open Go Go.Abs Go.Proofs Go.Abs.Wall
theorem tw_len {p:Nod->Bool}:∀ {l:List Nod} {j:Nat},j<(l.takeWhile p).length->∃ x,l[j]?=some x/\p x=true
 | [],j,h=>by simp at h
 | x::l,j,h=>by
   by_cases hp:p x=true
   ·rw [List.takeWhile_cons,if_pos hp] at h;cases j with
    | zero=>exact ⟨x,rfl,hp⟩
    | succ j=>
      obtain ⟨y,hy,hpy⟩:=tw_len (l:=l) (j:=j) (by simpa using h);exact ⟨y,by simpa using hy,hpy⟩
   rw [List.takeWhile_cons,if_neg hp] at h;simp at h
theorem tw_end {p:Nod->Bool}:∀ {l:List Nod} {x:Nod},l[(l.takeWhile p).length]?=some x->p x=false
 | [],x,h=>by simp at h
 | y::l,x,h=>by
   by_cases hp:p y=true
   ·rw [List.takeWhile_cons,if_pos hp] at h;exact tw_end (l:=l) (by simpa using h)
   rw [List.takeWhile_cons,if_neg hp] at h;have:y=x:=(by simpa using h);subst this;simpa using hp
def eN (l:List Nod) (k:Nat):Nat:=endI l k (depAt l k)
theorem eN_in {l:List Nod} {k j:Nat} (h1:k<j) (h2:j<eN l k):depAt l k<depAt l j:=by unfold eN endI at h2;obtain ⟨x,hx,hp⟩:=tw_len (p:=fun n:Nod=>decide (depAt l k<n.depth)) (l:=l.drop (k+1)) (j:=j - (k+1)) (by omega);rw [List.getElem?_drop,show k+1+(j - (k+1))=j by omega] at hx;rw [depAt_eq hx];exact of_decide_eq_true hp
theorem eN_end {l:List Nod} {k:Nat} (h:eN l k<l.length):depAt l (eN l k)<=depAt l k:=by obtain ⟨x,hx⟩:∃ x,l[eN l k]?=some x:=⟨_,List.getElem?_eq_getElem h⟩;have hx2:=hx;unfold eN endI at hx2;rw [<- List.getElem?_drop] at hx2;have:=tw_end hx2;rw [depAt_eq hx];have:=of_decide_eq_false this;omega
theorem eN_le {l:List Nod} {k:Nat} (h:k<l.length):eN l k<=l.length:=(endI_in h).2
theorem eN_sub {l:List Nod} {i k:Nat} (hi:i<l.length) (h1:i<k) (h2:k<eN l i):eN l k<=eN l i:=by refine Nat.le_of_not_lt fun hn=>?_;have hk:=eN_le (l:=l) (k:=k) (Nat.lt_of_lt_of_le h2 (eN_le hi));have h3:=eN_in (l:=l) (k:=k) (j:=eN l i) h2 hn;have h4:=eN_in h1 h2;have h5:=eN_end (l:=l) (k:=i) (by omega);omega
def costL (l:List Nod) (ks:List Nat):Nat:=(ks.map fun k=>eN l k - k).sum
def costN (l:List Nod) (node:Int):Nat:=if 0<=node then eN l node.toNat - node.toNat else l.length
theorem costT {l:List Nod} {to:Nat}:∀ (f k:Nat),to - k<=f->(∀ j,k<=j->j<to->eN l j<=to)->costL l (kidsT l to k)<=to - k
 | 0,k,h,_=>by rw [kidsT_eq,if_neg (by omega)];simp [costL]
 | f+1,k,h,hle=>by
   rw [kidsT_eq];split
   ·rename_i hk;have h1:k<eN l k:=endI_gt l k (depAt l k);have h2:=hle k (Nat.le_refl _) hk;have ih:costL l (kidsT l to (eN l k))<=to - eN l k:=costT f (eN l k) (by omega) fun j hj=>hle j (by omega);have e:costL l (k::kidsT l to (eN l k))=(eN l k - k)+costL l (kidsT l to (eN l k)):=by unfold costL;rw [List.map_cons,List.sum_cons]
    show costL l (k::kidsT l to (eN l k))<=_;omega
   simp [costL]
theorem costK {l:List Nod} {i:Nat} (hi:i<l.length):costL l (kidsL l i)+1<=costN l i:=by have h1:i<eN l i:=endI_gt l i _;have:=costT (l:=l) (to:=eN l i) _ (i+1) (Nat.le_refl _) fun j h1 h2=>eN_sub hi (by omega) h2;unfold kidsL costN;rw [if_pos (by omega),if_pos (by omega),Int.toNat_natCast];show costL l (kidsT l (eN l i) (i+1))+1<=_;omega
theorem costG {l:List Nod} {node:Int} (h:node<0):costL l (kidsL l node)<=l.length:=by have:=costT (l:=l) (to:=l.length) _ 0 (Nat.le_refl _) fun j h1 h2=>eN_le h2;unfold kidsL;rw [if_neg (by omega)];omega
theorem costL_app (l:List Nod) (a b:List Nat):costL l (a++b)=costL l a+costL l b:=by unfold costL;rw [List.map_append,List.sum_append]
structure Mk where
 sign:Int
 state:Int
 min:Int
 max:Int
def encMk (m:Mk):List AV:=[.int .i64 m.sign,.int .i64 m.state,.int .i64 m.min,.int .i64 m.max]
def markF (n:Nod):Mk:=if n.kind=6 then ⟨-1,0,n.min,n.max⟩ else ⟨n.sign,n.state,0,0⟩
theorem markW (n:Nod):QCall Tryz.prog 53 [.agg (encNod n)] [] (.agg (encMk (markF n))):=by
 refine QCall.of' ?_;refine fcalls (F:=Tryz.f53) c53 rfl rfl rfl mixed rfl fun X=>?_;(conv=>whnf);repeat (intro (nb:Nat);conv=>whnf)
 refine ⟨fun c=>?_,fun c=>?_⟩
 ·(conv=>whnf);repeat ((first|(refine ⟨_,_,.here _,⟨Nat.le_of_ble_eq_true rfl,Nat.le_of_ble_eq_true rfl⟩,?_⟩)|refine ⟨_,_,.head _,rfl,?_⟩);conv=>whnf)
  rw [markF,if_pos (of_decide_eq_true c)];rfl
 (conv=>whnf);repeat ((first|(refine ⟨_,_,.here _,⟨Nat.le_of_ble_eq_true rfl,Nat.le_of_ble_eq_true rfl⟩,?_⟩)|refine ⟨_,_,.head _,rfl,?_⟩);conv=>whnf)
 rw [markF,if_neg (of_decide_eq_false c)];rfl
def OutB (ob:Nat) (ms:List Mk) (H:Heap):Prop:=(ms=[]/\H=[(ob,.vec [.nilS])])\/(ms≠[]/\∃ q,H=[(q,.tok),(ob,.vec [.sl 4 (some q) (ms.map encMk)])])
def c52:Cfg:=⟨[0,1,2],[],[],[],[(0,[0,1,2,3,4,5,6,7,8,9],[])],[]⟩
def c54:Cfg:=⟨[],[],[],[],[],[]⟩
theorem lineLeaf (l:List Nod) (k:Nat) (n:Nod) (hn:l[k]?=some n) (ob:Nat) (ms:List Mk) (H:Heap) (hO:OutB ob ms H) (hl:ms.length<=4194304) :
  ACalls Tryz.prog 52 [.int .i64 k,.optr ob 0,.iptr [nodesV l]] H (fun v h'=>v=.tup []/\OutB ob (ms++[markF n]) h'):=by
 refine fcalls (F:=Tryz.f52) c52 rfl rfl rfl mixed rfl fun X=>?_;(conv=>whnf);unfold nodesV;rcases hO with ⟨rfl,rfl⟩|⟨hne,q,rfl⟩
 ·repeat ((first|refine ix (by assumption) ?_|refine gcall (markW n) ?_|(refine ⟨Nat.le_of_ble_eq_true rfl,fun q=>?_⟩)|(refine ⟨_,_,.there (.here _),⟨Nat.le_of_ble_eq_true rfl,Nat.le_of_ble_eq_true rfl⟩,?_⟩)|refine ⟨_,_,.head _,rfl,?_⟩|refine And.intro (by show drawOK (opsAt Tryz.f52 _) _=true;decide +kernel) ?_);conv=>whnf)
  exact ⟨rfl,.inr ⟨by simp,q,rfl⟩⟩
 repeat ((first|refine ix (by assumption) ?_|refine gcall (markW n) ?_|(refine ⟨by simp;unfold AMAX;omega,fun q'=>⟨_,.here _,?_⟩⟩)|(refine ⟨_,_,.there (.here _),⟨Nat.le_of_ble_eq_true rfl,Nat.le_of_ble_eq_true rfl⟩,?_⟩)|refine ⟨_,_,.tail _ (.head _),rfl,?_⟩|refine And.intro (by show drawOK (opsAt Tryz.f52 _) _=true;decide +kernel) ?_);conv=>whnf)
 exact ⟨rfl,.inr ⟨by simp,q',by rw [List.map_append];rfl⟩⟩
theorem noRingW (a b c:Int):QCall Tryz.prog 54 [.int .i64 a,.int .i64 b,.int .i64 c] [] (.tup []):=by refine fcalls (F:=Tryz.f54) c54 rfl rfl rfl mixed rfl fun X=>?_;(conv=>whnf);skip;exact ⟨rfl,rfl⟩
end Go.Abs.Wall.Dic
namespace Go.Abs.Wall.Dic
open Go Go.Abs Go.Proofs Go.Abs.Wall
def leafV (l:List Nod) (ob:Nat):AV:=.fn 52 [.optr ob 0,.iptr [nodesV l]]
def visitC (l:List Nod) (vb rb ob:Nat):List AV:=[.iptr [nodesV l],.optr rb 0,.iptr [leafV l ob],.optr vb 0,.iptr [.fn 54 []]]
def VisS (l:List Nod) (vb rb ob:Nat) (ms:List Mk) (H:Heap):Prop:=∃ (rd:Int) (OH:Heap),OutB ob ms OH/\H=(vb,.vec [.fn 83 (visitC l vb rb ob)])::(rb,.vec [.int .i64 rd])::OH
def c83:Cfg:=⟨[0,1,2,3,4,5,7,8,10,19,39,46,47,48,49,65],[21],[],[],[(6,[0,1,2,3,4,5,6],[])],[]⟩
theorem visitLeaf (l:List Nod) (vb rb ob:Nat) (i:Nat) (n:Nod) (hn:l[i]?=some n) (hlf:leafB n=true) (ms:List Mk) (H:Heap) (hS:VisS l vb rb ob ms H) (hm:ms.length<=4194304) :
  ACalls Tryz.prog 83 (.int .i64 i::visitC l vb rb ob) H (fun v h'=>v=.tup []/\∃ ms',VisS l vb rb ob (ms++ms') h'/\ms'.length<=1):=by
 obtain ⟨rd,OH,hO,rfl⟩:=hS;have hlW:=isLeafW n;rw [hlf] at hlW;refine fcalls (F:=Tryz.f83) c83 rfl rfl rfl mixed rfl fun X=>?_;(conv=>whnf);unfold visitC nodesV;repeat ((first|refine ix (by assumption) ?_|refine gcall (hlW) ?_);conv=>whnf)
 refine cT (by rw [Bool.and_true];exact decide_eq_true (by omega)) ?_;(conv=>whnf);repeat ((first|(refine ⟨_,_,.tail _ (.head _),rfl,?_⟩)|(refine ⟨_,_,.there (.here _),⟨Nat.le_of_ble_eq_true rfl,Nat.le_of_ble_eq_true rfl⟩,?_⟩));conv=>whnf)
 refine ACalls.mono ?_ ((lineLeaf l i n hn ob ms OH hO hm).under [_,_]);rintro v h' ⟨h1,⟨rfl,hO'⟩,rfl⟩;(conv=>whnf);skip;exact ⟨rfl,[markF n],⟨_,h1,hO',rfl⟩,Nat.le_refl _⟩
def VisOK (l:List Nod) (vb rb ob:Nat) (node:Int):Prop:=∀ (ms:List Mk) (H:Heap),VisS l vb rb ob ms H->ms.length+costN l node<=4194304 ->
 ACalls Tryz.prog 83 (.int .i64 node::visitC l vb rb ob) H (fun v h'=>v=.tup []/\∃ ms',VisS l vb rb ob (ms++ms') h'/\ms'.length<=costN l node)
theorem visitNode (l:List Nod) (hl:l.length<=1048576) (hT:TextOK l) (vb rb ob:Nat) (node:Int) (hlo:-1<=node) (hhi:node<l.length) (hvis:∀ k∈kidsL l node,VisOK l vb rb ob (k:Nat))
  (hnl:∀ (i:Nat) n,(i:Int)=node->l[i]?=some n->leafB n=false):VisOK l vb rb ob node:=by
 intro ms H hS hm;obtain ⟨r0,OH,hO,rfl⟩:=hS;have hS:VisS l vb rb ob ms ((vb,.vec [.fn 83 (visitC l vb rb ob)])::(rb,.vec [.int .i64 r0])::OH):=⟨r0,OH,hO,rfl⟩;by_cases h0:0<=node
 ·obtain ⟨i,hi⟩:=Int.eq_ofNat_of_zero_le h0;obtain ⟨n,hn⟩:∃ n,l[i]?=some n:=⟨_,List.getElem?_eq_getElem (by omega)⟩;have hlW:=isLeafW n;rw [hnl i n hi.symm hn] at hlW;have hck:=costK (l:=l) (i:=i) (by omega);rw [<- hi] at hck;refine fcalls (F:=Tryz.f83) c83 rfl rfl rfl mixed rfl fun X=>?_;(conv=>whnf);unfold visitC nodesV;repeat ((first|(refine ⟨i,encNod n,gP_of ⟨hi,by simp [hn]⟩,?_⟩)|refine gcall (hlW) ?_);conv=>whnf)
  refine cF (by simp) ?_;(conv=>whnf);repeat ((first|(refine ⟨_,_,.tail _ (.head _),rfl,?_⟩)|refine QCall.k0 (kidsW l node) ?_|refine QCall.k0 (collectKids l node hhi hl) ?_|(refine ⟨i,encNod n,gP_of ⟨hi,by simp [hn]⟩,?_⟩));conv=>whnf)
  refine ⟨fun c3=>?_,fun c3=>?_⟩
  ·have hk7:n.kind=7:=by rw [Bool.and_eq_true] at c3;exact of_decide_eq_true c3.2
   have hk2:=hT.2 i n hn hk7;rw [<- hi] at hk2;obtain ⟨below,hbe⟩:∃ b,b=(kidsL l node).drop 1++(kidsL l node).take 1:=⟨_,rfl⟩;have hblen:below.length=(kidsL l node).length:=by rw [hbe,List.length_append,List.length_drop,List.length_take];omega
   have hkl:=kidsL_len hhi;have hbl:below.length<=1048576:=(by omega);have hcc:=concatW [(kidsL l node).drop 1,(kidsL l node).take 1] (by simp only [List.flatten_cons,List.flatten_nil,List.append_nil];rw [<- hbe];omega) (by simp only [List.flatten_cons,List.flatten_nil,List.append_nil];rw [<- hbe];omega) (by simp);simp only [List.flatten_cons,List.flatten_nil,List.append_nil,List.map_cons,List.map_nil] at hcc;rw [<- hbe] at hcc;have e1:natV ((kidsL l node).drop 1)=.sl 1 none (((((kidsL l node).map natE).take (((kidsL l node).map natE).length:Int).toNat).drop 1)):=by rw [Int.toNat_natCast,List.take_length,<- List.map_drop];rfl
   have e2:natV ((kidsL l node).take 1)=.sl 1 none (((((kidsL l node).map natE).take 1).drop 0)):=by rw [List.drop_zero,<- List.map_take];rfl
   rw [e1,e2] at hcc
   have hvis:∀ k∈below,VisOK l vb rb ob (k:Nat):=by
    intro k hk;rw [hbe] at hk;rcases List.mem_append.1 hk with hk|hk
    ·exact hvis k (List.mem_of_mem_drop hk)
    exact hvis k (List.mem_of_mem_take hk)
   have hcb:costL l below<=costN l node:=by have:costL l (kidsL l node)=costL l ((kidsL l node).take 1)+costL l ((kidsL l node).drop 1):=(by rw [<- costL_app,List.take_append_drop]);rw [hbe,costL_app];omega
   (conv=>whnf);repeat ((first|(refine ⟨gP_of ⟨by omega,by rw [List.length_map];omega,by omega⟩,?_⟩)|(refine ⟨gP_of ⟨by omega,by omega,by rw [List.length_map];omega⟩,?_⟩)|refine gcall (hcc) ?_|refine And.intro (by show drawOK (opsAt Tryz.f83 _) _=true;decide +kernel) ?_);conv=>whnf)
   refine sloop rfl mixed [0,1,2,4,5,7,46,47,48] [] (fun m r h=>∃ (j:Nat) (ms':List Mk) (H1:Heap),r=[(0,[],.int .i64 node),(1,[],.iptr [.sl 8 none (l.map encNod)]),(2,[],.optr rb 0),(4,[],.optr vb 0),(5,[],.iptr [.fn 54 []]),(7,[],.int .i64 r0),(46,[],.sl 1 none (below.map natE)),(47,[],.int .i64 ((below.map natE).length:Nat)),(48,[],.int .i64 j)]/\h=H1/\m=below.length - j/\j<=below.length/\VisS l vb rb ob (ms++ms') H1/\ms'.length+costL l (below.drop j)<=costL l below) ?_ ?_
   ·(conv=>whnf);exact ⟨_,0,[],_,rfl,rfl,rfl,by omega,by rw [List.append_nil];exact hS,by simp⟩
   rintro m r H0 ⟨j,ms',H1,rfl,rfl,rfl,hj,hS',hcost⟩;(conv=>whnf);skip;refine ⟨fun c1=>?_,fun c1=>?_⟩
   ·have hjl:j<below.length:=by have:=of_decide_eq_true c1;rw [List.length_map] at this;omega
    obtain ⟨k,hk⟩:∃ k,below[j]?=some k:=⟨_,List.getElem?_eq_getElem hjl⟩;have hcd:costL l (below.drop j)=(eN l k - k)+costL l (below.drop (j+1)):=by rw [drop_cons hk];unfold costL;rw [List.map_cons,List.sum_cons]
    have hck:costN l (k:Nat)=eN l k - k:=by unfold costN;rw [if_pos (by omega),Int.toNat_natCast]
    have hv:=hvis k (List.mem_of_getElem? hk) (ms++ms') H0 hS' (by rw [List.length_append,hck];omega);obtain ⟨rd1,OH1,hO1,rfl⟩:=hS';(conv=>whnf);repeat ((first|refine ix (by assumption) ?_|refine ⟨_,_,.head _,rfl,?_⟩);conv=>whnf)
    refine ACalls.mono ?_ hv;rintro v h' ⟨rfl,ms2,hS2,hm2⟩;(conv=>whnf);repeat (refine ⟨gP_of ⟨by omega,by omega⟩,?_⟩;conv=>whnf)
    refine ⟨below.length - (j+1),by omega,j+1,ms'++ms2,h',rfl,rfl,rfl,by omega,by rw [<- List.append_assoc];exact hS2,?_⟩;rw [List.length_append];omega
   have hjl:¬ j<below.length:=fun h=>by rw [decide_eq_true (by rw [List.length_map];omega)] at c1;cases c1
   rw [List.drop_of_length_le (by omega)] at hcost;have hfin:ms'.length<=costN l node:=by have:costL l []=0:=rfl;omega
   (conv=>whnf);obtain ⟨rd1,OH1,hO1,rfl⟩:=hS';repeat ((refine ⟨i,encNod n,gP_of ⟨hi,by simp [hn]⟩,?_⟩);conv=>whnf)
   refine ⟨fun c2=>?_,fun c2=>?_⟩
   ·(conv=>whnf);repeat ((first|(refine ⟨_,_,.tail _ (.head _),rfl,?_⟩)|refine QCall.k0 (noRingW node r0 rd1) ?_);conv=>whnf)
    exact ⟨rfl,ms',⟨_,_,hO1,rfl⟩,hfin⟩
   (conv=>whnf);skip;exact ⟨rfl,ms',⟨_,_,hO1,rfl⟩,hfin⟩
  obtain ⟨below,hbe⟩:∃ b,b=kidsL l node:=⟨_,rfl⟩;have hvis:∀ k∈below,VisOK l vb rb ob (k:Nat):=by rw [hbe];exact hvis
  have hcb:costL l below<=costN l node:=by rw [hbe];omega
  have hbl:below.length<=1048576:=by rw [hbe];have:=kidsL_len hhi;omega
  rw [<- hbe];(conv=>whnf);skip;refine sloop rfl mixed [0,1,2,4,5,7,46,47,48] [] (fun m r h=>∃ (j:Nat) (ms':List Mk) (H1:Heap),r=[(0,[],.int .i64 node),(1,[],.iptr [.sl 8 none (l.map encNod)]),(2,[],.optr rb 0),(4,[],.optr vb 0),(5,[],.iptr [.fn 54 []]),(7,[],.int .i64 r0),(46,[],.sl 1 none (below.map natE)),(47,[],.int .i64 ((below.map natE).length:Nat)),(48,[],.int .i64 j)]/\h=H1/\m=below.length - j/\j<=below.length/\VisS l vb rb ob (ms++ms') H1/\ms'.length+costL l (below.drop j)<=costL l below) ?_ ?_
  ·(conv=>whnf);exact ⟨_,0,[],_,rfl,rfl,rfl,by omega,by rw [List.append_nil];exact hS,by simp⟩
  rintro m r H0 ⟨j,ms',H1,rfl,rfl,rfl,hj,hS',hcost⟩;(conv=>whnf);skip;refine ⟨fun c1=>?_,fun c1=>?_⟩
  ·have hjl:j<below.length:=by have:=of_decide_eq_true c1;rw [List.length_map] at this;omega
   obtain ⟨k,hk⟩:∃ k,below[j]?=some k:=⟨_,List.getElem?_eq_getElem hjl⟩;have hcd:costL l (below.drop j)=(eN l k - k)+costL l (below.drop (j+1)):=by rw [drop_cons hk];unfold costL;rw [List.map_cons,List.sum_cons]
   have hck:costN l (k:Nat)=eN l k - k:=by unfold costN;rw [if_pos (by omega),Int.toNat_natCast]
   have hv:=hvis k (List.mem_of_getElem? hk) (ms++ms') H0 hS' (by rw [List.length_append,hck];omega);obtain ⟨rd1,OH1,hO1,rfl⟩:=hS';(conv=>whnf);repeat ((first|refine ix (by assumption) ?_|refine ⟨_,_,.head _,rfl,?_⟩);conv=>whnf)
   refine ACalls.mono ?_ hv;rintro v h' ⟨rfl,ms2,hS2,hm2⟩;(conv=>whnf);repeat (refine ⟨gP_of ⟨by omega,by omega⟩,?_⟩;conv=>whnf)
   refine ⟨below.length - (j+1),by omega,j+1,ms'++ms2,h',rfl,rfl,rfl,by omega,by rw [<- List.append_assoc];exact hS2,?_⟩;rw [List.length_append];omega
  have hjl:¬ j<below.length:=fun h=>by rw [decide_eq_true (by rw [List.length_map];omega)] at c1;cases c1
  rw [List.drop_of_length_le (by omega)] at hcost;have hfin:ms'.length<=costN l node:=by have:costL l []=0:=rfl;omega
  (conv=>whnf);obtain ⟨rd1,OH1,hO1,rfl⟩:=hS';repeat ((refine ⟨i,encNod n,gP_of ⟨hi,by simp [hn]⟩,?_⟩);conv=>whnf)
  refine ⟨fun c2=>?_,fun c2=>?_⟩
  ·(conv=>whnf);repeat ((first|(refine ⟨_,_,.tail _ (.head _),rfl,?_⟩)|refine QCall.k0 (noRingW node r0 rd1) ?_);conv=>whnf)
   exact ⟨rfl,ms',⟨_,_,hO1,rfl⟩,hfin⟩
  (conv=>whnf);skip;exact ⟨rfl,ms',⟨_,_,hO1,rfl⟩,hfin⟩
 have hnode:node = -1:=(by omega);have hck:=costG (l:=l) (node:=node) (by omega);refine fcalls (F:=Tryz.f83) c83 rfl rfl rfl mixed rfl fun X=>?_;(conv=>whnf);unfold visitC nodesV;repeat ((first|(refine ⟨0,encNod zN,(fun hg=>absurd (of_decide_eq_true hg) h0),?_⟩)|refine gcall (isLeafW zN) ?_);conv=>whnf)
 refine cF (by rw [decide_eq_false h0];rfl) ?_;obtain ⟨below,hbe⟩:∃ b,b=kidsL l node:=⟨_,rfl⟩;have hvis:∀ k∈below,VisOK l vb rb ob (k:Nat):=by rw [hbe];exact hvis
 have hcb:costL l below<=costN l node:=by unfold costN;rw [hbe,if_neg h0];omega
 have hbl:below.length<=1048576:=by rw [hbe];have:=kidsL_len hhi;omega
 have hco:=collectKids l node hhi hl;rw [<- hbe] at hco;(conv=>whnf);repeat ((first|(refine ⟨_,_,.tail _ (.head _),rfl,?_⟩)|refine QCall.k0 (kidsW l node) ?_|refine QCall.k0 (hco) ?_|(refine ⟨0,encNod zN,(fun hg=>absurd (of_decide_eq_true hg) h0),?_⟩));conv=>whnf)
 refine cF (by rw [decide_eq_false h0];rfl) ?_;(conv=>whnf);skip;refine sloop rfl mixed [0,1,2,4,5,7,46,47,48] [] (fun m r h=>∃ (j:Nat) (ms':List Mk) (H1:Heap),r=[(0,[],.int .i64 node),(1,[],.iptr [.sl 8 none (l.map encNod)]),(2,[],.optr rb 0),(4,[],.optr vb 0),(5,[],.iptr [.fn 54 []]),(7,[],.int .i64 r0),(46,[],.sl 1 none (below.map natE)),(47,[],.int .i64 ((below.map natE).length:Nat)),(48,[],.int .i64 j)]/\h=H1/\m=below.length - j/\j<=below.length/\VisS l vb rb ob (ms++ms') H1/\ms'.length+costL l (below.drop j)<=costL l below) ?_ ?_
 ·(conv=>whnf);exact ⟨_,0,[],_,rfl,rfl,rfl,by omega,by rw [List.append_nil];exact hS,by simp⟩
 rintro m r H0 ⟨j,ms',H1,rfl,rfl,rfl,hj,hS',hcost⟩;(conv=>whnf);skip;refine ⟨fun c1=>?_,fun c1=>?_⟩
 ·have hjl:j<below.length:=by have:=of_decide_eq_true c1;rw [List.length_map] at this;omega
  obtain ⟨k,hk⟩:∃ k,below[j]?=some k:=⟨_,List.getElem?_eq_getElem hjl⟩;have hcd:costL l (below.drop j)=(eN l k - k)+costL l (below.drop (j+1)):=by rw [drop_cons hk];unfold costL;rw [List.map_cons,List.sum_cons]
  have hck:costN l (k:Nat)=eN l k - k:=by unfold costN;rw [if_pos (by omega),Int.toNat_natCast]
  have hv:=hvis k (List.mem_of_getElem? hk) (ms++ms') H0 hS' (by rw [List.length_append,hck];omega);obtain ⟨rd1,OH1,hO1,rfl⟩:=hS';(conv=>whnf);repeat ((first|refine ix (by assumption) ?_|refine ⟨_,_,.head _,rfl,?_⟩);conv=>whnf)
  refine ACalls.mono ?_ hv;rintro v h' ⟨rfl,ms2,hS2,hm2⟩;(conv=>whnf);repeat (refine ⟨gP_of ⟨by omega,by omega⟩,?_⟩;conv=>whnf)
  refine ⟨below.length - (j+1),by omega,j+1,ms'++ms2,h',rfl,rfl,rfl,by omega,by rw [<- List.append_assoc];exact hS2,?_⟩;rw [List.length_append];omega
 have hjl:¬ j<below.length:=fun h=>by rw [decide_eq_true (by rw [List.length_map];omega)] at c1;cases c1
 rw [List.drop_of_length_le (by omega)] at hcost;have hfin:ms'.length<=costN l node:=by have:costL l []=0:=rfl;omega
 (conv=>whnf);obtain ⟨rd1,OH1,hO1,rfl⟩:=hS';repeat ((refine ⟨0,encNod zN,(fun hg=>absurd (of_decide_eq_true hg) h0),?_⟩);conv=>whnf)
 refine ⟨fun c2=>?_,fun c2=>?_⟩
 ·(conv=>whnf);repeat ((first|(refine ⟨_,_,.tail _ (.head _),rfl,?_⟩)|refine QCall.k0 (noRingW node r0 rd1) ?_);conv=>whnf)
  exact ⟨rfl,ms',⟨_,_,hO1,rfl⟩,hfin⟩
 (conv=>whnf);skip;exact ⟨rfl,ms',⟨_,_,hO1,rfl⟩,hfin⟩
end Go.Abs.Wall.Dic
namespace Go.Abs.Wall.Dic
open Go Go.Abs Go.Proofs Go.Abs.Wall
theorem visitAll (l:List Nod) (hl:l.length<=1048576) (hT:TextOK l) (vb rb ob:Nat):∀ (N:Nat) (node:Int),-1<=node->node<l.length->((l.length:Int) - node).toNat<=N->VisOK l vb rb ob node
 | 0,node,h1,h2,h3=>by omega
 | N+1,node,h1,h2,h3=>by
   have hk:∀ k∈kidsL l node,VisOK l vb rb ob (k:Nat):=by intro k hk;have:=kidsL_in h2 h1 k hk;exact visitAll l hl hT vb rb ob N k (by omega) (by omega) (by omega)
   by_cases hlf:∃ (i:Nat) (n:Nod),(i:Int)=node/\l[i]?=some n/\leafB n=true
   ·obtain ⟨i,n,rfl,hn,hb⟩:=hlf;have hc:1<=costN l (i:Nat):=by have h4:i<eN l i:=endI_gt l i _;unfold costN;rw [if_pos (by omega),Int.toNat_natCast];omega
    intro ms H hS hm;refine (visitLeaf l vb rb ob i n hn hb ms H hS (by omega)).mono ?_;rintro v h' ⟨rfl,ms',hS',hm'⟩;exact ⟨rfl,ms',hS',by omega⟩
   refine visitNode l hl hT vb rb ob node h1 h2 hk fun i n hi hn=>?_;cases hb:leafB n with
   | false=>rfl
   | true=>exact absurd ⟨i,n,hi,hn,hb⟩ hlf
def c51:Cfg:=⟨[0,1,2,3,4,5,6,7],[],[],[],[],[]⟩
def c24:Cfg:=⟨[0,1,2,3],[],[],[],[],[]⟩
def c8:Cfg:=⟨[0,1,2,3,4,5,6,7,9,14,17,18,19,20,25],[],[9],[],[],[]⟩
theorem costN_le {l:List Nod}:costN l (-1)=l.length:=by unfold costN;rw [if_neg (by omega)]
theorem orderW (l:List Nod) (hl:l.length<=1048576) (hT:TextOK l) (ob:Nat):ACalls Tryz.prog 51 [nodesV l,leafV l ob,.fn 54 []] [(ob,.vec [.nilS])] (fun v h'=>∃ ms OH A,v=.tup []/\OutB ob ms OH/\ms.length<=1048576/\h'=A++OH):=by
 refine fcalls (F:=Tryz.f51) c51 rfl rfl rfl mixed rfl fun X=>?_;(conv=>whnf);unfold nodesV;repeat ((first|(refine ⟨_,_,.here _,⟨Nat.le_of_ble_eq_true rfl,Nat.le_of_ble_eq_true rfl⟩,?_⟩)|refine ⟨_,_,.head _,rfl,?_⟩|intro (nb:Nat));conv=>whnf)
 rename_i rb;have hv:=visitAll l hl hT nb rb ob _ (-1) (by omega) (by omega) (Nat.le_refl _) [] _ ⟨0,_,.inl ⟨rfl,rfl⟩,rfl⟩ (by rw [costN_le];simp;omega);refine ACalls.mono ?_ hv;rintro v h' ⟨rfl,ms',⟨rd,OH,hO,rfl⟩,hm⟩;rw [costN_le] at hm;(conv=>whnf);skip;exact ⟨_,OH,[_,_],rfl,hO,by simp;omega,rfl⟩
theorem orderV (l:List Nod) (hl:l.length<=1048576) (hT:TextOK l) (ob:Nat):ACalls Tryz.prog 51 [nodesV l,leafV l ob,.fn 54 []] [(ob,.vec [.nilS])] (fun v h'=>v=.tup []/\∃ ms,OutB ob ms h'/\ms.length<=1048576):=by refine ACalls.post (orderW l hl hT ob) ?_;rintro v h' ⟨ms,OH,A,rfl,hO,hm,rfl⟩;exact ⟨_,OH,⟨rfl,ms,hO,hm⟩,VLe.refl _,fun k o hm=>List.mem_append_right _ hm,nodup_tail⟩
theorem lineW (l:List Nod) (hl:l.length<=1048576) (hT:TextOK l):ACalls Tryz.prog 24 [.agg [nodesV l]] [] (fun v h'=>∃ ms:List Mk,v=.sl 4 none (ms.map encMk)/\ms.length<=1048576/\h'=[]):=by
 refine ACalls.post (R:=fun v h'=>∃ ms:List Mk,VLe v (.sl 4 none (ms.map encMk))/\ms.length<=1048576) ?_ ?_
 ·refine fcalls (F:=Tryz.f24) c24 rfl rfl rfl mixed rfl fun X=>?_;(conv=>whnf);repeat (intro (nb:Nat);conv=>whnf)
  refine ACalls.mono ?_ (orderV l hl hT nb);rintro v h' ⟨rfl,ms,hO,hm⟩;rcases hO with ⟨rfl,rfl⟩|⟨hne,q,rfl⟩
  ·(conv=>whnf);repeat (refine ⟨_,_,.head _,rfl,?_⟩;conv=>whnf)
   exact ⟨[],VLe.nil (by omega),hm⟩
  (conv=>whnf);repeat ((refine ⟨_,_,.tail _ (.head _),rfl,?_⟩);conv=>whnf)
  exact ⟨ms,VLe.sl,hm⟩
 rintro v h' ⟨ms,hv,hm⟩;exact ⟨_,[],⟨ms,rfl,hm,rfl⟩,hv,(fun k o hm=>by cases hm),fun _=>List.nodup_nil⟩
theorem checkC (L:Lst) (hL:LstFit L) (l:List Nod) (hl:l.length<=1048576) (hs:L.signs.length<=LMAX) (hd:∀ n∈l,0<=n.depth/\n.depth<=4294967296) :
  ACalls Tryz.prog 23 [.agg (encLst L),.agg [nodesV l]] [] (fun v h'=>∃ e,v=.int .i64 e/\(e=0->TextOK l)/\h'=[]):=by
 refine ACalls.post (checkP L hL l hl hs hd) ?_;rintro v h' ⟨e,rfl,he⟩;exact ⟨_,[],⟨e,rfl,he,rfl⟩,VLe.refl _,(fun k o hm=>by cases hm),fun _=>List.nodup_nil⟩
theorem OrderP (L:Lst) (hL:LstFit L) (l:List Nod) (hl:l.length<=1048576) (hs:L.signs.length<=LMAX) (hd:∀ n∈l,0<=n.depth/\n.depth<=4294967296) :
  ACalls Tryz.prog 8 [.agg (encLst L),.agg [nodesV l]] [] (fun v h'=>∃ (e:Int) (xs:List Int),VLe v (.tup [.sl 1 none (ints xs),.int .i64 e])):=by
 refine fcalls (F:=Tryz.f8) c8 rfl rfl rfl mixed rfl fun X=>?_;(conv=>whnf);repeat ((refine ACalls.mono ?_ (checkC L hL l hl hs hd));conv=>whnf)
 rintro v h' ⟨e,rfl,he,rfl⟩;(conv=>whnf);skip;refine ⟨fun c1=>?_,fun c1=>?_⟩
 ·(conv=>whnf);skip;exact ⟨e,[],VLe.tup (.cons (VLe.nil (by omega)) (.cons (VLe.refl _) .nil))⟩
 have he0:e=0:=(by simpa using c1);have hT:=he he0;(conv=>whnf);repeat ((refine ACalls.mono ?_ (lineW l hl hT));conv=>whnf)
 rintro v h' ⟨ms,rfl,hm,rfl⟩;(conv=>whnf);skip;refine sloop rfl mixed [7,17,18,19] [] (fun m r h=>∃ (i:Nat) (xs:List Int) (ov:AV) (oh:Heap),r=[(7,[],ov),(17,[],.sl 4 none (ms.map encMk)),(18,[],.int .i64 ((ms.map encMk).length:Nat)),(19,[],.int .i64 i)]/\h=oh/\m=ms.length - i/\i<=ms.length/\xs.length=i/\Out 1 (fun n=>[AV.int .i64 n]) xs ov oh) ?_ ?_
 ·(conv=>whnf);exact ⟨_,0,[],.nilS,[],rfl,rfl,rfl,by omega,rfl,.inl ⟨rfl,rfl,rfl⟩⟩
 rintro m r h ⟨i,xs,ov,oh,rfl,rfl,rfl,hi,hxl,hO⟩;(conv=>whnf);skip;refine ⟨fun c2=>?_,fun c2=>?_⟩
 ·have hil:i<ms.length:=by have:=of_decide_eq_true c2;rw [List.length_map] at this;omega
  obtain ⟨mk,hmk⟩:∃ s,ms[i]?=some s:=⟨_,List.getElem?_eq_getElem hil⟩;(conv=>whnf);repeat ((first|refine ix (by assumption) ?_|(refine ⟨_,_,Rem.here _,⟨Nat.le_of_ble_eq_true rfl,rfl⟩,?_⟩)|intro (nb:Nat));conv=>whnf)
  refine ⟨fun c3=>?_,fun c3=>?_⟩
  ·(conv=>whnf);skip;exact ⟨22,[],VLe.tup (.cons (VLe.nil (by omega)) (.cons (VLe.refl _) .nil))⟩
  rcases hO with ⟨rfl,rfl,rfl⟩|⟨q,rfl,rfl⟩
  ·(conv=>whnf);repeat ((first|refine ⟨gP_of ⟨by omega,by omega⟩,?_⟩|(refine ⟨Nat.le_of_ble_eq_true rfl,fun q=>?_⟩));conv=>whnf)
   exact ⟨ms.length - (i+1),by omega,i+1,[mk.sign],_,_,rfl,rfl,rfl,by omega,by simp at hxl ⊢;omega,.inr ⟨q,rfl,rfl⟩⟩
  (conv=>whnf);repeat ((first|refine ⟨gP_of ⟨by omega,by omega⟩,?_⟩|(refine ⟨by simp;unfold AMAX;omega,fun q'=>⟨_,.here _,?_⟩⟩));conv=>whnf)
  exact ⟨ms.length - (i+1),by omega,i+1,xs++[mk.sign],_,_,rfl,rfl,rfl,by omega,by simp;omega,.inr ⟨q',by rw [List.map_append];rfl,rfl⟩⟩
 (conv=>whnf);skip;exact ⟨0,xs,VLe.tup (.cons (hO.le (by omega)) (.cons (VLe.refl _) .nil))⟩
theorem OrderC (L:Lst) (hL:LstFit L) (l:List Nod) (hl:l.length<=1048576) (hs:L.signs.length<=LMAX) (hd:∀ n∈l,0<=n.depth/\n.depth<=4294967296) :
  ACalls Tryz.prog 8 [.agg (encLst L),.agg [nodesV l]] [] (fun v h'=>∃ (e:Int) (xs:List Int),v=.tup [.sl 1 none (ints xs),.int .i64 e]/\h'=[]):=by
 refine ACalls.post (OrderP L hL l hl hs hd) ?_;rintro v h' ⟨e,xs,hv⟩;exact ⟨_,[],⟨e,xs,rfl,rfl⟩,hv,(fun k o hm=>by cases hm),fun _=>List.nodup_nil⟩
end Go.Abs.Wall.Dic
namespace Go.Abs.Wall.Dic
open Go Go.Abs Go.Proofs Go.Abs.Wall
theorem row_len:∀ {rows:List (List AV)},(∀ c∈rows,c.length=11)->rows.flatten.length=rows.length*11
 | [],_=>rfl
 | c::rows,h=>by rw [List.flatten_cons,List.length_append,h c (by simp),row_len fun c hc=>h c (by simp [hc]),List.length_cons];omega
theorem row_drop {f:Nat} {cs:List AV} (hf:f<=11):∀ {rows:List (List AV)} {i:Nat},(∀ c∈rows,c.length=11)->rows[i]?=some cs->rows.flatten.drop (i*11+f)=cs.drop f++(rows.drop (i+1)).flatten
 | [],_,_,h=>by simp at h
 | c::rows,0,h,hx=>by simp only [List.getElem?_cons_zero,Option.some.injEq] at hx;subst hx;have:=h c (by simp);rw [List.flatten_cons,Nat.zero_mul,Nat.zero_add,List.drop_append_of_le_length (by omega)];rfl
 | c::rows,i+1,h,hx=>by have hc:=h c (by simp);rw [List.flatten_cons,show (i+1)*11+f=c.length+(i*11+f) by omega,List.drop_append,List.drop_eq_nil_of_le (by omega),List.nil_append,Nat.add_sub_cancel_left];exact row_drop hf (fun c hc=>h c (by simp [hc])) (by simpa using hx)
theorem row_set {f:Nat} {cs l:List AV} (hf:f+l.length<=11):∀ {rows:List (List AV)} {i:Nat},(∀ c∈rows,c.length=11)->rows[i]?=some cs->setC rows.flatten (i*11+f) l=(rows.set i (setC cs f l)).flatten
 | [],_,_,h=>by simp at h
 | c::rows,0,h,hx=>by simp only [List.getElem?_cons_zero,Option.some.injEq] at hx;subst hx;have:=h c (by simp);rw [List.flatten_cons,Nat.zero_mul,Nat.zero_add,List.set_cons_zero,List.flatten_cons];unfold setC;rw [List.take_append_of_le_length (by omega),List.drop_append_of_le_length (by omega)];simp
 | c::rows,i+1,h,hx=>by have hc:=h c (by simp);have ih:=row_set hf (rows:=rows) (i:=i) (fun c hc=>h c (by simp [hc])) (by simpa using hx);rw [List.set_cons_succ,List.flatten_cons,List.flatten_cons,<- ih];unfold setC;rw [show (i+1)*11+f=c.length+(i*11+f) by omega,show c.length+(i*11+f)+l.length=c.length+(i*11+f+l.length) by omega,List.take_append,List.drop_append,List.take_of_length_le (by omega),List.drop_eq_nil_of_le (by omega),Nat.add_sub_cancel_left,List.nil_append,Nat.add_sub_cancel_left];simp
theorem ldR {P:Program} {t:TypeId} {b o:Nat} (i f:Nat) {h:Heap} {rows:List (List AV)} {cs:List AV} {K:AV->Prop} (hr:∀ c∈rows,c.length=11) (hm:(b,Ob.vec rows.flatten)∈h) (ho:o=i*11+f) (hf:f<=11) (hx:rows[i]?=some cs)
  (hl:loadI P t (cs.drop f++(rows.drop (i+1)).flatten) K):∃ cs' l,(b,Ob.vec cs')∈h/\dropN o cs'=some l/\loadI P t l K:=by
 obtain ⟨hi,_⟩:=List.getElem?_eq_some_iff.1 hx;refine ⟨_,_,hm,dropN_some ?_,?_⟩
 ·rw [row_len hr,ho];have:=Nat.mul_le_mul_right 11 (show i+1<=rows.length from hi);omega
 rw [ho,row_drop hf hr hx];exact hl
theorem ItsH.r11:∀ {xs:List Itm} {rows:List (List AV)} {hp:Heap},ItsH xs rows hp->∀ c∈rows,c.length=11
 | [],_,_,h=>by cases h;simp
 | x::xs,_,_,h=>by
   cases h with
   | cons _ c1 h1 _ r2 h2 k1 k2=>
     obtain ⟨nd,code,n,k,rfl⟩:=k1.form;intro c hc;rcases List.mem_cons.1 hc with rfl|hc
     ·rfl
     exact ItsH.r11 k2 c hc
theorem ItsH.at:∀ {xs:List Itm} {rows:List (List AV)} {hp:Heap} {i:Nat},ItsH xs rows hp->i<xs.length->∃ x cs h1 h2 h3,xs[i]?=some x/\rows[i]?=some cs/\ItH x cs h1/\hp=h2++(h1++h3) /\
  ∀ y cs' h1',ItH y cs' h1'->ItsH (xs.set i y) (rows.set i cs') (h2++(h1'++h3))
 | [],_,_,_,h,hi=>by simp at hi
 | x::xs,_,_,0,h,hi=>by
   cases h with
   | cons _ c1 h1 _ r2 h2 k1 k2=>exact ⟨x,c1,h1,[],h2,rfl,rfl,k1,rfl,fun y cs' h1' hy=>(ItsH.cons y cs' h1' xs r2 h2 hy k2:ItsH _ _ (h1'++h2))⟩
 | x::xs,_,_,i+1,h,hi=>by
   cases h with
   | cons _ c1 h1 _ r2 h2 k1 k2=>
     obtain ⟨x',cs,g1,g2,g3,e1,e2,e3,rfl,e4⟩:=ItsH.at (i:=i) k2 (by simpa using hi);refine ⟨x',cs,g1,h1++g2,g3,by simpa using e1,by simpa using e2,e3,by simp,fun y cs' h1' hy=>?_⟩;rw [List.set_cons_succ,List.set_cons_succ,List.append_assoc];exact .cons _ _ _ _ _ _ k1 (e4 y cs' h1' hy)
end Go.Abs.Wall.Dic
namespace Go.Abs.Wall.Dic
open Go Go.Abs Go.Proofs Go.Abs.Wall
theorem ACalls.perm {P:Program} {f:FuncId} {args:List AV} {h0 F h:Heap} {R R':AV->Heap->Prop} (hf:ACalls P f args h0 R) (hp:List.Perm (h0++F) h) (hq:∀ v h1,R v h1->∃ h2,List.Perm (h1++F) h2/\R' v h2):ACalls P f args h R':=by refine ACalls.post (ACalls.pre (ACalls.frame hf F) (fun k o hm=>hp.mem_iff.1 hm) (nodup_perm hp.symm)) ?_;rintro v h' ⟨h1,hR,rfl⟩;obtain ⟨h2,hp2,hR2⟩:=hq v h1 hR;exact ⟨v,h2,hR2,VLe.refl _,fun k o hm=>hp2.mem_iff.2 hm,nodup_perm hp2⟩
abbrev Nums:=List (List UInt8 × Int)
def resC (nm vb:Nat):List AV:=[.iptr [.omap nm],.optr vb 0]
def resG (nm vb:Nat) (es:Nums):Heap:=[(vb,.vec [.fn 48 (resC nm vb)]),(nm,.map (encA AV.str (AV.int .i64) es))]
def c48:Cfg:=⟨[0,1,2,4,5,6,7,8,9,11,12,13,23,34,51],[],[],[],[(6,[0,1,2,3,4,5,6,7,8,9,10],[]),(10,[0,1,2,3,4,5,6],[])],[49]⟩
theorem resNil (nm vb:Nat) (es:Nums):ACalls Tryz.prog 48 (.nilS::resC nm vb) [] (fun v h'=>v=.int .i64 (-1)/\h'=[]):=by
 refine fcalls (F:=Tryz.f48) c48 rfl rfl rfl mixed rfl fun X=>?_;(conv=>whnf);skip;refine sloop rfl mixed [0,1,2,11,12] [] (fun m r h=>r=[(0,[],.nilS),(1,[],.iptr [.omap nm]),(2,[],.optr vb 0),(11,[],.int .i64 0),(12,[],.int .i64 0)]/\h=[]/\m=0/\True) ?_ ?_
 ·(conv=>whnf);exact ⟨_,rfl,rfl,rfl,trivial⟩
 rintro m r h ⟨rfl,rfl,rfl,_⟩;(conv=>whnf);skip;refine cF rfl ?_;(conv=>whnf);skip;exact ⟨rfl,rfl⟩
def ResOK (nm vb:Nat) (es:Nums) (xs:List Itm):Prop:=∀ (b:Nat) (rows:List (List AV)) (hp:Heap),ItsH xs rows hp ->
 ACalls Tryz.prog 48 (.osl b 0 xs.length 11::resC nm vb) ((b,.vec rows.flatten)::(hp++resG nm vb es)) (fun v h'=>∃ (n:Int) (ys:List Itm) (rows':List (List AV)) (hp':Heap),v=.int .i64 n/\ItsH ys rows' hp'/\ys.length=xs.length/\iszs ys=iszs xs/\h'=(b,.vec rows'.flatten)::(hp'++resG nm vb es))
theorem permK {K G M h3:Heap}:List.Perm ((K++G)++(M++h3)) (M++(K++(h3++G))):=by rw [List.append_assoc];refine (List.Perm.append_left K (List.perm_append_comm (l₁:=G) (l₂:=M++h3))).trans ?_;rw [List.append_assoc];exact List.perm_append_comm_assoc _ _ _
theorem ItH.signed {x:Itm} {nd:Nod} {code:List UInt8} {a:Int} {k:AV} {h1:Heap} (n:Int) (h:ItH x (itmC nd code a k) h1):∃ y,ItH y (itmC { nd with sign:=n } code a k) h1/\isz y=isz x:=by
 generalize hcs:itmC nd code a k=cs at h;cases h with
 | leaf nd' code' a' hc=>
   simp only [itmC,encNod,List.cons_append,List.nil_append,List.cons.injEq,AV.int.injEq,AV.bool.injEq,AV.str.injEq,true_and,and_true] at hcs;obtain ⟨h1,h2,h3,h4,h5,h6,h7,h8,rfl,rfl,rfl⟩:=hcs;exact ⟨_,.leaf _ _ _ hc,rfl⟩
 | node nd' code' a' xs b rows hp hc hne hI=>
   simp only [itmC,encNod,List.cons_append,List.nil_append,List.cons.injEq,AV.int.injEq,AV.bool.injEq,AV.str.injEq,true_and,and_true] at hcs;obtain ⟨h1,h2,h3,h4,h5,h6,h7,h8,rfl,rfl,rfl⟩:=hcs;exact ⟨_,.node _ _ _ _ _ _ _ hc hne hI,rfl⟩
theorem ItH.kidsOf {x:Itm} {nd:Nod} {code:List UInt8} {a:Int} {k:AV} {h1:Heap} (h:ItH x (itmC nd code a k) h1):(k=.nilS/\h1=[]/\isz x=1)\/∃ ks bb rr hp1,k=.osl bb 0 ks.length 11/\ItsH ks rr hp1/\h1=(bb,.vec rr.flatten)::hp1/\isz x=1+iszs ks /\
  ∀ ks' rr' hp1',ItsH ks' rr' hp1'->ks'.length=ks.length->∃ x',ItH x' (itmC nd code a k) ((bb,.vec rr'.flatten)::hp1')/\isz x'=1+iszs ks':=by
 generalize hcs:itmC nd code a k=cs at h;cases h with
 | leaf nd' code' a' hc=>
   simp only [itmC,encNod,List.cons_append,List.nil_append,List.cons.injEq,and_true] at hcs;obtain ⟨-,-,-,-,-,-,-,-,-,-,rfl⟩:=hcs;exact .inl ⟨rfl,rfl,rfl⟩
 | node nd' code' a' xs b rows hp hc hne hI=>
   have hcs2:=hcs;simp only [itmC,encNod,List.cons_append,List.nil_append,List.cons.injEq,and_true] at hcs;obtain ⟨-,-,-,-,-,-,-,-,-,-,rfl⟩:=hcs;refine .inr ⟨xs,b,rows,hp,rfl,hI,rfl,rfl,fun ks' rr' hp1' hI' hl'=>?_⟩;rw [<- hl'];exact ⟨_,.node _ _ _ ks' _ _ _ hc (fun e=>hne (List.eq_nil_of_length_eq_zero (by rw [<- hl',e];rfl))) hI',rfl⟩
theorem iszs_set:∀ {ys:List Itm} {i:Nat} {x z:Itm},ys[i]?=some x->isz z=isz x->iszs (ys.set i z)=iszs ys
 | [],_,_,_,h,_=>by simp at h
 | y::ys,0,x,z,h,hz=>by simp only [List.getElem?_cons_zero,Option.some.injEq] at h;subst h;rw [List.set_cons_zero,iszs,iszs,hz]
 | y::ys,i+1,x,z,h,hz=>by rw [List.set_cons_succ,iszs,iszs,iszs_set (by simpa using h) hz]
theorem iszs_get:∀ {ys:List Itm} {i:Nat} {x:Itm},ys[i]?=some x->isz x<=iszs ys
 | [],_,_,h=>by simp at h
 | y::ys,0,x,h=>by simp only [List.getElem?_cons_zero,Option.some.injEq] at h;subst h;rw [iszs];omega
 | y::ys,i+1,x,h=>by have:=iszs_get (ys:=ys) (i:=i) (by simpa using h);rw [iszs];omega
theorem stR {P:Program} {b o:Nat} (i f:Nat) {h:Heap} {rows:List (List AV)} {cs:List AV} {v:AV} {K:AV->Heap->Prop} (hr:∀ c∈rows,c.length=11) (ho:o=i*11+f) (hf:f<11) (hx:rows[i]?=some cs)
  (hk:K .unit ((b,.vec (rows.set i (setC cs f [v])).flatten)::h)):∃ cs' h',Upd b (.vec cs') b (.vec (setC cs' o [v])) ((b,.vec rows.flatten)::h) h'/\(0<[v].length/\o+[v].length<=cs'.length)/\K .unit h':=by
 obtain ⟨hi,_⟩:=List.getElem?_eq_some_iff.1 hx;subst ho;refine ⟨_,_,.here _,⟨Nat.le_of_ble_eq_true rfl,?_⟩,?_⟩
 ·rw [row_len hr];have:=Nat.mul_le_mul_right 11 (show i+1<=rows.length from hi);simp only [List.length_cons,List.length_nil];omega
 rw [row_set (by simp;omega) hr hx];exact hk
theorem set_self {α:Type}:∀ {l:List α} {i:Nat} {x:α},l[i]?=some x->l.set i x=l
 | [],_,_,h=>by simp at h
 | y::l,0,x,h=>by simp only [List.getElem?_cons_zero,Option.some.injEq] at h;rw [h];rfl
 | y::l,i+1,x,h=>by rw [List.set_cons_succ,set_self (by simpa using h)]
theorem resStep (nm vb:Nat) (es:Nums) (xs:List Itm) (hxl:xs.length<=1048576) (ih:∀ ks,iszs ks<iszs xs->ResOK nm vb es ks):ResOK nm vb es xs:=by
 intro b rows0 hp0 hI0;refine fcalls (F:=Tryz.f48) c48 rfl rfl rfl mixed rfl fun X=>?_;(conv=>whnf);skip;refine sloop rfl mixed [0,1,2,11,12] [] (fun m r h=>∃ (i:Nat) (ys:List Itm) (rows:List (List AV)) (hp:Heap),r=[(0,[],.osl b 0 xs.length 11),(1,[],.iptr [.omap nm]),(2,[],.optr vb 0),(11,[],.int .i64 (xs.length:Nat)),(12,[],.int .i64 i)]/\h=(b,.vec rows.flatten)::(hp++resG nm vb es)/\m=xs.length - i/\i<=xs.length/\ItsH ys rows hp/\ys.length=xs.length/\iszs ys=iszs xs) ?_ ?_
 ·(conv=>whnf);exact ⟨_,0,xs,rows0,hp0,rfl,rfl,rfl,by omega,hI0,rfl,rfl⟩
 rintro m r h ⟨i,ys,rows,hp,rfl,rfl,rfl,hi,hI,hyl,hys⟩;(conv=>whnf);skip;refine ⟨fun c1=>?_,fun c1=>?_⟩
 ·have hil:i<xs.length:=by have:=of_decide_eq_true c1;omega
  have h11:=hI.r11;obtain ⟨x,cs,h1,h2,h3,e1,e2,kI,rfl,put⟩:=hI.at (i:=i) (by omega);obtain ⟨nd,code,a,k,rfl⟩:=kI.form;have hmem:(nm,Ob.map (encA AV.str (AV.int .i64) es))∈(b,Ob.vec rows.flatten)::((h2++(h1++h3))++resG nm vb es):=(by simp [resG]);(conv=>whnf);repeat ((first|(refine ixo (i:=i) (by omega) ?_)|(refine ldR i 0 h11 (.head _) (by show 0+i*11+0+0=i*11+0;omega) (by omega) e2 ?_));conv=>whnf)
  refine ⟨fun c2=>?_,fun c2=>?_⟩
  ·(conv=>whnf);repeat ((first|(refine ldR i 8 h11 (.head _) (by show 0+i*11+8=i*11+8;omega) (by omega) e2 ?_)|(refine lkI hmem eqStr plainStr ?_)|refine And.intro (by show drawOK (opsAt Tryz.f48 _) _=true;decide +kernel) ?_);conv=>whnf)
   refine ⟨fun c3=>?_,fun c3=>?_⟩
   ·(conv=>whnf);repeat ((refine ldR i 9 h11 (.head _) (by show 0+i*11+9=i*11+9;omega) (by omega) e2 ?_);conv=>whnf)
    exact ⟨a,ys,rows,_,rfl,hI,hyl,hys,rfl⟩
   (conv=>whnf);obtain ⟨y,kY,hyz⟩:=kI.signed ((lookA code es).getD 0);have hI2:=put y _ _ kY;obtain ⟨ys2,hye⟩:∃ ys2,ys2=ys.set i y:=⟨_,rfl⟩;obtain ⟨rows2,hre⟩:∃ rows2,rows2=rows.set i (itmC { nd with sign:=(lookA code es).getD 0 } code a k):=⟨_,rfl⟩;obtain ⟨hp2,hhp⟩:∃ hp2,hp2=h2++(h1++h3):=⟨_,rfl⟩;rw [<- hye,<- hre,<- hhp] at hI2;have hyl2:ys2.length=xs.length:=by rw [hye,List.length_set];exact hyl
   have hys2:iszs ys2=iszs xs:=by rw [hye,iszs_set e1 hyz];exact hys
   repeat ((first|(refine stR (P:=Tryz.prog) i 2 h11 (by show 0+i*11+0+2=i*11+2;omega) (by omega) e2 ?_)|refine And.intro (by show drawOK (opsAt Tryz.f48 _) _=true;decide +kernel) ?_);conv=>whnf)
   rw [show setC (itmC nd code a k) 2 [AV.int .i64 ((lookA code es).getD 0)]=itmC { nd with sign:=(lookA code es).getD 0 } code a k from rfl,<- hre,<- hhp];have h11:=hI2.r11;obtain ⟨x2,cs2,g1,g2,g3,f1,f2,kI2,rfl,put2⟩:=hI2.at (i:=i) (by omega);obtain ⟨nd2,code2,a2,k2,rfl⟩:=kI2.form;have hmv:(vb,Ob.vec [.fn 48 (resC nm vb)])∈(b,Ob.vec rows2.flatten)::((g2++(g1++g3))++resG nm vb es):=(by simp [resG]);(conv=>whnf);repeat ((first|(refine ldR i 10 h11 (.head _) (by show 0+i*11+10=i*11+10;omega) (by omega) f2 ?_)|(refine ⟨_,_,hmv,rfl,?_⟩));conv=>whnf)
   rcases kI2.kidsOf with ⟨rfl,rfl,_⟩|⟨ks,bb,rr,hp1,rfl,kI3,rfl,hz,mk⟩
   ·refine ACalls.mono ?_ ((resNil nm vb es).frame _);rintro v h' ⟨h0,⟨rfl,rfl⟩,rfl⟩;(conv=>whnf);skip;refine cF rfl ?_;(conv=>whnf);repeat (refine ⟨gP_of ⟨by omega,by omega⟩,?_⟩;conv=>whnf)
    exact ⟨xs.length - (i+1),by omega,i+1,ys2,rows2,_,rfl,rfl,rfl,by omega,hI2,hyl2,hys2⟩
   have hlt:iszs ks<iszs xs:=by have:=iszs_get f1;omega
   refine ACalls.perm (ih ks hlt bb rr hp1 kI3) (F:=(b,Ob.vec rows2.flatten)::(g2++g3)) (R':=fun v h'=>∃ (n:Int) (zs:List Itm) (rows':List (List AV)) (hp':Heap),v=.int .i64 n/\ItsH zs rows' hp'/\zs.length=xs.length/\iszs zs=iszs xs/\h'=(b,.vec rows'.flatten)::(hp'++resG nm vb es)) ?_ ?_ |>.mono ?_
   ·have:=permK (K:=(bb,Ob.vec rr.flatten)::hp1) (G:=resG nm vb es) (M:=(b,Ob.vec rows2.flatten)::g2) (h3:=g3);simpa using this
   ·rintro v h1 ⟨n,ks',rr',hp1',rfl,kI4,hkl,hkz,rfl⟩;obtain ⟨x',kI5,hxz⟩:=mk ks' rr' hp1' kI4 hkl;have hI3:=put2 x' _ _ kI5;rw [set_self f2] at hI3;refine ⟨(b,.vec rows2.flatten)::((g2++(((bb,.vec rr'.flatten)::hp1')++g3))++resG nm vb es),?_,n,_,rows2,_,rfl,hI3,by rw [List.length_set];exact hyl2,(iszs_set f1 (by omega)).trans hys2,rfl⟩;have:=permK (K:=(bb,Ob.vec rr'.flatten)::hp1') (G:=resG nm vb es) (M:=(b,Ob.vec rows2.flatten)::g2) (h3:=g3);simpa using this
   rintro v h' ⟨n,zs,rows',hp',rfl,hI4,hzl,hzz,rfl⟩;(conv=>whnf);skip;refine ⟨fun c5=>?_,fun c5=>?_⟩
   ·(conv=>whnf);skip;exact ⟨n,zs,rows',hp',rfl,hI4,hzl,hzz,rfl⟩
   (conv=>whnf);repeat (refine ⟨gP_of ⟨by omega,by omega⟩,?_⟩;conv=>whnf)
   exact ⟨xs.length - (i+1),by omega,i+1,zs,rows',hp',rfl,rfl,rfl,by omega,hI4,hzl,hzz⟩
  obtain ⟨ys2,rfl⟩:∃ ys2,ys2=ys:=⟨_,rfl⟩;obtain ⟨rows2,rfl⟩:∃ rows2,rows2=rows:=⟨_,rfl⟩;obtain ⟨hp2,hhp⟩:∃ hp2,hp2=h2++(h1++h3):=⟨_,rfl⟩;have hI2:=hI;rw [<- hhp] at hI2 ⊢;have hyl2:=hyl;have hys2:=hys;have h11:=hI2.r11;obtain ⟨x2,cs2,g1,g2,g3,f1,f2,kI2,rfl,put2⟩:=hI2.at (i:=i) (by omega);obtain ⟨nd2,code2,a2,k2,rfl⟩:=kI2.form;have hmv:(vb,Ob.vec [.fn 48 (resC nm vb)])∈(b,Ob.vec rows2.flatten)::((g2++(g1++g3))++resG nm vb es):=(by simp [resG]);(conv=>whnf);repeat ((first|(refine ldR i 10 h11 (.head _) (by show 0+i*11+10=i*11+10;omega) (by omega) f2 ?_)|(refine ⟨_,_,hmv,rfl,?_⟩)|refine And.intro (by show drawOK (opsAt Tryz.f48 _) _=true;decide +kernel) ?_);conv=>whnf)
  rcases kI2.kidsOf with ⟨rfl,rfl,_⟩|⟨ks,bb,rr,hp1,rfl,kI3,rfl,hz,mk⟩
  ·refine ACalls.mono ?_ ((resNil nm vb es).frame _);rintro v h' ⟨h0,⟨rfl,rfl⟩,rfl⟩;(conv=>whnf);skip;refine cF rfl ?_;(conv=>whnf);repeat (refine ⟨gP_of ⟨by omega,by omega⟩,?_⟩;conv=>whnf)
   exact ⟨xs.length - (i+1),by omega,i+1,ys2,rows2,_,rfl,rfl,rfl,by omega,hI2,hyl2,hys2⟩
  have hlt:iszs ks<iszs xs:=by have:=iszs_get f1;omega
  refine ACalls.perm (ih ks hlt bb rr hp1 kI3) (F:=(b,Ob.vec rows2.flatten)::(g2++g3)) (R':=fun v h'=>∃ (n:Int) (zs:List Itm) (rows':List (List AV)) (hp':Heap),v=.int .i64 n/\ItsH zs rows' hp'/\zs.length=xs.length/\iszs zs=iszs xs/\h'=(b,.vec rows'.flatten)::(hp'++resG nm vb es)) ?_ ?_ |>.mono ?_
  ·have:=permK (K:=(bb,Ob.vec rr.flatten)::hp1) (G:=resG nm vb es) (M:=(b,Ob.vec rows2.flatten)::g2) (h3:=g3);simpa using this
  ·rintro v h1 ⟨n,ks',rr',hp1',rfl,kI4,hkl,hkz,rfl⟩;obtain ⟨x',kI5,hxz⟩:=mk ks' rr' hp1' kI4 hkl;have hI3:=put2 x' _ _ kI5;rw [set_self f2] at hI3;refine ⟨(b,.vec rows2.flatten)::((g2++(((bb,.vec rr'.flatten)::hp1')++g3))++resG nm vb es),?_,n,_,rows2,_,rfl,hI3,by rw [List.length_set];exact hyl2,(iszs_set f1 (by omega)).trans hys2,rfl⟩;have:=permK (K:=(bb,Ob.vec rr'.flatten)::hp1') (G:=resG nm vb es) (M:=(b,Ob.vec rows2.flatten)::g2) (h3:=g3);simpa using this
  rintro v h' ⟨n,zs,rows',hp',rfl,hI4,hzl,hzz,rfl⟩;(conv=>whnf);skip;refine ⟨fun c5=>?_,fun c5=>?_⟩
  ·(conv=>whnf);skip;exact ⟨n,zs,rows',hp',rfl,hI4,hzl,hzz,rfl⟩
  (conv=>whnf);repeat (refine ⟨gP_of ⟨by omega,by omega⟩,?_⟩;conv=>whnf)
  exact ⟨xs.length - (i+1),by omega,i+1,zs,rows',hp',rfl,rfl,rfl,by omega,hI4,hzl,hzz⟩
 (conv=>whnf);skip;exact ⟨-1,ys,rows,hp,rfl,hI,hyl,hys,rfl⟩
end Go.Abs.Wall.Dic
namespace Go.Abs.Wall.Dic
open Go Go.Abs Go.Proofs Go.Abs.Wall
theorem isz_pos:∀ (x:Itm),1<=isz x
 | .mk _ _ _ xs=>by rw [isz];omega
theorem iszs_len:∀ (xs:List Itm),xs.length<=iszs xs
 | []=>Nat.le_refl _
 | x::xs=>by have:=iszs_len xs;have:=isz_pos x;rw [iszs,List.length_cons];omega
theorem resAll (nm vb:Nat) (es:Nums) (N:Nat):∀ xs:List Itm,iszs xs<=N->N<=1048576->ResOK nm vb es xs:=by
 induction N using Nat.strongRecOn with
 | _ N ih=>
   intro xs h hb;have hlen:=iszs_len xs;refine resStep nm vb es xs (by omega) fun ks hk=>?_;exact ih (iszs ks) (by omega) ks (Nat.le_refl _) (by omega)
def c21:Cfg:=⟨[0,1,2,4,5,6,7,8,11,12,13,14],[],[5,7],[],[],[]⟩
theorem resolveG (L:Lst) (hs:L.signs.length<=1048576) (lv:AV) (HB:Heap) (R:Heap->Prop)
  (hv:∀ nm vb es,ACalls Tryz.prog 48 (lv::resC nm vb) (HB++resG nm vb es) (fun v h'=>∃ (n:Int) (H':Heap),v=.int .i64 n/\R H'/\h'=H'++resG nm vb es)) :
  ACalls Tryz.prog 21 [.agg (encLst L),lv] HB (fun v h'=>∃ (n:Int) (H' A:Heap),v=.int .i64 n/\R H'/\h'=H'++A):=by
 refine fcalls (F:=Tryz.f21) c21 rfl rfl rfl mixed rfl fun X=>?_;(conv=>whnf);unfold encLst;repeat ((first|(refine ⟨_,_,Rem.here _,⟨Nat.le_of_ble_eq_true rfl,rfl⟩,?_⟩)|intro (nb:Nat));conv=>whnf)
 rename_i nm;refine sloop rfl mixed [1,5,11,12,13] [] (fun m r h=>∃ (i:Nat) (es:Nums),r=[(1,[],lv),(5,[],.iptr [.omap nm]),(11,[],.sl 5 none (L.signs.map encSgn)),(12,[],.int .i64 ((L.signs.map encSgn).length:Nat)),(13,[],.int .i64 i)]/\h=(nm,.map (encA AV.str (AV.int .i64) es))::HB/\m=L.signs.length - i/\i<=L.signs.length) ?_ ?_
 ·(conv=>whnf);exact ⟨_,0,[],rfl,rfl,rfl,by omega⟩
 rintro m r h ⟨i,es,rfl,rfl,rfl,hi⟩;(conv=>whnf);skip;refine ⟨fun c1=>?_,fun c1=>?_⟩
 ·have hil:i<L.signs.length:=by have:=of_decide_eq_true c1;rw [List.length_map] at this;omega
  obtain ⟨s,hsi⟩:∃ s,L.signs[i]?=some s:=⟨_,List.getElem?_eq_getElem hil⟩;(conv=>whnf);repeat ((first|refine ⟨gP_of ⟨by omega,by omega⟩,?_⟩|refine ix (by assumption) ?_|(refine ⟨_,_,Rem.here _,⟨Nat.le_of_ble_eq_true rfl,rfl⟩,?_⟩)|(refine upA eqStr plainStr (.here _) ?_)|intro (nb:Nat));conv=>whnf)
  exact ⟨L.signs.length - (i+1),by omega,i+1,_,rfl,rfl,rfl,by omega⟩
 (conv=>whnf);repeat ((first|refine ⟨_,_,.head _,rfl,?_⟩|refine ⟨_,_,.here _,leOK,?_⟩|intro (nb:Nat));conv=>whnf)
 refine ACalls.perm (hv nm nb es) (F:=[]) (R':=fun v h'=>∃ (n:Int) (H':Heap),v=.int .i64 n/\R H'/\h'=H'++resG nm nb es) ?_ ?_ |>.mono ?_
 ·rw [List.append_nil];exact List.perm_append_comm (l₁:=HB) (l₂:=resG nm nb es)
 ·rintro v h1 ⟨n,H',rfl,hR,rfl⟩;exact ⟨_,by rw [List.append_nil],n,H',rfl,hR,rfl⟩
 rintro v h' ⟨n,H',rfl,hR,rfl⟩;(conv=>whnf);skip;exact ⟨n,H',_,rfl,hR,rfl⟩
theorem resolveW (L:Lst) (hs:L.signs.length<=1048576) (xs:List Itm) (hx:iszs xs<=1048576) (b:Nat) (rows:List (List AV)) (hp:Heap) (hI:ItsH xs rows hp) :
  ACalls Tryz.prog 21 [.agg (encLst L),.osl b 0 xs.length 11] ((b,.vec rows.flatten)::hp) (fun v h'=>∃ (n:Int) (ys:List Itm) (rows':List (List AV)) (hp':Heap),v=.int .i64 n/\ItsH ys rows' hp'/\ys.length=xs.length/\iszs ys=iszs xs/\h'=(b,.vec rows'.flatten)::hp'):=by
 refine ACalls.post (resolveG L hs _ _ (fun H'=>∃ (ys:List Itm) (rows':List (List AV)) (hp':Heap),ItsH ys rows' hp'/\ys.length=xs.length/\iszs ys=iszs xs/\H'=(b,.vec rows'.flatten)::hp') fun nm vb es=>(resAll nm vb es _ xs (Nat.le_refl _) hx b rows hp hI).mono ?_) ?_
 ·rintro v h' ⟨n,ys,rows',hp',rfl,h1,h2,h3,rfl⟩;exact ⟨n,_,rfl,⟨ys,rows',hp',h1,h2,h3,rfl⟩,rfl⟩
 rintro v h' ⟨n,H',A,rfl,⟨ys,rows',hp',h1,h2,h3,rfl⟩,rfl⟩;exact ⟨_,_,⟨n,ys,rows',hp',rfl,h1,h2,h3,rfl⟩,VLe.refl _,fun k o hm=>List.mem_append_left _ hm,sub_nodup (List.sublist_append_left _ _)⟩
theorem resolveNil (L:Lst) (hs:L.signs.length<=1048576):ACalls Tryz.prog 21 [.agg (encLst L),.nilS] [] (fun v h'=>∃ (n:Int),v=.int .i64 n/\h'=[]):=by
 refine ACalls.post (resolveG L hs .nilS [] (fun H'=>H'=[]) fun nm vb es=>((resNil nm vb es).frame (resG nm vb es)).mono ?_) ?_
 ·rintro v h' ⟨h1,⟨rfl,rfl⟩,rfl⟩;exact ⟨_,[],rfl,rfl,rfl⟩
 rintro v h' ⟨n,H',A,rfl,rfl,rfl⟩;exact ⟨_,[],⟨n,rfl,rfl⟩,VLe.refl _,(fun k o hm=>by cases hm),fun _=>List.nodup_nil⟩
end Go.Abs.Wall.Dic
namespace Go.Abs.Wall.Dic
open Go Go.Abs Go.Proofs Go.Abs.Wall
def c22:Cfg:=⟨[0,1,2,6,8,9,10,11,12],[],[],[],[(5,[0,1,2,3,5,6,7,8,4,9,10],[])],[27]⟩
theorem flatNil (ov:AV) (d:Int):ACalls Tryz.prog 22 [ov,.nilS,.int .i64 d] [] (fun v h'=>v=ov/\h'=[]):=by
 refine fcalls (F:=Tryz.f22) c22 rfl rfl rfl mixed rfl fun X=>?_;(conv=>whnf);skip;refine sloop rfl mixed [0,2,9,10,11] [] (fun m r h=>r=[(0,[],ov),(2,[],.int .i64 d),(9,[],.nilS),(10,[],.int .i64 0),(11,[],.int .i64 0)]/\h=[]/\m=0/\True) ?_ ?_
 ·(conv=>whnf);exact ⟨_,rfl,rfl,rfl,trivial⟩
 rintro m r h ⟨rfl,rfl,rfl,_⟩;(conv=>whnf);skip;refine cF rfl ?_;(conv=>whnf);skip;exact ⟨rfl,rfl⟩
def FlatOK (xs:List Itm):Prop:=∀ (acc:List Nod) (ov:AV) (oh:Heap) (d:Int) (b:Nat) (rows:List (List AV)) (hp:Heap),ItsH xs rows hp->Out 8 encNod acc ov oh->0<=d->d+iszs xs<=4194304->acc.length+iszs xs<=4194304 ->
 ACalls Tryz.prog 22 [ov,.osl b 0 xs.length 11,.int .i64 d] (oh++((b,.vec rows.flatten)::hp)) (fun v h'=>∃ (ns:List Nod) (oh':Heap),Out 8 encNod (acc++ns) v oh'/\ns.length=iszs xs/\(∀ n∈ns,d<=n.depth/\n.depth<=d+iszs xs)/\h'=oh'++((b,.vec rows.flatten)::hp))
theorem iszs_app:∀ (xs ys:List Itm),iszs (xs++ys)=iszs xs+iszs ys
 | [],ys=>by rw [List.nil_append,iszs];omega
 | x::xs,ys=>by rw [List.cons_append,iszs,iszs,iszs_app xs ys];omega
theorem iszs_take (xs:List Itm) (i:Nat):iszs (xs.take i)<=iszs xs:=by have:=iszs_app (xs.take i) (xs.drop i);rw [List.take_append_drop] at this;omega
theorem flatKid {x:Itm} {nd:Nod} {code:List UInt8} {a:Int} {k:AV} {h1:Heap} (kI:ItH x (itmC nd code a k) h1) {N:Nat} (ih:∀ ks,iszs ks<N->FlatOK ks) (hN:isz x<=N) {acc:List Nod} {ov:AV} {oh:Heap} (hO:Out 8 encNod acc ov oh) {d:Int} (hd:0<=d) (hd1:d+isz x<=4194305) (hal:acc.length+isz x<=4194305)
  {F T:Heap} (hT:List.Perm (oh++(h1++F)) T):ACalls Tryz.prog 22 [ov,k,.int .i64 d] T (fun v h'=>∃ (ns:List Nod) (oh':Heap),Out 8 encNod (acc++ns) v oh'/\ns.length+1=isz x/\(∀ n∈ns,d<=n.depth/\n.depth+1<=d+isz x)/\h'=oh'++(h1++F)):=by
 rcases kI.kidsOf with ⟨rfl,rfl,hz⟩|⟨ks,bb,rr,hp1,rfl,kI3,rfl,hz,mk⟩
 ·refine ACalls.perm (flatNil ov d) (F:=oh++([]++F)) hT ?_;rintro v h1 ⟨rfl,rfl⟩;refine ⟨_,List.Perm.refl _,[],oh,by rw [List.append_nil];exact hO,by rw [hz];rfl,by simp,rfl⟩
 refine ACalls.perm (ih ks (by omega) acc ov oh d bb rr hp1 kI3 hO hd (by omega) (by omega)) (F:=F) (by rw [List.append_assoc];exact hT) ?_;rintro v h1 ⟨ns,oh',hO',hnl,hnd,rfl⟩;refine ⟨oh'++(((bb,.vec rr.flatten)::hp1)++F),by rw [List.append_assoc],ns,oh',hO',by omega,fun n hn=>?_,rfl⟩;have:=hnd n hn;omega
theorem permQ {Q K N h2 h3:Heap}:List.Perm ((Q++K)++(N++(h2++h3))) (Q++(N++(h2++(K++h3)))):=by rw [List.append_assoc];refine List.Perm.append_left Q ?_;have:=List.perm_append_comm_assoc K (N++h2) h3;simpa using this
theorem permK1 {Q K N h2 h3:Heap}:List.Perm (Q++(K++(N++(h2++h3)))) (Q++(N++(h2++(K++h3)))):=by rw [<- List.append_assoc];exact permQ
theorem permA {q nb:Nat × Ob} {bv:Nat × Ob} {h1 h2 h3 hp:Heap} (hpe:hp=h2++(h1++h3)):List.Perm ([q]++(h1++(nb::bv::(h2++h3)))) (q::nb::([]++bv::hp)):=by rw [hpe];exact permK1 (Q:=[q]) (K:=h1) (N:=[nb,bv]) (h2:=h2) (h3:=h3)
theorem permB {q nb:Nat × Ob} {bv:Nat × Ob} {h1 h2 h3 hp:Heap} (hpe:hp=h2++(h1++h3)):List.Perm ([q]++(h1++(nb::bv::(h2++h3)))) (nb::q::([]++bv::hp)):=
 (permA hpe).trans (List.Perm.swap _ _ _)
theorem permC {oh:Heap} {nb bv:Nat × Ob} {h1 h2 h3 hp:Heap} (hpe:hp=h2++(h1++h3)):List.Perm (oh++(h1++(nb::bv::(h2++h3)))) (nb::(oh++bv::hp)):=by rw [hpe];refine (permK1 (Q:=oh) (K:=h1) (N:=[nb,bv]) (h2:=h2) (h3:=h3)).trans ?_;exact List.perm_middle
theorem flatKidA {x:Itm} {nd:Nod} {code:List UInt8} {a:Int} {k:AV} {h1:Heap} (kI:ItH x (itmC nd code a k) h1) {N:Nat} (ih:∀ ks,iszs ks<N->FlatOK ks) (hN:isz x<=N) {acc:List Nod} {ov:AV} {q:Nat} (hO:Out 8 encNod acc ov [(q,.tok)]) {d:Int} (hd:0<=d) (hd1:d+isz x<=4194305) (hal:acc.length+isz x<=4194305) {nb b:Nat} {V R:List AV} {h2 h3 hp:Heap} (hpe:hp=h2++(h1++h3)) :
  ACalls Tryz.prog 22 [ov,k,.int .i64 d] ((q,.tok)::(nb,.vec V)::([]++(b,.vec R)::hp)) (fun v h'=>∃ (ns:List Nod) (oh':Heap),Out 8 encNod (acc++ns) v oh'/\ns.length+1=isz x/\(∀ n∈ns,d<=n.depth/\n.depth+1<=d+isz x)/\List.Perm h' ((nb,.vec V)::(oh'++(b,.vec R)::hp))):=by
 refine (flatKid kI ih hN hO hd hd1 hal (permA hpe)).mono ?_;rintro v h' ⟨ns,oh',h1,h2,h3,rfl⟩;exact ⟨ns,oh',h1,h2,h3,permC hpe⟩
theorem flatKidB {x:Itm} {nd:Nod} {code:List UInt8} {a:Int} {k:AV} {h1:Heap} (kI:ItH x (itmC nd code a k) h1) {N:Nat} (ih:∀ ks,iszs ks<N->FlatOK ks) (hN:isz x<=N) {acc:List Nod} {ov:AV} {q:Nat} (hO:Out 8 encNod acc ov [(q,.tok)]) {d:Int} (hd:0<=d) (hd1:d+isz x<=4194305) (hal:acc.length+isz x<=4194305) {nb b:Nat} {V R:List AV} {h2 h3 hp:Heap} (hpe:hp=h2++(h1++h3)) :
  ACalls Tryz.prog 22 [ov,k,.int .i64 d] ((nb,.vec V)::(q,.tok)::([]++(b,.vec R)::hp)) (fun v h'=>∃ (ns:List Nod) (oh':Heap),Out 8 encNod (acc++ns) v oh'/\ns.length+1=isz x/\(∀ n∈ns,d<=n.depth/\n.depth+1<=d+isz x)/\List.Perm h' ((nb,.vec V)::(oh'++(b,.vec R)::hp))):=by
 refine (flatKid kI ih hN hO hd hd1 hal (permB hpe)).mono ?_;rintro v h' ⟨ns,oh',h1,h2,h3,rfl⟩;exact ⟨ns,oh',h1,h2,h3,permC hpe⟩
theorem flatStep (xs:List Itm) (hxl:xs.length<=1048576) (ih:∀ ks,iszs ks<iszs xs->FlatOK ks):FlatOK xs:=by
 intro acc ov0 oh0 d b rows hp hI hO0 hd0 hd1 hal;have hlen:=hI.len;have h11:=hI.r11;refine fcalls (F:=Tryz.f22) c22 rfl rfl rfl mixed rfl fun X=>?_;(conv=>whnf);skip;refine tloop rfl mixed [0,2,9,10,11] [] (fun m r h=>∃ (i:Nat) (ns:List Nod) (ov:AV) (oh:Heap),r=[(0,[],ov),(2,[],.int .i64 d),(9,[],.osl b 0 xs.length 11),(10,[],.int .i64 (xs.length:Nat)),(11,[],.int .i64 i)]/\h=oh++((b,.vec rows.flatten)::hp)/\m=xs.length - i/\i<=xs.length/\Out 8 encNod (acc++ns) ov oh/\ns.length=iszs (xs.take i)/\∀ n∈ns,d<=n.depth/\n.depth<=d+iszs xs) ?_ ?_
 ·(conv=>whnf);exact ⟨_,_,Turn.refl _ _,_,0,[],ov0,oh0,rfl,rfl,rfl,by omega,by rw [List.append_nil];exact hO0,rfl,by simp⟩
 rintro m r h ⟨i,ns,ov,oh,rfl,rfl,rfl,hi,hO,hnl,hnd⟩;(conv=>whnf);refine ⟨fun c1=>?_,fun c1=>?_⟩
 ·have hil:i<xs.length:=by have:=of_decide_eq_true c1;omega
  obtain ⟨x,cs,h1,h2,h3,e1,e2,kI,hpe,put⟩:=hI.at (i:=i) (by omega);obtain ⟨nd,code,a,k,rfl⟩:=kI.form;have hmb:(b,Ob.vec rows.flatten)∈oh++((b,.vec rows.flatten)::hp):=(by simp);have hsn:iszs (xs.take (i+1))=iszs (xs.take i)+isz x:=by rw [List.take_add_one,e1];exact iszs_snoc _ _
  have htk:=iszs_take xs (i+1);obtain ⟨nd',hnd'⟩:∃ nd',nd'={ nd with depth:=d }:=⟨_,rfl⟩;rcases hO with ⟨hne,rfl,rfl⟩|⟨q,rfl,rfl⟩
  ·(conv=>whnf);repeat ((first|refine ⟨gP_of ⟨by omega,by omega⟩,?_⟩|(refine ixo (i:=i) (by omega) ?_)|(refine ldR i 0 h11 hmb (by show 0+i*11=i*11+0;omega) (by omega) e2 ?_)|(refine ⟨_,_,.here _,⟨Nat.le_of_ble_eq_true rfl,Nat.le_of_ble_eq_true rfl⟩,?_⟩)|(refine ⟨Nat.le_of_ble_eq_true rfl,fun q=>?_⟩)|refine ⟨_,_,.head _,rfl,?_⟩|refine And.intro (by show drawOK (opsAt Tryz.f22 _) _=true;decide +kernel) ?_|intro (nb:Nat));conv=>whnf)
   rw [show ([[.int .i64 nd.kind,.int .i64 d,.int .i64 nd.sign,.int .i64 nd.turn,.bool nd.mir,.int .i64 nd.state,.int .i64 nd.min,.int .i64 nd.max]]:List (List AV))=[encNod nd'] by rw [hnd'];rfl];have hO2:Out 8 encNod (acc++ns++[nd']) (.sl 8 (some q) [encNod nd']) [(q,.tok)]:=.inr ⟨q,by rw [hne];rfl,rfl⟩;refine ACalls.mono ?_ (flatKidA kI (N:=iszs xs) ih (by omega) hO2 (d:=d+1) (by omega) (by omega) (by simp only [List.length_append,List.length_singleton];omega) hpe);rintro v h' ⟨ns2,oh3,hO3,hn2,hd2,hPP⟩;(conv=>whnf);repeat (refine ⟨gP_of ⟨by omega,by omega⟩,?_⟩;conv=>whnf)
   refine ⟨_,_,Turn.sub (h':=oh3++((b,.vec rows.flatten)::hp)) (fun k o hm=>hPP.mem_iff.2 (.tail _ hm)) (fun hn=>sub_nodup (List.sublist_cons_self _ _) (nodup_perm hPP hn)),_,(by omega),i+1,ns++nd'::ns2,v,oh3,rfl,rfl,rfl,by omega,?_,?_,?_⟩
   ·rw [List.append_assoc,List.append_assoc] at hO3;exact hO3
   ·rw [hsn,List.length_append,List.length_cons];omega
   intro n hn;rcases List.mem_append.1 hn with hn|hn
   ·exact hnd n hn
   rcases List.mem_cons.1 hn with rfl|hn
   ·rw [hnd'];exact ⟨Int.le_refl _,by show d<=_;omega⟩
   have:=hd2 n hn;omega
  (conv=>whnf);repeat ((first|refine ⟨gP_of ⟨by omega,by omega⟩,?_⟩|(refine ixo (i:=i) (by omega) ?_)|(refine ldR i 0 h11 hmb (by show 0+i*11=i*11+0;omega) (by omega) e2 ?_)|(refine ⟨_,_,.here _,⟨Nat.le_of_ble_eq_true rfl,Nat.le_of_ble_eq_true rfl⟩,?_⟩)|(refine ⟨by simp;unfold AMAX;omega,fun q'=>⟨_,.there (.here _),?_⟩⟩)|refine ⟨_,_,.head _,rfl,?_⟩|refine And.intro (by show drawOK (opsAt Tryz.f22 _) _=true;decide +kernel) ?_|intro (nb:Nat));conv=>whnf)
  rw [show ([[.int .i64 nd.kind,.int .i64 d,.int .i64 nd.sign,.int .i64 nd.turn,.bool nd.mir,.int .i64 nd.state,.int .i64 nd.min,.int .i64 nd.max]]:List (List AV))=[encNod nd'] by rw [hnd'];rfl];have hO2:Out 8 encNod (acc++ns++[nd']) (.sl 8 (some q') ((acc++ns).map encNod++[encNod nd'])) [(q',.tok)]:=.inr ⟨q',by rw [List.map_append (l₁:=acc++ns)];rfl,rfl⟩;refine ACalls.mono ?_ (flatKidB kI (N:=iszs xs) ih (by omega) hO2 (d:=d+1) (by omega) (by omega) (by simp only [List.length_append,List.length_singleton];omega) hpe);rintro v h' ⟨ns2,oh3,hO3,hn2,hd2,hPP⟩;(conv=>whnf);repeat (refine ⟨gP_of ⟨by omega,by omega⟩,?_⟩;conv=>whnf)
  refine ⟨_,_,Turn.sub (h':=oh3++((b,.vec rows.flatten)::hp)) (fun k o hm=>hPP.mem_iff.2 (.tail _ hm)) (fun hn=>sub_nodup (List.sublist_cons_self _ _) (nodup_perm hPP hn)),_,(by omega),i+1,ns++nd'::ns2,v,oh3,rfl,rfl,rfl,by omega,?_,?_,?_⟩
  ·rw [List.append_assoc,List.append_assoc] at hO3;exact hO3
  ·rw [hsn,List.length_append,List.length_cons];omega
  intro n hn;rcases List.mem_append.1 hn with hn|hn
  ·exact hnd n hn
  rcases List.mem_cons.1 hn with rfl|hn
  ·rw [hnd'];exact ⟨Int.le_refl _,by show d<=_;omega⟩
  have:=hd2 n hn;omega
 have hil:¬ i<xs.length:=fun h=>by rw [decide_eq_true (by omega)] at c1;cases c1
 rw [List.take_of_length_le (by omega)] at hnl;(conv=>whnf);skip;exact ⟨ns,oh,hO,hnl,hnd,rfl⟩
end Go.Abs.Wall.Dic
namespace Go.Abs.Wall.Dic
open Go Go.Abs Go.Proofs Go.Abs.Wall
theorem flatAll (N:Nat):∀ xs:List Itm,iszs xs<=N->N<=1048576->FlatOK xs:=by
 induction N using Nat.strongRecOn with
 | _ N ih=>
   intro xs h hb;have hlen:=iszs_len xs;refine flatStep xs (by omega) fun ks hk=>?_;exact ih (iszs ks) (by omega) ks (Nat.le_refl _) (by omega)
def NodB (ns:List Nod):Prop:=ns.length<=1048576/\∀ n∈ns,0<=n.depth/\n.depth<=4294967296
theorem flatTop (xs:List Itm) (hx:iszs xs<=1048576) (b:Nat) (rows:List (List AV)) (hp:Heap) (hI:ItsH xs rows hp) :
  ACalls Tryz.prog 22 [.nilS,.osl b 0 xs.length 11,.int .i64 0] ((b,.vec rows.flatten)::hp) (fun v h'=>∃ ns,v=nodesV ns/\NodB ns/\h'=[]):=by
 refine ACalls.post (flatAll _ xs (Nat.le_refl _) hx [] .nilS [] 0 b rows hp hI (.inl ⟨rfl,rfl,rfl⟩) (Int.le_refl _) (by omega) (by simp;omega)) ?_;rintro v h' ⟨ns,oh',hO,hn,hd,rfl⟩;refine ⟨_,[],⟨ns,rfl,⟨by omega,fun n hm=>?_⟩,rfl⟩,hO.le (by omega),(fun k o hm=>by cases hm),fun _=>List.nodup_nil⟩;have:=hd n hm;omega
theorem flatTopNil:ACalls Tryz.prog 22 [.nilS,.nilS,.int .i64 0] [] (fun v h'=>∃ ns,v=nodesV ns/\NodB ns/\h'=[]):=by refine ACalls.post (flatNil .nilS 0) ?_;rintro v h' ⟨rfl,rfl⟩;exact ⟨_,[],⟨[],rfl,⟨by simp,by simp⟩,rfl⟩,VLe.nil (by omega),(fun k o hm=>by cases hm),fun _=>List.nodup_nil⟩
theorem parseC (s:List UInt8) (hs:s.length<=65536):ACalls Tryz.prog 20 [.val LC,.str s] [] (Parsed s):=by refine ACalls.post (parseW s hs) ?_;rintro v h1 ⟨h',hP,hsub⟩;exact ⟨v,h',hP,VLe.refl _,fun k o hm=>hsub.subset hm,sub_nodup hsub⟩
def c7:Cfg:=⟨[0,1,2,4,6,7,8,9,10,11,12,13,20,26,31,41,49,59],[],[],[],[],[]⟩
def ReadR (v:AV):Prop:=∃ (ns:List Nod) (a e:Int),VLe v (.tup [.agg [nodesV ns],.int .i64 a,.int .i64 e])/\NodB ns
theorem nilRes (a e:Int):ReadR (.tup [.agg [.nilS],.int .i64 a,.int .i64 e]):=
 ⟨[],a,e,VLe.tup (.cons (VLe.agg (.cons (VLe.nil (by omega)) .nil)) (.cons (VLe.refl _) (.cons (VLe.refl _) .nil))),by simp,by simp⟩
theorem upd_last {b:Nat} {o o':Ob}:∀ {h:Heap},Upd b o b o' (h++[(b,o)]) (h++[(b,o')])
 | []=>.here _
 | x::h=>.there upd_last
theorem mem_last {x:Nat × Ob} {h:Heap}:x∈h++[x]:=by simp
theorem ReadP (L:Lst) (hL:LstFit L) (hsl:L.signs.length<=1048576) (s:List UInt8) (hs:s.length<=65536) :
  ACalls Tryz.prog 7 [.int .i64 1,.agg (encLst L),.str s] [] (fun v _=>ReadR v):=by
 refine fcalls (F:=Tryz.f7) c7 rfl rfl rfl mixed rfl fun X=>?_;(conv=>whnf);repeat ((first|refine QCall.k0 (coderW) ?_|intro (nb:Nat));conv=>whnf)
 refine cF rfl ?_;(conv=>whnf);repeat (refine QCall.k0 (signsCheck L hL) ?_;conv=>whnf)
 refine ⟨fun c1=>?_,fun c1=>?_⟩
 ·(conv=>whnf);repeat ((first|(refine ⟨_,_,.here _,⟨Nat.le_of_ble_eq_true rfl,Nat.le_of_ble_eq_true rfl⟩,?_⟩)|refine ⟨_,_,.head _,rfl,?_⟩);conv=>whnf)
  exact nilRes _ _
 (conv=>whnf);skip;refine cF (decide_eq_false (by omega)) ?_;(conv=>whnf);repeat ((refine ACalls.mono ?_ ((parseC s hs).frame _));conv=>whnf)
 rintro v h' ⟨h1,hP,rfl⟩;rcases hP with ⟨n,rfl,rfl⟩|⟨rfl,rfl⟩|⟨xs,rows,hp,q,b,rfl,hI,hL2,rfl⟩
 ·(conv=>whnf);skip;refine cT rfl ?_;(conv=>whnf);repeat ((first|(refine ⟨_,_,.here _,⟨Nat.le_of_ble_eq_true rfl,Nat.le_of_ble_eq_true rfl⟩,?_⟩)|refine ⟨_,_,.head _,rfl,?_⟩);conv=>whnf)
  exact nilRes _ _
 ·(conv=>whnf);skip;refine cF rfl ?_;(conv=>whnf);repeat ((refine ACalls.mono ?_ ((resolveNil L hsl).frame _));conv=>whnf)
  rintro v h' ⟨h1,⟨n,rfl,rfl⟩,rfl⟩;(conv=>whnf);skip;refine ⟨fun c3=>?_,fun c3=>?_⟩
  ·(conv=>whnf);repeat ((first|(refine ⟨_,_,.here _,⟨Nat.le_of_ble_eq_true rfl,Nat.le_of_ble_eq_true rfl⟩,?_⟩)|refine ⟨_,_,.head _,rfl,?_⟩);conv=>whnf)
   exact nilRes _ _
  (conv=>whnf);repeat ((refine ACalls.mono ?_ (flatTopNil.frame _));conv=>whnf)
  rintro v h' ⟨h2,⟨ns,rfl,hN,rfl⟩,rfl⟩;(conv=>whnf);repeat ((first|(refine ⟨_,_,.here _,⟨Nat.le_of_ble_eq_true rfl,Nat.le_of_ble_eq_true rfl⟩,?_⟩)|refine ⟨_,_,.head _,rfl,?_⟩);conv=>whnf)
  refine ACalls.mono ?_ ((checkC L hL ns hN.1 (by unfold LMAX;omega) hN.2).frame _);rintro v h' ⟨h3,⟨e3,rfl,_,rfl⟩,rfl⟩;(conv=>whnf);skip;refine ⟨fun c4=>?_,fun c4=>?_⟩
  ·(conv=>whnf);repeat ((first|(refine ⟨_,_,.here _,⟨Nat.le_of_ble_eq_true rfl,Nat.le_of_ble_eq_true rfl⟩,?_⟩)|refine ⟨_,_,.head _,rfl,?_⟩);conv=>whnf)
   exact nilRes _ _
  (conv=>whnf);repeat ((first|(refine ⟨_,_,.here _,⟨Nat.le_of_ble_eq_true rfl,Nat.le_of_ble_eq_true rfl⟩,?_⟩)|refine ⟨_,_,.head _,rfl,?_⟩);conv=>whnf)
  exact ⟨ns,0,0,VLe.refl _,hN⟩
 have hx:iszs xs<=1048576:=by have:=hL2.2.2;omega
 (conv=>whnf);skip;refine cF rfl ?_;(conv=>whnf);repeat ((refine ACalls.mono ?_ ((resolveW L hsl xs hx q rows hp hI).frame _));conv=>whnf)
 rintro v h' ⟨h1,⟨n,ys,rows',hp',rfl,hI',hyl,hyz,rfl⟩,rfl⟩;rw [<- hyl];(conv=>whnf);skip;refine ⟨fun c3=>?_,fun c3=>?_⟩
 ·(conv=>whnf);repeat ((first|(refine ⟨_,_,upd_last,⟨Nat.le_of_ble_eq_true rfl,Nat.le_of_ble_eq_true rfl⟩,?_⟩)|(refine ⟨_,_,mem_last,rfl,?_⟩));conv=>whnf)
  exact nilRes _ _
 (conv=>whnf);repeat ((refine ACalls.mono ?_ ((flatTop ys (by omega) q rows' hp' hI').frame _));conv=>whnf)
 rintro v h' ⟨h2,⟨ns,rfl,hN,rfl⟩,rfl⟩;(conv=>whnf);repeat ((first|(refine ⟨_,_,.here _,⟨Nat.le_of_ble_eq_true rfl,Nat.le_of_ble_eq_true rfl⟩,?_⟩)|refine ⟨_,_,.head _,rfl,?_⟩);conv=>whnf)
 refine ACalls.mono ?_ ((checkC L hL ns hN.1 (by unfold LMAX;omega) hN.2).frame _);rintro v h' ⟨h3,⟨e3,rfl,_,rfl⟩,rfl⟩;(conv=>whnf);skip;refine ⟨fun c4=>?_,fun c4=>?_⟩
 ·(conv=>whnf);repeat ((first|(refine ⟨_,_,.here _,⟨Nat.le_of_ble_eq_true rfl,Nat.le_of_ble_eq_true rfl⟩,?_⟩)|refine ⟨_,_,.head _,rfl,?_⟩);conv=>whnf)
  exact nilRes _ _
 (conv=>whnf);repeat ((first|(refine ⟨_,_,.here _,⟨Nat.le_of_ble_eq_true rfl,Nat.le_of_ble_eq_true rfl⟩,?_⟩)|refine ⟨_,_,.head _,rfl,?_⟩);conv=>whnf)
 exact ⟨ns,0,0,VLe.refl _,hN⟩
theorem ReadC (L:Lst) (hL:LstFit L) (hsl:L.signs.length<=1048576) (s:List UInt8) (hs:s.length<=65536) :
  ACalls Tryz.prog 7 [.int .i64 1,.agg (encLst L),.str s] [] (fun v h'=>∃ (ns:List Nod) (a e:Int),v=.tup [.agg [nodesV ns],.int .i64 a,.int .i64 e]/\NodB ns/\h'=[]):=by
 refine ACalls.post (ReadP L hL hsl s hs) ?_;rintro v h' ⟨ns,a,e,hv,hN⟩;exact ⟨_,[],⟨ns,a,e,rfl,hN,rfl⟩,hv,(fun k o hm=>by cases hm),fun _=>List.nodup_nil⟩
end Go.Abs.Wall.Dic
