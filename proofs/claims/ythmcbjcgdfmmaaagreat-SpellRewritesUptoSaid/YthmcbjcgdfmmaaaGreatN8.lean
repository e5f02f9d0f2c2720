/- Small laws for the walks and contracts of functions; each theorem names its conditions. -/
import Derived.Test.YthmcbjcgdfmmaaaGreatN7
import Derived.Test.YthmcbjcgdfmmaaaGreatN5
import Derived.Test.YthmcbjcgdfmmaaaGreatN4
import Derived.Test.YthmcbjcgdfmmaaaGreatN6
set_option maxRecDepth 100000
set_option maxHeartbeats 2000000
namespace Go.Abs.Wall
open Go Go.Abs Go.Proofs
section
variable {α:Type} {k:Nat} {enc:α->List AV}
theorem nC (hk:∀ a,(enc a).length=k) (L:List α):((L.map enc).flatten).length=L.length*k:=qq hk
theorem yu (hk:∀ a,(enc a).length=k):∀ (L:List α) (i:Nat),((L.map enc).flatten).drop (i*k)=((L.drop i).map enc).flatten
 | L,0=>by simp
 | [],i+1=>by simp
 | a::L,i+1=>by rw [List.map_cons,List.flatten_cons,List.drop_succ_cons,show (i+1)*k=(enc a).length+i*k by rw [hk,Nat.succ_mul,Nat.add_comm],List.drop_append,List.drop_eq_nil_of_le (Nat.le_add_right _ _),List.nil_append,Nat.add_sub_cancel_left];exact yu hk L i
theorem Ft (hk:∀ a,(enc a).length=k):∀ (L:List α) (i:Nat),((L.map enc).flatten).take (i*k)=((L.take i).map enc).flatten
 | L,0=>by simp
 | [],i+1=>by simp
 | a::L,i+1=>by rw [List.map_cons,List.flatten_cons,List.take_succ_cons,List.map_cons,List.flatten_cons,show (i+1)*k=(enc a).length+i*k by rw [hk,Nat.succ_mul,Nat.add_comm],List.take_append,List.take_of_length_le (Nat.le_add_right _ _),Nat.add_sub_cancel_left];rw [Ft hk L i]
theorem fI {P:Program} {t:TypeId} {b o i:Nat} {h:af} {L:List α} {x:α} {K:AV->Prop} (hk:∀ a,(enc a).length=k) (hm:(b,Ob.vec (L.map enc).flatten)∈h) (ho:o=i*k) (hx:L[i]?=some x)
  (hl:gv P t (enc x++((L.drop (i+1)).map enc).flatten) K):∃ cs l,(b,Ob.vec cs)∈h/\iR o cs=some l/\gv P t l K:=by
 obtain ⟨hi,iU⟩:=List.getElem?_eq_some_iff.1 hx;refine ⟨_,_,hm,Cd ?_,?_⟩
 ·rw [nC hk,ho];exact Nat.mul_le_mul_right k (by omega)
 rw [ho,yu hk,List.drop_eq_getElem_cons hi,iU,List.map_cons,List.flatten_cons];exact hl
theorem I6 (hk:∀ a,(enc a).length=k) {L:List α} {i:Nat} {y:α} (hi:i<L.length):dn (L.map enc).flatten (i*k) (enc y)=((L.set i y).map enc).flatten:=by unfold dn;rw [hk,Ft hk,show i*k+k=(i+1)*k by rw [Nat.succ_mul],yu hk,List.set_eq_take_append_cons_drop,if_pos hi];simp
theorem qx {b o i:Nat} {h h':af} {L:List α} {l:List AV} {K:AV->af->Prop} (y:α) (iJ:0<k) (hk:∀ a,(enc a).length=k) (hi:i<L.length) (ho:o=i*k) (hl:l=enc y)
  (hu:cP b (.vec (L.map enc).flatten) b (.vec ((L.set i y).map enc).flatten) h h') (hK:K .unit h') :
  ∃ cs h',cP b (.vec cs) b (.vec (dn cs o l)) h h'/\(0<l.length/\o+l.length<=cs.length)/\K .unit h':=by
 subst ho hl;refine ⟨_,h',by rw [I6 hk hi];exact hu,⟨by rw [hk];exact iJ,?_⟩,hK⟩;rw [hk,nC hk,<- Nat.succ_mul];exact Nat.mul_le_mul_right k hi
end
def wm {α:Type} (less:α->α->Bool) (u:α):List α->List α
 | []=>[u]
 | b::t=>if less u b=true then b::wm less u t else u::b::t
def fx {α:Type} (less:α->α->Bool) (L:List α) (u:α):List α:=(wm less u L.reverse).reverse
theorem Mj {α:Type} {less:α->α->Bool} {u:α}:∀ {l:List α},(wm less u l).Perm (u::l)
 | []=>.refl _
 | b::t=>by
   unfold wm;split
   ·exact (List.Perm.cons _ Mj).trans (.swap _ _ _)
   exact .refl _
theorem Mk {α:Type} {less:α->α->Bool} {u:α} {l:List α}:(fx less l u).Perm (u::l):=by unfold fx;exact (List.reverse_perm _).trans (Mj.trans (List.Perm.cons _ (List.reverse_perm _)))
theorem Tw {α:Type} {cmp:α->α->Int} (h:pb cmp) {u:α}:∀ {l:List α},l.Pairwise (fun x y=>¬ cmp x y<0)->(wm (fun a b=>decide (cmp a b<0)) u l).Pairwise fun x y=>¬ cmp x y<0
 | [],_=>by simp [wm]
 | b::t,hl=>by
   rw [List.pairwise_cons] at hl;unfold wm;split
   ·rename_i hc;rw [decide_eq_true_eq] at hc;rw [List.pairwise_cons];refine ⟨fun x hx=>?_,Tw h hl.2⟩;rcases List.mem_cons.1 (Mj.mem_iff.1 hx) with rfl|hx
    ·exact fun h2=>h.ua _ (h.tr _ _ _ hc h2)
    exact hl.1 x hx
   rename_i hc;rw [decide_eq_true_eq] at hc;rw [List.pairwise_cons,List.pairwise_cons];refine ⟨fun x hx=>?_,hl⟩;rcases List.mem_cons.1 hx with rfl|hx
   ·exact hc
   exact h.nt _ _ _ hc (hl.1 x hx)
theorem I7 {α:Type} {cmp:α->α->Int} (h:pb cmp) {u:α} {l:List α} (hl:l.Pairwise fun x y=>¬ cmp y x<0):(fx (fun a b=>decide (cmp a b<0)) l u).Pairwise fun x y=>¬ cmp y x<0:=by unfold fx;rw [List.pairwise_reverse];exact Tw h (by rw [List.pairwise_reverse];exact hl)
theorem EW {α:Type} {less:α->α->Bool}:∀ {l acc:List α},(l.foldl (fx less) acc).Perm (l++acc)
 | [],acc=>.refl _
 | a::t,acc=>by rw [List.foldl_cons];exact EW.trans ((List.Perm.append_left t Mk).trans List.perm_middle)
theorem Tx {α:Type} {cmp:α->α->Int} (h:pb cmp):∀ {l acc:List α},acc.Pairwise (fun x y=>¬ cmp y x<0)->(l.foldl (fx fun a b=>decide (cmp a b<0)) acc).Pairwise fun x y=>¬ cmp y x<0
 | [],acc,ha=>ha
 | a::t,acc,ha=>by rw [List.foldl_cons];exact Tx h (I7 h ha)
theorem Nl {α:Type} {cmp:α->α->Int} (h:pb cmp) {l:List α} (ha:∀ x∈l,∀ y∈l,¬ cmp x y<0->¬ cmp y x<0->x=y):l.foldl (fx fun a b=>decide (cmp a b<0)) []=pz cmp l:=
 h.unique ha (by have:=EW (less:=fun a b=>decide (cmp a b<0)) (l:=l) (acc:=[]);rwa [List.append_nil] at this) (Tx h .nil)
theorem Ij {α:Type} {less:α->α->Bool} {u b:α} {A B:List α} (h:less u b=true):fx less (A++[b]) u++B=fx less A u++(b::B):=by unfold fx;rw [List.reverse_append,List.reverse_singleton,List.singleton_append,wm,if_pos h,List.reverse_cons,List.append_assoc];rfl
theorem Ik {α:Type} {less:α->α->Bool} {u b:α} {A B:List α} (h:less u b=false):fx less (A++[b]) u++B=A++b::u::B:=by unfold fx;rw [List.reverse_append,List.reverse_singleton,List.singleton_append,wm,if_neg (by rw [h];decide),List.reverse_cons,List.reverse_cons,List.reverse_reverse,List.append_assoc,List.append_assoc];rfl
end Go.Abs.Wall
namespace Go.Abs.Wall
open Go Go.Abs Go.Proofs
def c130:av:=⟨[0,1,4],[],[],[],[],[]⟩
def c132:av:=⟨[0,2],[],[],[],[],[]⟩
def c131:av:=⟨[0,2],[],[],[],[],[]⟩
def c133:av:=⟨[0,2],[],[],[],[],[]⟩
def c87:av:=⟨[0,1,2,3,4,5,6,7,8,9,10,11,12,28,33,67,70,96,101,130,133,155,160,183,186,197],[],[4,6,8,11],[],[(24,[0,1,2,3,4,5,6,7,8,9,10,11,12,13,14,15,16,17,18,19],[]),(35,[0,1,2,3,4,5,6,7,8],[])],[]⟩
theorem Ml (s:List UInt8) (most:Int) (hs:s.length<=aq):ab Tryz.prog 130 [.str s,.int .i64 most] [] (.bool (ot s most)):=by
 refine aA (F:=Tryz.f130) c130 rfl rfl rfl mixed rfl fun X=>?_;(conv=>whnf);repeat (refine aY (Sq s hs) ?_;conv=>whnf)
 refine ⟨congrArg AV.bool ?_,rfl⟩;unfold ot;rw [Bool.and_comm (s.all tH)];rfl
theorem Mm (s:List UInt8) (hs:s.length<=aq):ab Tryz.prog 132 [.str s] [] (.bool (sj s)):=by
 refine aA (F:=Tryz.f132) c132 rfl rfl rfl mixed rfl fun X=>?_;(conv=>whnf);repeat (refine aY (Sn s hs) ?_;conv=>whnf)
 refine ⟨congrArg AV.bool ?_,rfl⟩;unfold sj;rw [Bool.and_comm (s.all small)]
theorem Ty (n:Int):ab Tryz.prog 131 [.int .i64 n] [] (.bool (bL n 1 9)):=by refine aA (F:=Tryz.f131) c131 rfl rfl rfl mixed rfl fun X=>?_;(conv=>whnf);skip;exact ⟨rfl,rfl⟩
theorem Mn (n:Int):ab Tryz.prog 133 [.int .i64 n] [] (.bool (bL n 0 1000)):=by refine aA (F:=Tryz.f133) c133 rfl rfl rfl mixed rfl fun X=>?_;(conv=>whnf);skip;exact ⟨rfl,rfl⟩
def Hx (w:kM):Bool:=!ot w.root 8||!bL w.kind 1 9||(!decide (w.cls=[])&&!sj w.cls)||!bL w.weight 0 1000
def Hy (w:lC):Bool:=!bL w.kind 1 9||!ot w.text 4||!sj w.name||!bL w.weight 0 1000
def Hz (w:kU):Bool:=!ot w.text 4||!sj w.name||!bL w.weight 0 1000
theorem Below.none {α:Type} {p:α->Bool} {l:List α} {i:Nat} (h:Below p l i):(l.take i).any p=false:=by
 rw [List.any_eq_false];intro y hy;obtain ⟨j,hj⟩:=List.mem_iff_getElem?.1 hy;rw [List.getElem?_take] at hj;split at hj
 ·rename_i h1;rw [h j y h1 hj];decide
 cases hj
theorem Mo {α:Type} {p:α->Bool} {l:List α} {i k:Nat} {y:α} (hk:k<i) (hy:l[k]?=some y) (hp:p y=true):(l.take i).any p=true:=by rw [List.any_eq_true];exact ⟨y,List.mem_of_getElem? (i:=k) (by rw [List.getElem?_take,if_pos hk,hy]),hp⟩
set_option maxHeartbeats 2000000 in
theorem Tz (x:Lex) (hx:rT x):ab Tryz.prog 87 [.agg (fo x)] [] (.int .i64 (js x)):=by
 have sO:=hx.entries;have ik:=hx.bM;have vG:=hx.ao;unfold aq at sO ik vG;refine aA (F:=Tryz.f87) c87 rfl rfl rfl mixed rfl fun X=>?_;(conv=>whnf);skip;refine ⟨fun hc=>?_,fun hc=>?_⟩
 ·have hc:(decide (200<((x.entries.map fi).length:Int))||decide (40<((x.bM.map iV).length:Int))||decide (10<((x.ao.map gU).length:Int)))=true:=hc;simp [or_assoc] at hc;(conv=>whnf);exact ⟨by rw [js,if_pos (by omega)],rfl⟩
 have hc:(decide (200<((x.entries.map fi).length:Int))||decide (40<((x.bM.map iV).length:Int))||decide (10<((x.ao.map gU).length:Int)))=false:=hc;simp at hc;have h0:js x=if jX sm x.entries=true then 45 else if jX pV x.bM=true then 46 else if jX ou x.ao=true then 47 else 0:=(by rw [js,if_neg (by omega)]);(conv=>whnf);skip;refine bS rfl mixed [1,3] [] (fun m r h=>∃ (i:Nat),r=[(1,[],.ai (fo x)),(3,[],.int .i64 i)]/\h=[]/\m=x.entries.length - i/\i<=x.entries.length/\jX sm x.entries=jW sm x.entries (x.entries.drop i) i) ?_ ?_
 ·(conv=>whnf);exact ⟨_,0,rfl,rfl,rfl,by omega,rfl⟩
 rintro m r h ⟨i,rfl,rfl,rfl,hi,hb⟩;(conv=>whnf);skip;refine ⟨fun he=>?_,fun he=>?_⟩<;>simp at he
 ·obtain ⟨w,hw⟩:=aF he;have hm:=List.mem_of_getElem? hw;rw [drop_cons hw,jW] at hb;(conv=>whnf);repeat ((first|refine ix (by assumption) ?_|refine ab.k0 (Ml w.root 8 (hx.dY w hm).root) ?_|refine aY (Ty _) ?_|refine aY (Mm w.cls (hx.dY w hm).cls) ?_|refine aY (Mn _) ?_|refine ⟨_,_,bj.here _,⟨Nat.le_of_ble_eq_true rfl,rfl⟩,?_⟩|intro (nb:Nat));conv=>whnf)
  refine ⟨fun hd=>?_,fun hd=>?_⟩
  ·have hd:Hx w=true:=hd;have hd:sm (x.entries.take i) w=true:=by show (Hx w||(x.entries.take i).any (we w))=true;rw [hd];rfl
   rw [hd,Bool.true_or] at hb;(conv=>whnf);exact ⟨by rw [h0,if_pos hb],rfl⟩
  have hd:Hx w=false:=hd;have hd:sm (x.entries.take i) w=(x.entries.take i).any (we w):=by show (Hx w||(x.entries.take i).any (we w))=_;rw [hd];rfl
  rw [hd] at hb;(conv=>whnf);skip;refine bS rfl mixed [1,3,4,5] [] (fun m r h=>∃ (k:Nat),r=[(1,[],.ai (fo x)),(3,[],.int .i64 i),(4,[],.ai (fi w)),(5,[],.int .i64 k)]/\h=[]/\m=i - k/\k<=i/\Below (we w) x.entries k) ?_ ?_
  ·(conv=>whnf);exact ⟨_,0,rfl,rfl,rfl,by omega,.zero⟩
  rintro m r h ⟨k,rfl,rfl,rfl,hk,hg⟩;(conv=>whnf);refine ⟨fun bg=>?_,fun bg=>?_⟩<;>simp at bg
  ·obtain ⟨v,hv⟩:=aF (l:=x.entries) (i:=k) (by omega);(conv=>whnf);repeat ((first|refine ix (by assumption) ?_|refine ⟨_,_,bj.here _,⟨Nat.le_of_ble_eq_true rfl,rfl⟩,?_⟩|intro (nb:Nat));conv=>whnf)
   refine ⟨fun hq=>?_,fun hq=>?_⟩
   ·have hq:we w v=true:=hq;rw [Mo bg hv hq,Bool.true_or] at hb;(conv=>whnf);exact ⟨by rw [h0,if_pos hb],rfl⟩
   have hq:we w v=false:=hq;(conv=>whnf);repeat (refine ⟨ag ⟨by omega,by omega⟩,?_⟩;conv=>whnf)
   exact ⟨_,by omega,k+1,rfl,rfl,rfl,by omega,hg.succ hv hq⟩
  have zX:k=i:=(by omega);subst zX;rw [hg.none,Bool.false_or] at hb;(conv=>whnf);repeat (refine ⟨ag ⟨by omega,by omega⟩,?_⟩;conv=>whnf)
  exact ⟨_,by omega,k+1,rfl,rfl,rfl,by omega,hb⟩
 rw [drop_nil he,jW] at hb;have h1:js x=if jX pV x.bM=true then 46 else if jX ou x.ao=true then 47 else 0:=(by rw [h0,if_neg (by rw [hb];decide)]);(conv=>whnf);skip;refine bS rfl mixed [1,7] [] (fun m r h=>∃ (i:Nat),r=[(1,[],.ai (fo x)),(7,[],.int .i64 i)]/\h=[]/\m=x.bM.length - i/\i<=x.bM.length/\jX pV x.bM=jW pV x.bM (x.bM.drop i) i) ?_ ?_
 ·(conv=>whnf);exact ⟨_,0,rfl,rfl,rfl,by omega,rfl⟩
 rintro m r h ⟨i,rfl,rfl,rfl,hi,hb⟩;(conv=>whnf);skip;refine ⟨fun he=>?_,fun he=>?_⟩<;>simp at he
 ·obtain ⟨w,hw⟩:=aF he;have hm:=List.mem_of_getElem? hw;rw [drop_cons hw,jW] at hb;(conv=>whnf);repeat ((first|refine ix (by assumption) ?_|refine aY (Ml w.text 4 (hx.Bx w hm).text) ?_|refine ab.k0 (Ty _) ?_|refine aY (Mm w.name (hx.Bx w hm).name) ?_|refine aY (Mn _) ?_|refine ⟨_,_,bj.here _,⟨Nat.le_of_ble_eq_true rfl,rfl⟩,?_⟩|intro (nb:Nat));conv=>whnf)
  refine ⟨fun hd=>?_,fun hd=>?_⟩
  ·have hd:Hy w=true:=hd;have hd:pV (x.bM.take i) w=true:=by show (Hy w||(x.bM.take i).any (wi w))=true;rw [hd];rfl
   rw [hd,Bool.true_or] at hb;(conv=>whnf);exact ⟨by rw [h1,if_pos hb],rfl⟩
  have hd:Hy w=false:=hd;have hd:pV (x.bM.take i) w=(x.bM.take i).any (wi w):=by show (Hy w||(x.bM.take i).any (wi w))=_;rw [hd];rfl
  rw [hd] at hb;(conv=>whnf);skip;refine bS rfl mixed [1,7,8,9] [] (fun m r h=>∃ (k:Nat),r=[(1,[],.ai (fo x)),(7,[],.int .i64 i),(8,[],.ai (iV w)),(9,[],.int .i64 k)]/\h=[]/\m=i - k/\k<=i/\Below (wi w) x.bM k) ?_ ?_
  ·(conv=>whnf);exact ⟨_,0,rfl,rfl,rfl,by omega,.zero⟩
  rintro m r h ⟨k,rfl,rfl,rfl,hk,hg⟩;(conv=>whnf);refine ⟨fun bg=>?_,fun bg=>?_⟩<;>simp at bg
  ·obtain ⟨v,hv⟩:=aF (l:=x.bM) (i:=k) (by omega);(conv=>whnf);repeat ((first|refine ix (by assumption) ?_|refine And.intro (by show aJ (aH Tryz.f87 _) _=true;decide +kernel) ?_);conv=>whnf)
   refine ⟨fun hq=>?_,fun hq=>?_⟩
   ·have hq:wi w v=true:=hq;rw [Mo bg hv hq,Bool.true_or] at hb;(conv=>whnf);exact ⟨by rw [h1,if_pos hb],rfl⟩
   have hq:wi w v=false:=hq;(conv=>whnf);repeat (refine ⟨ag ⟨by omega,by omega⟩,?_⟩;conv=>whnf)
   exact ⟨_,by omega,k+1,rfl,rfl,rfl,by omega,hg.succ hv hq⟩
  have zX:k=i:=(by omega);subst zX;rw [hg.none,Bool.false_or] at hb;(conv=>whnf);repeat (refine ⟨ag ⟨by omega,by omega⟩,?_⟩;conv=>whnf)
  exact ⟨_,by omega,k+1,rfl,rfl,rfl,by omega,hb⟩
 rw [drop_nil he,jW] at hb;have h2:js x=if jX ou x.ao=true then 47 else 0:=(by rw [h1,if_neg (by rw [hb];decide)]);(conv=>whnf);skip;refine bS rfl mixed [1,10] [] (fun m r h=>∃ (i:Nat),r=[(1,[],.ai (fo x)),(10,[],.int .i64 i)]/\h=[]/\m=x.ao.length - i/\i<=x.ao.length/\jX ou x.ao=jW ou x.ao (x.ao.drop i) i) ?_ ?_
 ·(conv=>whnf);exact ⟨_,0,rfl,rfl,rfl,by omega,rfl⟩
 rintro m r h ⟨i,rfl,rfl,rfl,hi,hb⟩;(conv=>whnf);skip;refine ⟨fun he=>?_,fun he=>?_⟩<;>simp at he
 ·obtain ⟨w,hw⟩:=aF he;have hm:=List.mem_of_getElem? hw;rw [drop_cons hw,jW] at hb;(conv=>whnf);repeat ((first|refine ix (by assumption) ?_|refine ab.k0 (Ml w.text 4 (hx.eh w hm).text) ?_|refine aY (Mm w.name (hx.eh w hm).name) ?_|refine aY (Mn _) ?_|refine ⟨_,_,bj.here _,⟨Nat.le_of_ble_eq_true rfl,rfl⟩,?_⟩|intro (nb:Nat));conv=>whnf)
  refine ⟨fun hd=>?_,fun hd=>?_⟩
  ·have hd:Hz w=true:=hd;have hd:ou (x.ao.take i) w=true:=by show (Hz w||(x.ao.take i).any (wj w))=true;rw [hd];rfl
   rw [hd,Bool.true_or] at hb;(conv=>whnf);exact ⟨by rw [h2,if_pos hb],rfl⟩
  have hd:Hz w=false:=hd;have hd:ou (x.ao.take i) w=(x.ao.take i).any (wj w):=by show (Hz w||(x.ao.take i).any (wj w))=_;rw [hd];rfl
  rw [hd] at hb;(conv=>whnf);skip;refine bS rfl mixed [1,10,11,12] [] (fun m r h=>∃ (k:Nat),r=[(1,[],.ai (fo x)),(10,[],.int .i64 i),(11,[],.ai (gU w)),(12,[],.int .i64 k)]/\h=[]/\m=i - k/\k<=i/\Below (wj w) x.ao k) ?_ ?_
  ·(conv=>whnf);exact ⟨_,0,rfl,rfl,rfl,by omega,.zero⟩
  rintro m r h ⟨k,rfl,rfl,rfl,hk,hg⟩;(conv=>whnf);refine ⟨fun bg=>?_,fun bg=>?_⟩<;>simp at bg
  ·obtain ⟨v,hv⟩:=aF (l:=x.ao) (i:=k) (by omega);(conv=>whnf);repeat ((first|refine ix (by assumption) ?_|refine And.intro (by show aJ (aH Tryz.f87 _) _=true;decide +kernel) ?_);conv=>whnf)
   refine ⟨fun hq=>?_,fun hq=>?_⟩
   ·have hq:wj w v=true:=hq;rw [Mo bg hv hq,Bool.true_or] at hb;(conv=>whnf);exact ⟨by rw [h2,if_pos hb],rfl⟩
   have hq:wj w v=false:=hq;(conv=>whnf);repeat (refine ⟨ag ⟨by omega,by omega⟩,?_⟩;conv=>whnf)
   exact ⟨_,by omega,k+1,rfl,rfl,rfl,by omega,hg.succ hv hq⟩
  have zX:k=i:=(by omega);subst zX;rw [hg.none,Bool.false_or] at hb;(conv=>whnf);repeat (refine ⟨ag ⟨by omega,by omega⟩,?_⟩;conv=>whnf)
  exact ⟨_,by omega,k+1,rfl,rfl,rfl,by omega,hb⟩
 rw [drop_nil he,jW] at hb;have h3:js x=0:=(by rw [h2,if_neg (by rw [hb];decide)]);(conv=>whnf);exact ⟨by rw [h3],rfl⟩
end Go.Abs.Wall
namespace Go.Abs.Wall
open Go Go.Abs Go.Proofs
def c183:av:=⟨[0,1,2,3,4,5,6,10,22,55,59,64,101],[],[],[],[(6,[0,1,2,3,4,5,6,7,8,9,10,11,12,13,14,15,16,17,18,19,20,21,22,23,24,25,26,27,28,29,30,31,32],[]),(13,[0,1,2,3,4,5,6,7,8,9,10,11,12,13,14,15,16,17,18,19,20,21,22,23,24,25,26,27,28,29,30,31,32,33,34],[])],[]⟩
def c211:av:=⟨[0,1,2,3,4,5,6,16,30],[],[],[],[(7,[0,1,2,3,4,5,6,7,8,9,10,11,12],[])],[]⟩
def c179:av:=⟨[0,1,2,3,4,5,6,11],[],[],[],[],[]⟩
def Ac (l:List Int) (i:Nat):Int:=if i=0 then -1 else l.getD ((i:Int) - 1).toNat 0
theorem I8 {l:List Int} {i:Nat} {c:Int} (h:l[i]?=some c):Ac l (i+1)=c:=by unfold Ac;rw [if_neg (by omega),show (((i+1:Nat):Int) - 1).toNat=i by omega,List.getD_eq_getElem?_getD,h];rfl
theorem QY (x:Lex) (f:br) (hx:rT x) (hf:f.ao.length<=aq):ab Tryz.prog 183 [.agg (fo x),.agg (dt f)] [] (.int .i64 (fC x f)):=by
 have sO:=hx.entries;have ik:=hx.bM;have vG:=hx.ao;unfold aq at sO ik vG hf;refine aA (F:=Tryz.f183) c183 rfl rfl rfl mixed rfl fun X=>?_;(conv=>whnf);repeat (refine ab.k0 (Tz x hx) ?_;conv=>whnf)
 refine ⟨fun hc=>?_,fun hc=>?_⟩<;>simp at hc
 ·(conv=>whnf);skip;exact ⟨by rw [fC,if_pos hc],rfl⟩
 (conv=>whnf);skip;refine ⟨fun hd=>?_,fun hd=>?_⟩
 ·have hd:(decide (f.entry<0)||decide (((x.entries.map fi).length:Int)<=f.entry))=true:=hd;rw [List.length_map,Bool.or_eq_true,decide_eq_true_eq,decide_eq_true_eq] at hd;have hw:bL f.entry 0 ((x.entries.length:Int) - 1)=false:=by rw [<- Bool.not_eq_true,dL];omega
  (conv=>whnf);exact ⟨by rw [fC,if_neg (by omega),if_pos hw],rfl⟩
 have hd:(decide (f.entry<0)||decide (((x.entries.map fi).length:Int)<=f.entry))=false:=hd;rw [List.length_map,Bool.or_eq_false_iff,decide_eq_false_iff_not,decide_eq_false_iff_not] at hd;have hw:bL f.entry 0 ((x.entries.length:Int) - 1)=true:=by rw [dL];omega
 (conv=>whnf);repeat ((first|(refine rG (⟨0,[],[],0⟩:lC) ?_ ?_;(focus (conv=>whnf;skip));(focus (intro g0 g1;simp at g0 g1;show 0<=_/\_<_;omega)))|(refine rG (⟨[],0,[],0⟩:kM) ?_ ?_;(focus (conv=>whnf;skip));(focus (intro g0 g1;show 0<=_/\_<_;omega)))|refine And.intro (by show aJ (aH Tryz.f183 _) _=true;decide +kernel) ?_);conv=>whnf)
 refine ⟨fun he=>?_,fun he=>?_⟩
 ·have he:(decide (f.ending < -1)||decide (((x.bM.map iV).length:Int)<=f.ending)||(decide (0<=f.ending)&&!decide ((gG x f.ending).kind=(bY x f.entry).kind)))=true:=he;rw [List.length_map] at he
  have hb:sV x f=true:=by
   unfold sV bL;simp only [Bool.or_eq_true,Bool.and_eq_true,Bool.not_eq_true',decide_eq_true_eq,decide_eq_false_iff_not,Bool.and_eq_false_iff] at he ⊢;rcases he with (he|he)|he
   ·exact ⟨by omega,.inl (.inl (by omega))⟩
   ·exact ⟨by omega,.inl (.inr (by omega))⟩
   exact ⟨by omega,.inr he.2⟩
  (conv=>whnf);exact ⟨by rw [fC,if_neg (by omega),if_neg (by rw [hw];decide),if_pos hb],rfl⟩
 have he:(decide (f.ending < -1)||decide (((x.bM.map iV).length:Int)<=f.ending)||(decide (0<=f.ending)&&!decide ((gG x f.ending).kind=(bY x f.entry).kind)))=false:=he;rw [List.length_map] at he
 have hb:sV x f=false:=by
  unfold sV bL;simp only [Bool.or_eq_false_iff,Bool.and_eq_false_iff,Bool.not_eq_false',decide_eq_true_eq,decide_eq_false_iff_not,Bool.and_eq_true] at he ⊢;obtain ⟨⟨h1,h2⟩,h3⟩:=he;by_cases h4:f.ending = -1
  ·exact .inl h4
  exact .inr ⟨⟨by omega,by omega⟩,by rcases h3 with h3|h3;omega;exact h3⟩
 (conv=>whnf);skip;refine ⟨fun h3=>?_,fun h3=>?_⟩<;>simp at h3
 ·(conv=>whnf);exact ⟨by rw [fC,if_neg (by omega),if_neg (by rw [hw];decide),if_neg (by rw [hb];decide),if_pos (by omega)],rfl⟩
 have hg:fC x f=if jr x.ao.length f.ao (-1)=true then 0 else 47:=(by rw [fC,if_neg (by omega),if_neg (by rw [hw];decide),if_neg (by rw [hb];decide),if_neg (by omega)]);(conv=>whnf);skip;refine bS rfl mixed [2,3,6] [] (fun m r h=>∃ (i:Nat),r=[(2,[],.ai (fo x)),(3,[],.ai (dt f)),(6,[],.int .i64 i)]/\h=[]/\m=f.ao.length - i/\i<=f.ao.length/\-1<=Ac f.ao i/\jr x.ao.length f.ao (-1)=jr x.ao.length (f.ao.drop i) (Ac f.ao i)) ?_ ?_
 ·(conv=>whnf);exact ⟨_,0,rfl,rfl,rfl,by omega,by simp [Ac],rfl⟩
 rintro m r h ⟨i,rfl,rfl,rfl,hi,hl,cQ⟩;(conv=>whnf);skip;refine ⟨fun aG=>?_,fun aG=>?_⟩<;>simp at aG
 ·obtain ⟨c,hc⟩:=aF aG;rw [drop_cons hc,jr] at cQ;have gD:=I8 hc;(conv=>whnf);repeat ((first|refine ⟨ag ⟨by omega,by omega⟩,?_⟩|refine ix (by assumption) ?_|(refine rG (enc:=fun y:Int=>[AV.int .i64 y]) (0:Int) ?_ ?_;(focus (conv=>whnf;skip));(focus (intro g0 g1;simp at g0 g1;show 0<=_/\_<_;omega)))|refine And.intro (by show aJ (aH Tryz.f183 _) _=true;decide +kernel) ?_);conv=>whnf)
  have hz:(decide (c<0)||decide (((x.ao.map gU).length:Int)<=c)||(decide (0<(i:Int))&&decide (c<=f.ao.getD ((i:Int) - 1).toNat 0)))=(decide (c<=Ac f.ao i)||decide ((x.ao.length:Int)<=c)):=by
   rw [List.length_map,Bool.eq_iff_iff];simp only [Bool.or_eq_true,Bool.and_eq_true,decide_eq_true_eq];unfold Ac at hl ⊢;split
   ·rename_i h0;rw [if_pos h0] at hl;omega
   rename_i h0;rw [if_neg h0] at hl;omega
  refine ⟨fun hq=>?_,fun hq=>?_⟩
  ·have hq:=hz.symm.trans hq;rw [hq] at cQ;(conv=>whnf);exact ⟨by rw [hg,cQ];rfl,rfl⟩
  have hq:=hz.symm.trans hq;rw [hq] at cQ;simp only [Bool.or_eq_false_iff,decide_eq_false_iff_not] at hq;(conv=>whnf);repeat (refine ⟨ag ⟨by omega,by omega⟩,?_⟩;conv=>whnf)
  exact ⟨_,by omega,i+1,rfl,rfl,rfl,by omega,by rw [gD];omega,by rw [gD,cQ];rfl⟩
 rw [drop_nil aG,jr] at cQ;(conv=>whnf);skip;exact ⟨by rw [hg,cQ];rfl,rfl⟩
theorem I9 (x:Lex) (f:br) (h:mg x f):ab Tryz.prog 211 [.agg (fo x),.agg (dt f)] [] (.int .i64 (gE x f)):=by
 have dG:=h.bB;have Lx:=(h.lex.bY h.entry.1 h.entry.2).weight;refine aA (F:=Tryz.f211) c211 rfl rfl rfl mixed rfl fun X=>?_;(conv=>whnf);repeat ((refine cp f.entry.toNat (by have:=h.entry;omega) (nY h.entry.1 h.entry.2) ?_);conv=>whnf)
 refine ⟨fun he=>?_,fun he=>?_⟩<;>simp at he
 ·have dM:f.ending<x.bM.length:=by rcases h.ending with h|h<;>omega
  have oP:=(h.lex.gG he dM).weight;(conv=>whnf);repeat ((first|refine ⟨ag ⟨by omega,by omega⟩,?_⟩|(refine cp f.ending.toNat (by omega) (zt he dM) ?_));conv=>whnf)
  obtain ⟨n0,gB⟩:∃ n:Int,n=(bY x f.entry).weight+(gG x f.ending).weight:=⟨_,rfl⟩;rw [<- gB];have gO:n0=(bY x f.entry).weight+(if 0<=f.ending then (gG x f.ending).weight else 0):=by rw [if_pos he];exact gB
  replace gB:=gO;refine bS rfl mixed [2,3,5,6] [] (fun m r h=>∃ (i:Nat) (n:Int),r=[(2,[],.ai (fo x)),(3,[],.ai (dt f)),(5,[],.int .i64 n),(6,[],.int .i64 i)]/\h=[]/\m=f.ao.length - i/\i<=f.ao.length/\n=n0+oz x (f.ao.take i)) ?_ ?_
  ·(conv=>whnf);exact ⟨_,0,n0,rfl,rfl,rfl,by omega,by simp [oz]⟩
  rintro m r h ⟨i,n,rfl,rfl,rfl,hi,hn⟩;(conv=>whnf);skip;refine ⟨fun aG=>?_,fun aG=>?_⟩<;>simp at aG
  ·obtain ⟨c,hc⟩:=aF aG;have bJ:=h.eh c (List.mem_of_getElem? hc);have dH:=(h.lex.cS bJ.1 bJ.2).weight;have hb:=By h.lex (l:=f.ao.take i) fun d hd=>h.eh d (List.mem_of_mem_take hd);rw [List.length_take] at hb;have hs:=cN hc;(conv=>whnf);repeat ((first|refine ⟨ag ⟨by omega,by omega⟩,?_⟩|refine ix (by assumption) ?_|(refine cp c.toNat (by omega) (kz bJ.1 bJ.2) ?_)|refine And.intro (by show aJ (aH Tryz.f211 _) _=true;decide +kernel) ?_);conv=>whnf)
   exact ⟨_,by omega,i+1,_,rfl,rfl,rfl,by omega,by rw [hs,Hg];omega⟩
  rw [List.take_of_length_le aG] at hn;(conv=>whnf);skip;refine ⟨congrArg (AV.int .i64) ?_,rfl⟩;rw [hn,gB];rfl
 (conv=>whnf);skip;obtain ⟨n0,gB⟩:∃ n:Int,n=(bY x f.entry).weight:=⟨_,rfl⟩;rw [<- gB];have gO:n0=(bY x f.entry).weight+(if 0<=f.ending then (gG x f.ending).weight else 0):=by rw [if_neg (by omega)];omega
 replace gB:=gO;refine bS rfl mixed [2,3,5,6] [] (fun m r h=>∃ (i:Nat) (n:Int),r=[(2,[],.ai (fo x)),(3,[],.ai (dt f)),(5,[],.int .i64 n),(6,[],.int .i64 i)]/\h=[]/\m=f.ao.length - i/\i<=f.ao.length/\n=n0+oz x (f.ao.take i)) ?_ ?_
 ·(conv=>whnf);exact ⟨_,0,n0,rfl,rfl,rfl,by omega,by simp [oz]⟩
 rintro m r h ⟨i,n,rfl,rfl,rfl,hi,hn⟩;(conv=>whnf);skip;refine ⟨fun aG=>?_,fun aG=>?_⟩<;>simp at aG
 ·obtain ⟨c,hc⟩:=aF aG;have bJ:=h.eh c (List.mem_of_getElem? hc);have dH:=(h.lex.cS bJ.1 bJ.2).weight;have hb:=By h.lex (l:=f.ao.take i) fun d hd=>h.eh d (List.mem_of_mem_take hd);rw [List.length_take] at hb;have hs:=cN hc;(conv=>whnf);repeat ((first|refine ⟨ag ⟨by omega,by omega⟩,?_⟩|refine ix (by assumption) ?_|(refine cp c.toNat (by omega) (kz bJ.1 bJ.2) ?_)|refine And.intro (by show aJ (aH Tryz.f211 _) _=true;decide +kernel) ?_);conv=>whnf)
  exact ⟨_,by omega,i+1,_,rfl,rfl,rfl,by omega,by rw [hs,Hg];omega⟩
 rw [List.take_of_length_le aG] at hn;(conv=>whnf);skip;refine ⟨congrArg (AV.int .i64) ?_,rfl⟩;rw [hn,gB];rfl
theorem QV (x:Lex) (f:br) (hx:rT x) (hf:f.ao.length<=aq):ab Tryz.prog 179 [.agg (fo x),.agg (dt f)] [] (.aB [.int .i64 (if fC x f=0 then gE x f else 0),.int .i64 (fC x f)]):=by
 refine aA (F:=Tryz.f179) c179 rfl rfl rfl mixed rfl fun X=>?_;(conv=>whnf);repeat (refine ab.k0 (QY x f hx hf) ?_;conv=>whnf)
 refine ⟨fun hc=>?_,fun hc=>?_⟩<;>simp at hc
 ·(conv=>whnf);skip;exact ⟨by rw [if_neg hc],rfl⟩
 (conv=>whnf);repeat (refine ab.k0 (I9 x f (qF hc)) ?_;conv=>whnf)
 exact ⟨by rw [if_pos hc,hc],rfl⟩
end Go.Abs.Wall
namespace Go.Abs.Wall
open Go Go.Abs Go.Proofs
def c44:av:=⟨[0,1,2,3,4,5,7,12,18,32,33,34,35,43,55],[],[5],[],[],[]⟩
def c46:av:=⟨[0,1,2,4,5,8,12,29],[],[],[],[(6,[0,1,2,3,4,5,6,7,8,9,10,11,12,13,14],[])],[]⟩
def c140:av:=⟨[0,1,2,3,4,9],[],[],[],[],[]⟩
def c135:av:=⟨[0,1,3,4,5,6,10,18,40],[],[],[],[(4,[0,1,2,3,4,5],[]),(8,[0,1,2,3,4,5,6,7,8,9,10,11,12,13],[]),(10,[0,1,2,3,4,5,6,7,8,9,10,11,12,13,14,15,16,17],[])],[]⟩
def c178:av:=⟨[0,1,2,4,5,6,11,31],[],[],[],[],[]⟩
def c134:av:=⟨[0,1,2,3,6,7,8,12,22,30],[],[],[],[],[]⟩
def c88:av:=⟨[0,1,2,4,5,7,8,9,22,34,35,44,50],[],[],[],[],[]⟩
def c213:av:=⟨[0,1,2,4,5,6,10,21],[],[],[],[],[]⟩
theorem Ip (H:aD) (hh:dx H):ab Tryz.prog 44 [.agg (aZ H)] [] (.int .i64 (fA H)):=by
 refine aA (F:=Tryz.f44) c44 rfl rfl rfl mixed rfl fun X=>?_;(conv=>whnf);repeat (refine ab.k0 (Ss H.list hh.list) ?_;conv=>whnf)
 refine ⟨fun hc=>?_,fun hc=>?_⟩<;>simp at hc
 ·(conv=>whnf);skip;exact ⟨by rw [fA,if_pos hc],rfl⟩
 (conv=>whnf);repeat (refine ab.k0 (Tz H.lex hh.lex) ?_;conv=>whnf)
 refine ⟨fun hd=>?_,fun hd=>?_⟩<;>simp at hd
 ·(conv=>whnf);skip;exact ⟨by rw [fA,if_neg (by omega),if_pos hd],rfl⟩
 have h0:fA H=if (iq H.cC).all (bL · 0 1000)=false then 50 else if bL H.period 1 H.list.iO=false then 13 else 0:=(by rw [fA,if_neg (by omega),if_neg (by omega)]);(conv=>whnf);repeat ((first|refine ⟨_,_,bj.here _,⟨Nat.le_of_ble_eq_true rfl,rfl⟩,?_⟩|intro (nb:Nat));conv=>whnf)
 refine bS rfl mixed [1,32,33,34] [] (fun m r h=>∃ (i:Nat),r=[(1,[],.ai (aZ H)),(32,[],.sl 1 none (ints (iq H.cC))),(33,[],.int .i64 5),(34,[],.int .i64 i)]/\h=[]/\m=5 - i/\i<=5/\(iq H.cC).all (bL · 0 1000)=((iq H.cC).drop i).all (bL · 0 1000)) ?_ ?_
 ·(conv=>whnf);exact ⟨_,0,rfl,rfl,rfl,by omega,rfl⟩
 rintro m r h ⟨i,rfl,rfl,rfl,hi,ha⟩;(conv=>whnf);refine ⟨fun he=>?_,fun he=>?_⟩<;>simp at he
 ·obtain ⟨c,hc⟩:=aF (l:=iq H.cC) (i:=i) (by simp [iq];omega);rw [drop_cons hc,List.all_cons] at ha;(conv=>whnf);repeat (refine ix (by assumption) ?_;conv=>whnf)
  refine ⟨fun hq=>?_,fun hq=>?_⟩
  ·have hq:(decide (c<0)||decide (1000<c))=true:=hq;have hw:bL c 0 1000=false:=by rw [<- Bool.not_eq_true,dL];simp at hq;omega
   rw [hw,Bool.false_and] at ha;(conv=>whnf);skip;exact ⟨by rw [h0,if_pos ha],rfl⟩
  have hq:(decide (c<0)||decide (1000<c))=false:=hq;have hw:bL c 0 1000=true:=by rw [dL];simp at hq;omega
  rw [hw,Bool.true_and] at ha;(conv=>whnf);repeat (refine ⟨ag ⟨by omega,by omega⟩,?_⟩;conv=>whnf)
  exact ⟨_,by omega,i+1,rfl,rfl,rfl,by omega,ha⟩
 rw [drop_nil (by simp [iq];omega)] at ha;have h1:fA H=if bL H.period 1 H.list.iO=false then 13 else 0:=(by rw [h0,if_neg (by rw [ha];decide)]);(conv=>whnf);skip;refine ⟨fun hq=>?_,fun hq=>?_⟩
 ·have hq:(decide (H.period<1)||decide (H.list.iO<H.period))=true:=hq;have hw:bL H.period 1 H.list.iO=false:=by rw [<- Bool.not_eq_true,dL];simp at hq;omega
  (conv=>whnf);exact ⟨by rw [h1,if_pos hw],rfl⟩
 have hq:(decide (H.period<1)||decide (H.list.iO<H.period))=false:=hq;have hw:bL H.period 1 H.list.iO=true:=by rw [dL];simp at hq;omega
 (conv=>whnf);exact ⟨by rw [h1,if_neg (by rw [hw];decide)],rfl⟩
def fX (l:Lst) (line:List Int):Int:=if 60<line.length then 2 else if line.any (fun s=>!bL s 0 ((l.aK.length:Int) - 1))=true then 23 else 0
theorem J0 (l:Lst) (line:List Int) (hh:zR l) (hl:line.length<=aq):ab Tryz.prog 46 [.agg (pU l),.sl 1 none (ints line)] [] (.int .i64 (fX l line)):=by
 unfold aq at hl;refine aA (F:=Tryz.f46) c46 rfl rfl rfl mixed rfl fun X=>?_;(conv=>whnf);skip;refine ⟨fun hc=>?_,fun hc=>?_⟩<;>simp at hc
 ·(conv=>whnf);exact ⟨by rw [fX,if_pos (by omega)],rfl⟩
 have h0:fX l line=if line.any (fun s=>!bL s 0 ((l.aK.length:Int) - 1))=true then 23 else 0:=(by rw [fX,if_neg (by omega)]);(conv=>whnf);skip;refine bS rfl mixed [1,2,5] [] (fun m r h=>∃ (i:Nat),r=[(1,[],.sl 1 none (ints line)),(2,[],.ai (pU l)),(5,[],.int .i64 i)]/\h=[]/\m=line.length - i/\i<=line.length/\line.any (fun s=>!bL s 0 ((l.aK.length:Int) - 1))=(line.drop i).any (fun s=>!bL s 0 ((l.aK.length:Int) - 1))) ?_ ?_
 ·(conv=>whnf);exact ⟨_,0,rfl,rfl,rfl,by omega,rfl⟩
 rintro m r h ⟨i,rfl,rfl,rfl,hi,ha⟩;(conv=>whnf);skip;refine ⟨fun he=>?_,fun he=>?_⟩<;>simp at he
 ·obtain ⟨c,hc⟩:=aF he;rw [drop_cons hc,List.any_cons] at ha;(conv=>whnf);repeat ((first|refine ix (by assumption) ?_|refine And.intro (by show aJ (aH Tryz.f46 _) _=true;decide +kernel) ?_);conv=>whnf)
  refine ⟨fun hq=>?_,fun hq=>?_⟩
  ·have hq:(decide (c<0)||decide (((l.aK.map hZ).length:Int)<=c))=true:=hq;rw [List.length_map] at hq;have hw:bL c 0 ((l.aK.length:Int) - 1)=false:=by rw [<- Bool.not_eq_true,dL];simp at hq;omega
   rw [hw,Bool.not_false,Bool.true_or] at ha;(conv=>whnf);skip;exact ⟨by rw [h0,if_pos ha],rfl⟩
  have hq:(decide (c<0)||decide (((l.aK.map hZ).length:Int)<=c))=false:=hq;rw [List.length_map] at hq;have hw:bL c 0 ((l.aK.length:Int) - 1)=true:=by rw [dL];simp at hq;omega
  rw [hw,Bool.not_true,Bool.false_or] at ha;(conv=>whnf);repeat (refine ⟨ag ⟨by omega,by omega⟩,?_⟩;conv=>whnf)
  exact ⟨_,by omega,i+1,rfl,rfl,rfl,by omega,ha⟩
 rw [drop_nil he,List.any_nil] at ha;(conv=>whnf);skip;exact ⟨by rw [h0,if_neg (by rw [ha];decide)],rfl⟩
def ni (a b:az):Bool:=decide (lQ a b<0)
theorem Mp (a b:az):ab Tryz.prog 140 [.agg (aU a),.agg (aU b)] [] (.bool (ni a b)):=by
 refine aA (F:=Tryz.f140) c140 rfl rfl rfl mixed rfl fun X=>?_;(conv=>whnf);skip;have hu:lQ a b=if ct a.kind b.kind≠0 then ct a.kind b.kind else pX a.text b.text:=by unfold lQ;rw [Hk]
 refine ⟨fun hq=>?_,fun hq=>?_⟩<;>simp at hq
 ·(conv=>whnf);skip;refine ⟨congrArg AV.bool ?_,rfl⟩;unfold ni;rw [hu,if_pos (by rw [ne_eq,sn];exact hq),decide_eq_decide,xQ]
 (conv=>whnf);skip;refine ⟨congrArg AV.bool ?_,rfl⟩;unfold ni;rw [hu,if_neg (by rw [ne_eq,sn];simpa using hq),bytesLess_eq,decide_eq_decide,Eo]
def lT (L:List az) (u:az):List az:=if u∈L then L else fx ni L u
theorem pe:∀ a:az,(aU a).length=2:=fun _=>rfl
theorem Ih {α:Type} {A B:List α} {u:α} {n:Nat} (h:A.length=n):(A++u::B)[n]?=some u:=by subst h;simp
theorem Mq {α:Type} {k:Nat} {enc:α->List AV} {L:List α} {b n:Nat} (hn:L.length=n) (aM:L≠[]):Row k enc L (.aQ b 0 n k) [(b,.vec (L.map enc).flatten)]:=by subst hn;exact .inr ⟨aM,b,rfl,rfl⟩
theorem Ap {α:Type} {L:List α} {m:Nat} (h0:0<m) (hm:m<=L.length):∃ b,L[m - 1]?=some b/\L.take m=L.take (m - 1)++[b]/\L.drop (m - 1)=b::L.drop m:=by
 obtain ⟨b,hb⟩:=aF (l:=L) (i:=m - 1) (by omega);refine ⟨b,hb,?_,?_⟩
 ·have:=cN hb;rwa [show m - 1+1=m by omega] at this
 have:=drop_cons hb;rwa [show m - 1+1=m by omega] at this
theorem Ii {α:Type} {A B:List α} {b u:α} {m:Nat} (hA:A.length=m - 1) (h0:0<m):(((A++[b])++u::B).set m b).set (m - 1) u=A++u::b::B:=by rw [List.append_assoc];rw [List.set_append_right _ _ (by omega),List.set_append_right _ _ (by omega)];rw [hA,show m - (m - 1)=1 by omega,show m - 1 - (m - 1)=0 by omega];rfl
theorem HA (L:List az) (u:az) (v:AV) (hp:af) (hL:Row 2 aU L v hp) (hl:L.length+1<=aN) :
  aw Tryz.prog 135 [v,.agg (aU u)] hp (fun v' h'=>Row 2 aU (lT L u) v' h'):=by
 have dR:=hl;unfold aN at dR;rcases hL with ⟨fg,rfl,rfl⟩|⟨aM,b,rfl,rfl⟩
 ·refine aA (F:=Tryz.f135) c135 rfl rfl rfl mixed rfl fun X=>?_;(conv=>whnf);refine yz 60 rfl mixed ?_;(conv=>whnf);refine .inr ?_;(conv=>whnf);skip;refine cF rfl ?_;(conv=>whnf);repeat ((first|(refine ⟨⟨Nat.le_of_ble_eq_true rfl,Nat.le_of_ble_eq_true rfl⟩,fun bb=>?_⟩)|(refine ⟨ag ⟨by simp,by simp⟩,?_⟩));conv=>whnf)
  have eS:lT L u=fx ni L u:=(by rw [lT,fg,if_neg (by simp)]);have gL:(L++[u]).length=L.length+1:=(by simp);refine bS rfl mixed [0,6] [] (fun m r h=>∃ (i:Nat) (R:List az),r=[(0,[],.aQ bb 0 (L.length+1) 2),(6,[],.int .i64 i)]/\h=[(bb,.vec (R.map aU).flatten)]/\m=i/\i<=L.length/\R=L.take i++u::L.drop i/\fx ni L u=fx ni (L.take i) u++L.drop i) ?_ ?_
  ·(conv=>whnf);exact ⟨_,L.length,L++[u],by first|(rw [fg];rfl)|simp,by first|(rw [fg];rfl)|(rw [List.map_append,List.flatten_append];rfl),rfl,by omega,by simp,by simp⟩
  rintro m r h ⟨i,R,rfl,rfl,rfl,hi,hR,hb⟩;have wG:R.length=L.length+1:=by rw [hR];simp;omega
  have vf:R[m]?=some u:=by rw [hR];exact Ih (by rw [List.length_take];omega)
  obtain ⟨pv,kf⟩:=aF (l:=R) (i:=((m:Int) - 1).toNat) (by omega);(conv=>whnf);repeat ((first|refine ⟨ag ⟨by omega,by omega⟩,?_⟩|(refine fy (i:=m) (by omega) ?_)|(refine yA ?_ ?_;(focus (conv=>whnf;skip));(focus (intro g0;simp at g0;show 0<=_/\_<_;omega)))|(refine fI pe (.head _) (Nat.zero_add _) vf ?_)|(refine fI pe (.head _) (Nat.zero_add _) kf ?_)|refine aY (Mp u pv) ?_|refine And.intro (by show aJ (aH Tryz.f135 _) _=true;decide +kernel) ?_);conv=>whnf)
  refine ⟨fun hq=>?_,fun hq=>?_⟩
  ·have hq:(decide (0<(m:Int))&&ni u pv)=true:=hq;rw [Bool.and_eq_true,decide_eq_true_eq] at hq;obtain ⟨c,hc,h1,h2⟩:=Ap (L:=L) (m:=m) (by omega) hi;have kN:pv=c:=by rw [show ((m:Int) - 1).toNat=m - 1 by omega,hR,h1,List.append_assoc,List.getElem?_append_right (by rw [List.length_take];omega),List.length_take,show m - 1 - min (m - 1) L.length=0 by omega] at kf;exact (Option.some.inj kf).symm
   subst kN;have Ce:R[m - 1]?=some pv:=(by rw [<- kf,show ((m:Int) - 1).toNat=m - 1 by omega]);have Cf:(R.set m pv).set (m - 1) u=L.take (m - 1)++u::L.drop (m - 1):=by rw [hR,h1,h2];exact Ii (by rw [List.length_take];omega) (by omega)
   (conv=>whnf);repeat ((first|refine ⟨ag ⟨by omega,by omega⟩,?_⟩|(refine fy (i:=m) (by omega) ?_)|(refine ⟨m - 1,ag ⟨by omega,by omega⟩,?_⟩)|(refine fI pe (.head _) (Nat.zero_add _) vf ?_)|(refine fI pe (.head _) (Nat.zero_add _) Ce ?_)|(refine qx pv (by decide) pe (i:=m) (by omega) (Nat.zero_add _) rfl (.here _) ?_)|(refine qx u (by decide) pe (i:=m - 1) (by simp;omega) (Nat.zero_add _) rfl (.here _) ?_)|refine And.intro (by show aJ (aH Tryz.f135 _) _=true;decide +kernel) ?_);conv=>whnf)
   exact ⟨m - 1,by omega,m - 1,_,by rw [show (m:Int) - 1=((m - 1:Nat):Int) by omega],rfl,rfl,by omega,Cf,by rw [hb,h1,Ij hq.2,h2]⟩
  have hq:(decide (0<(m:Int))&&ni u pv)=false:=hq
  have dZ:R=lT L u:=by
   rw [eS,hb,hR];by_cases h0:m=0
   ·subst h0;rfl
   obtain ⟨c,hc,h1,h2⟩:=Ap (L:=L) (m:=m) (by omega) hi;have kN:pv=c:=by rw [show ((m:Int) - 1).toNat=m - 1 by omega,hR,h1,List.append_assoc,List.getElem?_append_right (by rw [List.length_take];omega),List.length_take,show m - 1 - min (m - 1) L.length=0 by omega] at kf;exact (Option.some.inj kf).symm
   subst kN;rw [h1,Ik (by rw [Bool.and_eq_false_iff,decide_eq_false_iff_not] at hq;rcases hq with hq|hq;omega;exact hq),List.append_assoc];rfl
  (conv=>whnf);skip;rw [<- dZ];exact Mq wG (by intro h;rw [h] at wG;simp at wG)
 refine aA (F:=Tryz.f135) c135 rfl rfl rfl mixed rfl fun X=>?_;(conv=>whnf);refine bS rfl mixed [0,3,5] [] (fun m r h=>∃ (i:Nat),r=[(0,[],.aQ b 0 L.length 2),(3,[],.ai (aU u)),(5,[],.int .i64 i)]/\h=[(b,.vec (L.map aU).flatten)]/\m=L.length - i/\i<=L.length/\∀ j x,j<i->L[j]?=some x->x≠u) ?_ ?_
 ·(conv=>whnf);exact ⟨_,0,rfl,rfl,rfl,by omega,fun j x h=>by omega⟩
 rintro m r h ⟨i,rfl,rfl,rfl,hi,hg⟩;(conv=>whnf);skip;refine ⟨fun he=>?_,fun he=>?_⟩<;>simp only [decide_eq_true_eq,decide_eq_false_iff_not] at he
 ·obtain ⟨x,hx⟩:=aF (l:=L) (i:=i) (by omega);(conv=>whnf);repeat ((first|(refine fy (i:=i) (by omega) ?_)|(refine fI pe (.head _) (Nat.zero_add _) hx ?_)|(refine ⟨Ma,?_⟩)|refine And.intro (by show aJ (aH Tryz.f135 _) _=true;decide +kernel) ?_);conv=>whnf)
  refine ⟨fun hq=>?_,fun hq=>?_⟩
  ·have hq:sU x u=true:=hq;rw [yS,decide_eq_true_eq] at hq;subst hq;(conv=>whnf);skip;rw [lT,if_pos (List.mem_of_getElem? hx)];exact Mq rfl aM
  have hq:sU x u=false:=hq;rw [yS,decide_eq_false_iff_not] at hq;(conv=>whnf);repeat (refine ⟨ag ⟨by omega,by omega⟩,?_⟩;conv=>whnf)
  refine ⟨_,by omega,i+1,rfl,rfl,rfl,by omega,fun j y hj hy=>?_⟩;by_cases h1:j=i
  ·subst h1;rw [hx] at hy;cases hy
   exact hq
  exact hg j y (by omega) hy
 have eS:lT L u=fx ni L u:=by rw [lT,if_neg];intro hm;obtain ⟨j,hj⟩:=List.mem_iff_getElem?.1 hm;exact hg j u (by have:=(List.getElem?_eq_some_iff.1 hj).1;omega) hj rfl
 (conv=>whnf);repeat ((first|(refine ⟨_,.head _,⟨qq pe,hl⟩,fun bb=>⟨_,.here _,?_⟩⟩)|(refine ⟨ag ⟨by simp<;>omega,by simp<;>omega⟩,?_⟩));conv=>whnf)
 have gL:(L++[u]).length=L.length+1:=(by simp);refine bS rfl mixed [0,6] [] (fun m r h=>∃ (i:Nat) (R:List az),r=[(0,[],.aQ bb 0 (L.length+1) 2),(6,[],.int .i64 i)]/\h=[(bb,.vec (R.map aU).flatten)]/\m=i/\i<=L.length/\R=L.take i++u::L.drop i/\fx ni L u=fx ni (L.take i) u++L.drop i) ?_ ?_
 ·(conv=>whnf);exact ⟨_,L.length,L++[u],by first|(rw [fg];rfl)|simp,by first|(rw [fg];rfl)|(rw [List.map_append,List.flatten_append];rfl),rfl,by omega,by simp,by simp⟩
 rintro m r h ⟨i,R,rfl,rfl,rfl,hi,hR,hb⟩;have wG:R.length=L.length+1:=by rw [hR];simp;omega
 have vf:R[m]?=some u:=by rw [hR];exact Ih (by rw [List.length_take];omega)
 obtain ⟨pv,kf⟩:=aF (l:=R) (i:=((m:Int) - 1).toNat) (by omega);(conv=>whnf);repeat ((first|refine ⟨ag ⟨by omega,by omega⟩,?_⟩|(refine fy (i:=m) (by omega) ?_)|(refine yA ?_ ?_;(focus (conv=>whnf;skip));(focus (intro g0;simp at g0;show 0<=_/\_<_;omega)))|(refine fI pe (.head _) (Nat.zero_add _) vf ?_)|(refine fI pe (.head _) (Nat.zero_add _) kf ?_)|refine aY (Mp u pv) ?_|refine And.intro (by show aJ (aH Tryz.f135 _) _=true;decide +kernel) ?_);conv=>whnf)
 refine ⟨fun hq=>?_,fun hq=>?_⟩
 ·have hq:(decide (0<(m:Int))&&ni u pv)=true:=hq;rw [Bool.and_eq_true,decide_eq_true_eq] at hq;obtain ⟨c,hc,h1,h2⟩:=Ap (L:=L) (m:=m) (by omega) hi;have kN:pv=c:=by rw [show ((m:Int) - 1).toNat=m - 1 by omega,hR,h1,List.append_assoc,List.getElem?_append_right (by rw [List.length_take];omega),List.length_take,show m - 1 - min (m - 1) L.length=0 by omega] at kf;exact (Option.some.inj kf).symm
  subst kN;have Ce:R[m - 1]?=some pv:=(by rw [<- kf,show ((m:Int) - 1).toNat=m - 1 by omega]);have Cf:(R.set m pv).set (m - 1) u=L.take (m - 1)++u::L.drop (m - 1):=by rw [hR,h1,h2];exact Ii (by rw [List.length_take];omega) (by omega)
  (conv=>whnf);repeat ((first|refine ⟨ag ⟨by omega,by omega⟩,?_⟩|(refine fy (i:=m) (by omega) ?_)|(refine ⟨m - 1,ag ⟨by omega,by omega⟩,?_⟩)|(refine fI pe (.head _) (Nat.zero_add _) vf ?_)|(refine fI pe (.head _) (Nat.zero_add _) Ce ?_)|(refine qx pv (by decide) pe (i:=m) (by omega) (Nat.zero_add _) rfl (.here _) ?_)|(refine qx u (by decide) pe (i:=m - 1) (by simp;omega) (Nat.zero_add _) rfl (.here _) ?_)|refine And.intro (by show aJ (aH Tryz.f135 _) _=true;decide +kernel) ?_);conv=>whnf)
  exact ⟨m - 1,by omega,m - 1,_,by rw [show (m:Int) - 1=((m - 1:Nat):Int) by omega],rfl,rfl,by omega,Cf,by rw [hb,h1,Ij hq.2,h2]⟩
 have hq:(decide (0<(m:Int))&&ni u pv)=false:=hq
 have dZ:R=lT L u:=by
  rw [eS,hb,hR];by_cases h0:m=0
  ·subst h0;rfl
  obtain ⟨c,hc,h1,h2⟩:=Ap (L:=L) (m:=m) (by omega) hi;have kN:pv=c:=by rw [show ((m:Int) - 1).toNat=m - 1 by omega,hR,h1,List.append_assoc,List.getElem?_append_right (by rw [List.length_take];omega),List.length_take,show m - 1 - min (m - 1) L.length=0 by omega] at kf;exact (Option.some.inj kf).symm
  subst kN;rw [h1,Ik (by rw [Bool.and_eq_false_iff,decide_eq_false_iff_not] at hq;rcases hq with hq|hq;omega;exact hq),List.append_assoc];rfl
 (conv=>whnf);skip;rw [<- dZ];exact Mq wG (by intro h;rw [h] at wG;simp at wG)
def lU (p:Int) (v:de):Bool:=bL p v.fr v.to
theorem Rw {α:Type} {l:List α} {i:Nat} {x:α} {f:α->Bool} (h:l[i]?=some x):(l.take (i+1)).filter f=(l.take i).filter f++(if f x=true then [x] else []):=by rw [cN h,List.filter_append];congr 1;by_cases hf:f x=true<;>simp [hf]
theorem J1 (s:eN) (p:Int) (hs:s.values.length<=1048576):ab Tryz.prog 178 [.agg (hZ s),.int .i64 p] [] (.sl 4 none ((s.values.filter (lU p)).map fY)):=by
 refine ab.of (aA (F:=Tryz.f178) c178 rfl rfl rfl mixed rfl fun X=>?_);(conv=>whnf);skip;refine bD rfl mixed [1,2,5,6] [] (fun m r h=>∃ (i:Nat) (v:AV) (hp:af),r=[(1,[],.int .i64 p),(2,[],.ai (hZ s)),(5,[],v),(6,[],.int .i64 i)]/\h=hp/\m=s.values.length - i/\i<=s.values.length/\Out 4 fY ((s.values.take i).filter (lU p)) v hp) ?_ ?_
 ·(conv=>whnf);exact ⟨_,_,ah.refl _ _,_,0,_,_,rfl,rfl,rfl,by omega,.inl ⟨rfl,rfl,rfl⟩⟩
 rintro m r h' ⟨i,v,hp,rfl,rfl,rfl,hi,ho⟩;(conv=>whnf);skip;refine ⟨fun aG=>?_,fun aG=>?_⟩<;>simp at aG
 ·obtain ⟨x,hx⟩:=aF aG;have cd:=Rw (f:=lU p) hx;have hlen:((s.values.take i).filter (lU p)).length<=i:=by have:=List.length_filter_le (lU p) (s.values.take i);rw [List.length_take] at this;omega
  (conv=>whnf);repeat (refine ix (by assumption) ?_;conv=>whnf)
  refine ⟨fun hq=>?_,fun hq=>?_⟩
  ·have hq:lU p x=true:=hq;rw [hq,if_pos rfl] at cd;rcases ho with ⟨he,rfl,rfl⟩|⟨q,rfl,rfl⟩
   all_goals
    (conv=>whnf);repeat ((first|refine ⟨ag ⟨by omega,by omega⟩,?_⟩|refine ix (by assumption) ?_|(refine ⟨Nat.le_of_ble_eq_true rfl,fun q'=>?_⟩)|(refine ⟨(by simp;unfold aN;omega),fun q'=>⟨_,.here _,?_⟩⟩));conv=>whnf)
    refine ⟨_,_,ah.refl _ _,_,(by omega),i+1,_,_,rfl,rfl,rfl,by omega,.inr ⟨q',?_,rfl⟩⟩;rw [cd,List.map_append];first|rfl|(rw [he];rfl)
  have hq:lU p x=false:=hq;rw [if_neg (by rw [hq];decide),List.append_nil] at cd;(conv=>whnf);repeat (refine ⟨ag ⟨by omega,by omega⟩,?_⟩;conv=>whnf)
  exact ⟨_,_,ah.refl _ _,_,(by omega),i+1,_,_,rfl,rfl,rfl,by omega,by rw [cd];exact ho⟩
 rw [List.take_of_length_le aG] at ho;(conv=>whnf);skip;exact ho.le (by decide)
theorem J2 (l:Lst) (n p:Int) (s:eN) (hl:zR l) (h0:0<=n) (hs:l.aK[n.toNat]?=some s) (hv:s.values.length<=1048576) (he:ln l=0) (hp:1<=p/\p<=l.iO) :
  ab Tryz.prog 134 [.agg (pU l),.int .i64 n,.int .i64 p] [] (.aB [.sl 4 none ((s.values.filter (lU p)).map fY),.int .i64 0]):=by
 have aP:=(List.getElem?_eq_some_iff.1 hs).1;refine aA (F:=Tryz.f134) c134 rfl rfl rfl mixed rfl fun X=>?_;(conv=>whnf);repeat (refine ab.k0 (Ss l hl) ?_;conv=>whnf)
 rw [he];refine cF rfl ?_;(conv=>whnf);skip;refine cF (by rw [List.length_map];simp;omega) ?_;(conv=>whnf);skip;refine cF (by simp;omega) ?_;(conv=>whnf);repeat ((first|(refine cp n.toNat (by omega) hs ?_)|refine ab.k0 (J1 s p hv) ?_);conv=>whnf)
 exact ⟨rfl,rfl⟩
def tL (vs:List de) (L:List az):List az:=vs.foldl (fun L v=>(jY v).foldl lT L) L
theorem TA (L:List az) (u:az):(lT L u).length<=L.length+1:=by
 unfold lT;split
 ·omega
 rw [Mk.length_eq];simp
theorem TB:∀ (us:List az) (L:List az),(us.foldl lT L).length<=L.length+us.length
 | [],L=>by simp
 | u::us,L=>by have h1:=TA L u;have h2:=TB us (lT L u);rw [List.foldl_cons,List.length_cons];omega
theorem TC:∀ (vs:List de) (L:List az),(tL vs L).length<=L.length+2*vs.length
 | [],L=>by simp [tL]
 | v::vs,L=>by have h1:=TB (jY v) L;have h2:=SJ v;have h3:=TC vs ((jY v).foldl lT L);unfold tL at h3 ⊢;rw [List.foldl_cons,List.length_cons];omega
theorem J3 (vs:List de) (v:de) (L:List az):tL (vs++[v]) L=(jY v).foldl lT (tL vs L):=by unfold tL;rw [List.foldl_append];rfl
def HB (p:Int) (s:eN):List az:=tL (s.values.filter (lU p)) []
end Go.Abs.Wall
namespace Go.Abs.Wall
open Go Go.Abs Go.Proofs
theorem Mr (v:de):(v.kind=1/\jY v=[⟨1,v.text⟩,⟨3,v.text⟩])\/(v.kind=2/\jY v=[⟨2,v.text⟩])\/(v.kind=3/\jY v=[⟨4,v.text⟩])\/(v.kind≠1/\v.kind≠2/\v.kind≠3/\jY v=[]):=by
 unfold jY;by_cases h1:v.kind=1
 ·exact .inl ⟨h1,by rw [if_pos h1]⟩
 by_cases h2:v.kind=2
 ·exact .inr (.inl ⟨h2,by rw [if_neg h1,if_pos h2]⟩)
 by_cases h3:v.kind=3
 ·exact .inr (.inr (.inl ⟨h3,by rw [if_neg h1,if_neg h2,if_pos h3]⟩))
 exact .inr (.inr (.inr ⟨h1,h2,h3,by rw [if_neg h1,if_neg h2,if_neg h3]⟩))
theorem J4 (H:aD) (n:Int) (s:eN) (hf:dx H) (hH:kc H) (h0:0<=n) (hs:H.list.aK[n.toNat]?=some s) :
  aw Tryz.prog 88 [.agg (aZ H),.int .i64 n] [] (fun v h'=>∃ hp Z,Row 2 aU (HB H.period s) v hp/\h'=hp++Z):=by
 have Tl:=((sK hH.qy).each _ (List.mem_of_getElem? hs)).bB;obtain ⟨vs,lu⟩:∃ vs,vs=s.values.filter (lU H.period):=⟨_,rfl⟩;have Z1:vs.length<=12:=by have:=List.length_filter_le (lU H.period) s.values;rw [lu];omega
 have hM:HB H.period s=tL vs []:=by rw [lu];rfl
 refine aA (F:=Tryz.f88) c88 rfl rfl rfl mixed rfl fun X=>?_;(conv=>whnf);repeat (refine ab.k0 (J2 H.list n H.period s hf.list h0 hs (by omega) hH.qy hH.period) ?_;conv=>whnf)
 rw [<- lu];refine bD rfl mixed [5,7,8] [] (fun m r h=>∃ (i:Nat) (v:AV) (hp:af),r=[(5,[],.sl 4 none (vs.map fY)),(7,[],v),(8,[],.int .i64 i)]/\h=hp/\m=vs.length - i/\i<=vs.length/\Row 2 aU (tL (vs.take i) []) v hp) ?_ ?_
 ·(conv=>whnf);exact ⟨_,_,ah.nD (.cons (aa.refl _) (.cons wD (.cons (aa.refl _) .nil))),_,0,.gu,[],rfl,rfl,rfl,by omega,.inl ⟨rfl,rfl,rfl⟩⟩
 rintro m r h' ⟨i,v,hp,rfl,rfl,rfl,hi,hr⟩;(conv=>whnf);skip;refine ⟨fun aG=>?_,fun aG=>?_⟩<;>simp at aG
 ·obtain ⟨x,hx⟩:=aF aG;have cd:=cN hx;have bd:=J3 (vs.take i) x [];rw [<- cd] at bd;have hlen:=TC (vs.take i) [];rw [List.length_take,List.length_nil] at hlen;rcases Mr x with ⟨hk,hu⟩|⟨hk,hu⟩|⟨hk,hu⟩|⟨cW,bg,jT,hu⟩
  ·rw [hu,List.foldl_cons,List.foldl_cons,List.foldl_nil] at bd;have yM:=TA (tL (vs.take i) []) ⟨1,x.text⟩;(conv=>whnf);repeat (refine ix (by assumption) ?_;conv=>whnf)
   refine cT (by simp [hk]) ?_;(conv=>whnf);skip;refine aw.mono ?_ (HA _ ⟨1,x.text⟩ v h' hr (by unfold aN;omega));intro v1 h1 qI;(conv=>whnf);skip;refine aw.mono ?_ (HA _ ⟨3,x.text⟩ v1 h1 qI (by unfold aN;omega));intro v2 h2 vC;(conv=>whnf);repeat (refine ⟨ag ⟨by omega,by omega⟩,?_⟩;conv=>whnf)
   exact ⟨_,_,ah.refl _ _,_,(by omega),i+1,_,_,rfl,rfl,rfl,by omega,by rw [bd];exact vC⟩
  ·rw [hu,List.foldl_cons,List.foldl_nil] at bd;(conv=>whnf);repeat (refine ix (by assumption) ?_;conv=>whnf)
   refine cF (by simp [hk]) ?_;(conv=>whnf);skip;refine cT (by simp [hk]) ?_;(conv=>whnf);skip;refine aw.mono ?_ (HA _ ⟨2,x.text⟩ v h' hr (by unfold aN;omega));intro v1 h1 qI;(conv=>whnf);repeat (refine ⟨ag ⟨by omega,by omega⟩,?_⟩;conv=>whnf)
   exact ⟨_,_,ah.refl _ _,_,(by omega),i+1,_,_,rfl,rfl,rfl,by omega,by rw [bd];exact qI⟩
  ·rw [hu,List.foldl_cons,List.foldl_nil] at bd;(conv=>whnf);repeat (refine ix (by assumption) ?_;conv=>whnf)
   refine cF (by simp [hk]) ?_;(conv=>whnf);skip;refine cF (by simp [hk]) ?_;(conv=>whnf);skip;refine cT (by simp [hk]) ?_;(conv=>whnf);skip;refine aw.mono ?_ (HA _ ⟨4,x.text⟩ v h' hr (by unfold aN;omega));intro v1 h1 qI;(conv=>whnf);repeat (refine ⟨ag ⟨by omega,by omega⟩,?_⟩;conv=>whnf)
   exact ⟨_,_,ah.refl _ _,_,(by omega),i+1,_,_,rfl,rfl,rfl,by omega,by rw [bd];exact qI⟩
  rw [hu,List.foldl_nil] at bd;(conv=>whnf);repeat (refine ix (by assumption) ?_;conv=>whnf)
  refine cF (by simp [cW]) ?_;(conv=>whnf);skip;refine cF (by simp [bg]) ?_;(conv=>whnf);skip;refine cF (by simp [jT]) ?_;(conv=>whnf);repeat (refine ⟨ag ⟨by omega,by omega⟩,?_⟩;conv=>whnf)
  exact ⟨_,_,ah.refl _ _,_,(by omega),i+1,_,_,rfl,rfl,rfl,by omega,by rw [bd];exact hr⟩
 rw [List.take_of_length_le aG] at hr;(conv=>whnf);skip;exact ⟨h',[],by rw [hM];exact hr,(List.append_nil _).symm⟩
theorem TD {u:az} {v:de} (h:u∈jY v):v.text=u.text/\v.kind=(if u.kind=2 then 2 else if u.kind=4 then 3 else 1):=by
 rcases Mr v with ⟨hk,e⟩|⟨hk,e⟩|⟨hk,e⟩|⟨_,_,_,e⟩<;>rw [e] at h<;>simp at h
 ·rcases h with rfl|rfl<;>simp [hk]
 ·subst h;simp [hk]
 subst h;simp [hk]
theorem J5 (v:de):(jY v).Nodup:=by rcases Mr v with ⟨hk,e⟩|⟨hk,e⟩|⟨hk,e⟩|⟨_,_,_,e⟩<;>rw [e]<;>simp
theorem J6 {p:Int} {v w:de} (hm:nd v w=false) (hv:lU p v=true) (hw:lU p w=true):∀ u∈jY v,u ∉ jY w:=by
 have J7:¬ (v.kind=w.kind/\v.text=w.text):=by rintro ⟨h1,h2⟩;unfold lU at hv hw;rw [dL] at hv hw;unfold nd at hm;rw [decide_eq_true h1,decide_eq_true h2,decide_eq_true (show v.fr<=w.to by omega),decide_eq_true (show w.fr<=v.to by omega)] at hm;cases hm
 intro u hu mB;have h1:=TD hu;have h2:=TD mB;exact J7 ⟨h1.2.trans h2.2.symm,h1.1.trans h2.1.symm⟩
def HD (p:Int):List de->Prop
 | []=>True
 | v::t=>(∀ w∈t,lU p v=true->lU p w=true->nd w v=false)/\HD p t
theorem J8 {l:Lst} {b:List de} {v:de} (h:mr l b v=0):∀ w∈b,nd v w=false:=by
 unfold mr at h;split at h
 ·cases h
 split at h
 ·cases h
 split at h
 ·cases h
 rename_i h3;rw [Bool.not_eq_true,List.any_eq_false] at h3;exact fun w hw=>by simpa using h3 w hw
theorem TE {l:Lst} {vs:List de}:∀ {t:List de} {i:Nat},vs.drop i=t->rf l vs t i=0->∀ j v,i<=j->vs[j]?=some v->mr l (vs.take j) v=0
 | [],i,hd,h,j,v,hj,hv=>by have:=(List.getElem?_eq_some_iff.1 hv).1;have hl:=congrArg List.length hd;rw [List.length_drop,List.length_nil] at hl;omega
 | a::t,i,hd,h,j,v,hj,hv=>by
   unfold rf at h;split at h
   ·rename_i h1;exact absurd h h1
   rename_i h1;by_cases Hb:j=i
   ·subst Hb;have:vs[j]?=some a:=by have:=congrArg (fun z=>z[0]?) hd;simpa using this
    rw [hv] at this;cases this
    exact by simpa using h1
   exact TE (t:=t) (i:=i+1) (by have:=congrArg List.tail hd;simpa [List.tail_drop] using this) h j v (by omega) hv
theorem TF {p:Int}:∀ {vs:List de},(∀ (j k:Nat) v w,j<k->vs[j]?=some v->vs[k]?=some w->nd w v=false)->HD p vs
 | [],_=>trivial
 | a::t,h=>⟨fun w hw _ _=>by
    obtain ⟨k,hk⟩:=List.mem_iff_getElem?.1 hw;exact h 0 (k+1) a w (by omega) rfl (by simpa using hk),TF fun j k v w hj hv hw=>h (j+1) (k+1) v w (by omega) (by simpa using hv) (by simpa using hw)⟩
theorem J9 {l:Lst} {s:eN} (h:jV l s=0) (p:Int):HD p s.values:=by
 unfold jV at h;split at h
 ·cases h
 split at h
 ·cases h
 refine TF fun j k v w hj hv hw=>?_;have:=TE (i:=0) rfl h k w (by omega) hw;exact J8 this v (List.mem_of_getElem? (i:=j) (by rw [List.getElem?_take,if_pos hj,hv]))
theorem Ms {p:Int}:∀ {vs:List de},HD p vs->(jS p vs).Nodup
 | [],_=>.nil
 | v::t,h=>by
   unfold jS;split
   ·rename_i hw;rw [List.nodup_append];refine ⟨J5 v,Ms h.2,fun u hu u' dK e=>?_⟩;subst e
    have gW:∀ {t:List de},u∈jS p t->∃ w∈t,lU p w=true/\u∈jY w:=by
     intro t;induction t with
     | nil=>intro h;cases h
     | cons a t ih=>
       intro h;unfold jS at h;rcases List.mem_append.1 h with h|h
       ·split at h
        ·rename_i h1;exact ⟨a,by simp,h1,h⟩
        cases h
       obtain ⟨w,h1,h2⟩:=ih h;exact ⟨w,by simp [h1],h2⟩
    obtain ⟨w,h1,h2,h3⟩:=gW dK;exact J6 (h.1 w h1 hw h2) h2 hw u h3 hu
   rw [List.nil_append];exact Ms h.2
theorem TG:∀ {us L:List az},us.Nodup->(∀ u∈us,u ∉ L)->us.foldl lT L=us.foldl (fx ni) L
 | [],L,_,_=>rfl
 | u::us,L,hn,hd=>by
   rw [List.nodup_cons] at hn;rw [List.foldl_cons,List.foldl_cons,show lT L u=fx ni L u by rw [lT,if_neg (hd u (by simp))]];refine TG hn.2 fun x hx hm=>?_;rcases List.mem_cons.1 (Mk.mem_iff.1 hm) with rfl|hm
   ·exact hn.1 hx
   exact hd x (by simp [hx]) hm
theorem Mt (p:Int):∀ (vs:List de) (L:List az),tL (vs.filter (lU p)) L=(jS p vs).foldl lT L
 | [],L=>rfl
 | v::t,L=>by
   rw [List.filter_cons];unfold jS;rw [List.foldl_append];by_cases hv:lU p v=true
   ·rw [if_pos hv];have Mu:bL p v.fr v.to=true:=hv;rw [if_pos Mu];exact Mt p t _
   rw [if_neg hv];have Mu:¬ bL p v.fr v.to=true:=hv;rw [if_neg Mu];exact Mt p t L
theorem K0 {l:Lst} {s:eN} {p:Int} (h:jV l s=0):HB p s=rh p s:=by unfold HB rh xR;rw [Mt,TG (Ms (J9 h p)) (fun u _=>by simp)];exact Nl zU.c.w fun x _ y _=>zU.c.yy x y
theorem K3 {l:Lst} (h:ln l=0):∀ s∈l.aK,jV l s=0:=by
 unfold ln at h;split at h
 ·cases h
 split at h
 ·cases h
 have qG:∀ {t:List eN} {seen:List (List UInt8)},si l t seen=0->∀ s∈t,jV l s=0:=by
  intro t;induction t with
  | nil=>intro seen _ s hs;cases hs
  | cons a t ih=>
    intro seen h s hs;unfold si at h;split at h
    ·cases h
    split at h
    ·rename_i h1;exact absurd h h1
    rename_i h1;rcases List.mem_cons.1 hs with rfl|hs
    ·simpa using h1
    exact ih h s hs
 exact qG h
theorem Ns (H:aD) (n:Int) (hf:dx H) (hH:kc H) (h0:0<=n) (h1:n<H.list.aK.length) :
  ab Tryz.prog 88 [.agg (aZ H),.int .i64 n] [] (.sl 2 none ((gM H n).map aU)):=by
 have hs:=yB h0 h1;have:=Row.ok (by decide) pe (J4 H n _ hf hH h0 hs);rwa [K0 (K3 hH.qy _ (List.mem_of_getElem? hs))] at this
def kA (H:aD) (n:Int):Int:=if fA H≠0 then fA H else if bL n 0 ((H.list.aK.length:Int) - 1)=false then 23 else 0
def tn (H:aD) (n:Int):List az:=if kA H n=0 then gM H n else []
theorem Qm (H:aD) (n:Int) (hf:dx H):ab Tryz.prog 213 [.agg (aZ H),.int .i64 n] [] (.aB [.sl 2 none ((tn H n).map aU),.int .i64 (kA H n)]):=by
 have gD:=hf.list.aK;unfold aq at gD;refine ab.of ?_;refine aA (F:=Tryz.f213) c213 rfl rfl rfl mixed rfl fun X=>?_;(conv=>whnf);repeat (refine ab.k0 (Ip H hf) ?_;conv=>whnf)
 refine ⟨fun hc=>?_,fun hc=>?_⟩<;>simp at hc
 ·have he:kA H n=fA H:=(by rw [kA,if_pos hc]);(conv=>whnf);skip;rw [tn,he,if_neg hc];exact aa.aB (.cons (aa.nil (by decide)) (.cons (aa.refl _) .nil))
 have hH:=vN hc;(conv=>whnf);skip;refine ⟨fun hq=>?_,fun hq=>?_⟩
 ·have hq:(decide (n<0)||decide (((H.list.aK.map hZ).length:Int)<=n))=true:=hq;rw [List.length_map,Bool.or_eq_true,decide_eq_true_eq,decide_eq_true_eq] at hq;have he:kA H n=23:=(by rw [kA,if_neg (by omega),if_pos (by rw [<- Bool.not_eq_true,dL];omega)]);(conv=>whnf);skip;rw [tn,he,if_neg (by decide)];exact aa.aB (.cons (aa.nil (by decide)) (.cons (aa.refl _) .nil))
 have hq:(decide (n<0)||decide (((H.list.aK.map hZ).length:Int)<=n))=false:=hq;rw [List.length_map,Bool.or_eq_false_iff,decide_eq_false_iff_not,decide_eq_false_iff_not] at hq;have he:kA H n=0:=(by rw [kA,if_neg (by omega),if_neg (by rw [Bool.not_eq_false,dL];omega)]);(conv=>whnf);repeat (refine ab.k0 (Ns H n hf hH (by omega) (by omega)) ?_;conv=>whnf)
 rw [tn,he,if_pos rfl];exact aa.refl _
end Go.Abs.Wall
namespace Go.Abs.Wall
open Go Go.Abs Go.Proofs
def c93:av:=⟨[0,1,4,5,10,14,25],[],[],[],[(6,[0,1,2,3,4,5,6,7,8],[])],[]⟩
theorem UF (a b:List az) (ha:a.length<=aq) (hb:b.length<=aq):ab Tryz.prog 93 [.sl 2 none (a.map aU),.sl 2 none (b.map aU)] [] (.bool (decide (a=b))):=by
 unfold aq at ha hb;refine aA (F:=Tryz.f93) c93 rfl rfl rfl mixed rfl fun X=>?_;(conv=>whnf);skip;refine ⟨fun hc=>?_,fun hc=>?_⟩<;>simp at hc
 ·(conv=>whnf);refine ⟨congrArg AV.bool (decide_eq_false fun e=>?_).symm,rfl⟩;rw [e] at hc;omega
 (conv=>whnf);skip;refine bS rfl mixed [0,1,5] [] (fun m r h=>∃ (i:Nat),r=[(0,[],.sl 2 none (a.map aU)),(1,[],.sl 2 none (b.map aU)),(5,[],.int .i64 i)]/\h=[]/\m=a.length - i/\i<=a.length/\decide (a=b)=decide (a.drop i=b.drop i)) ?_ ?_
 ·(conv=>whnf);exact ⟨_,0,rfl,rfl,rfl,by omega,rfl⟩
 rintro m r h ⟨i,rfl,rfl,rfl,hi,hg⟩;(conv=>whnf);skip;refine ⟨fun aG=>?_,fun aG=>?_⟩<;>simp at aG
 ·obtain ⟨x,hx⟩:=aF aG;obtain ⟨y,hy⟩:=aF (l:=b) (i:=i) (by omega);rw [drop_cons hx,drop_cons hy] at hg;(conv=>whnf);repeat ((first|refine ix (by assumption) ?_|(refine ⟨Ma,?_⟩)|refine And.intro (by show aJ (aH Tryz.f93 _) _=true;decide +kernel) ?_);conv=>whnf)
  refine ⟨fun hq=>?_,fun hq=>?_⟩
  ·have hq:(!sU x y)=true:=hq;rw [yS,Bool.not_eq_true',decide_eq_false_iff_not] at hq;(conv=>whnf);skip;refine ⟨congrArg AV.bool ?_,rfl⟩;rw [hg];symm;rw [decide_eq_false_iff_not];intro h;exact hq (List.cons.inj h).1
  have hq:(!sU x y)=false:=hq;rw [yS,Bool.not_eq_false',decide_eq_true_eq] at hq;subst hq;(conv=>whnf);repeat (refine ⟨ag ⟨by omega,by omega⟩,?_⟩;conv=>whnf)
  refine ⟨_,by omega,i+1,rfl,rfl,rfl,by omega,?_⟩;rw [hg,decide_eq_decide,List.cons.injEq];simp
 rw [drop_nil aG,drop_nil (by omega)] at hg;(conv=>whnf);skip;exact ⟨congrArg AV.bool (by rw [hg];rfl),rfl⟩
theorem Xg (H:aD) (n:Int) (hf:dx H):ab Tryz.prog 59 [.agg (aZ H),.int .i64 n] [] (.aB [.sl 2 none ((tn H n).map aU),.int .i64 (kA H n)]):=by
 have gD:=hf.list.aK;unfold aq at gD;refine ab.of ?_;refine aA (F:=Tryz.f59) c59 rfl rfl rfl mixed rfl fun X=>?_;(conv=>whnf);repeat (refine ab.k0 (Ka H hf) ?_;conv=>whnf)
 refine ⟨fun hc=>?_,fun hc=>?_⟩<;>simp at hc
 ·have he:kA H n=fA H:=(by rw [kA,if_pos hc]);(conv=>whnf);skip;rw [tn,he,if_neg hc];exact aa.aB (.cons (aa.nil (by decide)) (.cons (aa.refl _) .nil))
 have hH:=vN hc;(conv=>whnf);repeat ((first|refine ab.k0 (within _ _ _) ?_|(refine ⟨ag ⟨by rw [List.length_map];omega,by rw [List.length_map];omega⟩,?_⟩));conv=>whnf)
 refine ⟨fun hq=>?_,fun hq=>?_⟩
 ·have hq:(!bL n 0 (((H.list.aK.map hZ).length:Int) - 1))=true:=hq;rw [List.length_map,Bool.not_eq_true'] at hq;have he:kA H n=23:=(by rw [kA,if_neg (by omega),if_pos hq]);(conv=>whnf);skip;rw [tn,he,if_neg (by decide)];exact aa.aB (.cons (aa.nil (by decide)) (.cons (aa.refl _) .nil))
 have hq:(!bL n 0 (((H.list.aK.map hZ).length:Int) - 1))=false:=hq;rw [List.length_map,Bool.not_eq_false',dL] at hq;have he:kA H n=0:=(by rw [kA,if_neg (by omega),if_neg (by rw [Bool.not_eq_false,dL];omega)]);have hs:=yB (H:=H) (n:=n) hq.1 (by omega);have Tl:=((sK hH.qy).each _ (List.mem_of_getElem? hs)).bB;(conv=>whnf);repeat (refine ab.k0 (SL H n (AW H n) hq.1 hs (by omega)) ?_;conv=>whnf)
 rw [tn,he,if_pos rfl];exact aa.refl _
end Go.Abs.Wall
namespace Go.Abs.Wall
open Go Go.Abs Go.Proofs Go.Proofs.YthmcbjcgdfmmaaaGreat.Br
def Ad (P:Program) (B:Nat):List TypeId->List (List AV)->Prop
 | [],[]=>True
 | t::ts,p::ps=>Sh P B t p/\Ad P B ts ps
 | _,_=>False
theorem TH {P:Program} {B:Nat}:∀ {ts:List TypeId} {ps:List (List AV)},ps.length=ts.length->(∀ (i:Nat) t p,ts[i]?=some t->ps[i]?=some p->Sh P B t p)->Ad P B ts ps
 | [],[],_,_=>trivial
 | t::ts,p::ps,hl,h=>⟨h 0 t p rfl rfl,TH (by simpa using hl) fun i t' p' h1 h2=>h (i+1) t' p' (by simpa using h1) (by simpa using h2)⟩
 | [],_::_,hl,_=>by simp at hl
 | _::_,[],hl,_=>by simp at hl
theorem uD {P:Program} {B:Nat} {t:TypeId} {fs:Array Field} {xs:List AV} (h:Sh P B t xs) (hu:P.underlying t=some (.struct fs)):∃ ps,xs=ps.flatten/\Ad P B (fs.toList.map (·.type)) ps:=by
 cases h with
 | bool h1=>rw [hu] at h1;cases h1
 | int h1 _=>rw [hu] at h1;cases h1
 | str h1 _=>rw [hu] at h1;cases h1
 | slice h1 _ _=>rw [hu] at h1;cases h1
 | @struct _ Z4 ps h1 hl hp=>
   rw [hu] at h1;cases h1
   refine ⟨ps,rfl,TH (by simpa using hl) fun i t p h1 h2=>?_⟩;rw [List.getElem?_map] at h1;cases hf:fs.toList[i]? with
   | none=>rw [hf] at h1;cases h1
   | some f=>rw [hf] at h1;cases h1;exact hp i f p hf h2
 | array h1 hl hp=>rw [hu] at h1;cases h1
theorem K4 {P:Program} {B:Nat} {t:TypeId} {k:IntKind} {xs:List AV} (h:Sh P B t xs) (hu:P.underlying t=some (.int k)):∃ n:Int,xs=[.int k n]/\k.has n:=by
 cases h with
 | bool h1=>rw [hu] at h1;cases h1
 | int h1 h2=>rw [hu] at h1;cases h1;exact ⟨_,rfl,Sa h2⟩
 | str h1 _=>rw [hu] at h1;cases h1
 | slice h1 _ _=>rw [hu] at h1;cases h1
 | struct h1 hl hp=>rw [hu] at h1;cases h1
 | array h1 hl hp=>rw [hu] at h1;cases h1
theorem K5 {P:Program} {B:Nat} {t:TypeId} {xs:List AV} (h:Sh P B t xs) (hu:P.underlying t=some .bool):∃ b:Bool,xs=[.bool b]:=by
 cases h with
 | bool h1=>exact ⟨_,rfl⟩
 | int h1 h2=>rw [hu] at h1;cases h1
 | str h1 _=>rw [hu] at h1;cases h1
 | slice h1 _ _=>rw [hu] at h1;cases h1
 | struct h1 hl hp=>rw [hu] at h1;cases h1
 | array h1 hl hp=>rw [hu] at h1;cases h1
theorem xX {P:Program} {B:Nat} {t:TypeId} {xs:List AV} (h:Sh P B t xs) (hu:P.underlying t=some .string):∃ s,xs=[.str s]/\s.length<=B:=by
 cases h with
 | bool h1=>rw [hu] at h1;cases h1
 | int h1 h2=>rw [hu] at h1;cases h1
 | str h1 h2=>exact ⟨_,rfl,h2⟩
 | slice h1 _ _=>rw [hu] at h1;cases h1
 | struct h1 hl hp=>rw [hu] at h1;cases h1
 | array h1 hl hp=>rw [hu] at h1;cases h1
theorem BC {P:Program} {B:Nat} {t e:TypeId} {xs:List AV} {α:Type} {enc:α->List AV} {Fit:α->Prop} (h:Sh P B t xs) (hu:P.underlying t=some (.slice e)) (he:∀ y,Sh P B e y->∃ a,y=enc a/\Fit a) :
  ∃ l:List α,xs=[.sl (P.cellsOf e) none (l.map enc)]/\l.length<=B/\∀ a∈l,Fit a:=by
 cases h with
 | bool h1=>rw [hu] at h1;cases h1
 | int h1 h2=>rw [hu] at h1;cases h1
 | str h1 _=>rw [hu] at h1;cases h1
 | @slice _ e' ys h1 h2 h3=>
   rw [hu] at h1;cases h1
   suffices hk:∃ l:List α,ys=l.map enc/\∀ a∈l,Fit a by
    obtain ⟨l,rfl,hf⟩:=hk;exact ⟨l,rfl,by simpa using h2,hf⟩
   clear h2;induction ys with
   | nil=>exact ⟨[],rfl,by simp⟩
   | cons y ys ih=>
     obtain ⟨l,rfl,hf⟩:=ih fun z hz=>h3 z (by simp [hz]);obtain ⟨a,rfl,ha⟩:=he y (h3 y (by simp));exact ⟨a::l,rfl,fun b hb=>by rcases List.mem_cons.1 hb with rfl|hb;exact ha;exact hf b hb⟩
 | struct h1 hl hp=>rw [hu] at h1;cases h1
 | array h1 hl hp=>rw [hu] at h1;cases h1
theorem K6 {P:Program} {B:Nat} {a b:TypeId} {ps:List (List AV)} (h:Ad P B [a,b] ps):∃ x y,ps=[x,y]/\Sh P B a x/\Sh P B b y:=by
 match ps,h with
 | [x,y],⟨h1,h2,_⟩=>exact ⟨x,y,rfl,h1,h2⟩
theorem Ki {P:Program} {B:Nat} {a b c:TypeId} {ps:List (List AV)} (h:Ad P B [a,b,c] ps):∃ x y z,ps=[x,y,z]/\Sh P B a x/\Sh P B b y/\Sh P B c z:=by
 match ps,h with
 | [x,y,z],⟨h1,h2,h3,_⟩=>exact ⟨x,y,z,rfl,h1,h2,h3⟩
theorem HE {P:Program} {B:Nat} {a b c d:TypeId} {ps:List (List AV)} (h:Ad P B [a,b,c,d] ps):∃ x y z u,ps=[x,y,z,u]/\Sh P B a x/\Sh P B b y/\Sh P B c z/\Sh P B d u:=by
 match ps,h with
 | [x,y,z,u],⟨h1,h2,h3,h4,_⟩=>exact ⟨x,y,z,u,rfl,h1,h2,h3,h4⟩
theorem TI {P:Program} {B:Nat} {a b c d e:TypeId} {ps:List (List AV)} (h:Ad P B [a,b,c,d,e] ps):∃ x y z u v,ps=[x,y,z,u,v]/\Sh P B a x/\Sh P B b y/\Sh P B c z/\Sh P B d u/\Sh P B e v:=by
 match ps,h with
 | [x,y,z,u,v],⟨h1,h2,h3,h4,h5,_⟩=>exact ⟨x,y,z,u,v,rfl,h1,h2,h3,h4,h5⟩
abbrev iM:Nat:=1048576
theorem rl {n:Nat} (h:n<=iM):n<=aq:=by unfold aq;unfold iM at h;omega
theorem kY {xs:List AV} (h:Sh Tryz.prog iM 3 xs):∃ n:Int,xs=[.int .i64 n]/\IntKind.i64.has n:=K4 h rfl
theorem PU {xs:List AV} (h:Sh Tryz.prog iM 34 xs):∃ l:List Int,xs=[.sl 1 none (ints l)]/\l.length<=iM/\∀ a∈l,IntKind.i64.has a:=
 BC (enc:=fun x=>[AV.int .i64 x]) h rfl fun y hy=>kY hy
theorem K7 {xs:List AV} (h:Sh Tryz.prog iM 91 xs):∃ v:de,xs=fY v/\v.text.length<=iM:=by obtain ⟨ps,rfl,hp⟩:=uD h rfl;obtain ⟨x,y,z,u,rfl,h1,h2,h3,h4⟩:=HE hp;obtain ⟨a,rfl,_⟩:=kY h1;obtain ⟨b,rfl,hb⟩:=xX h2 rfl;obtain ⟨c,rfl,_⟩:=kY h3;obtain ⟨d,rfl,_⟩:=kY h4;exact ⟨⟨a,b,c,d⟩,rfl,hb⟩
theorem K8 {xs:List AV} (h:Sh Tryz.prog iM 88 xs):∃ s:eN,xs=hZ s/\LN s:=by obtain ⟨ps,rfl,hp⟩:=uD h rfl;obtain ⟨x,y,z,u,v,rfl,h1,h2,h3,h4,h5⟩:=TI hp;obtain ⟨a,rfl,ha⟩:=xX h1 rfl;obtain ⟨b,rfl,hb⟩:=kY h2;obtain ⟨c,rfl,_⟩:=kY h3;obtain ⟨d,rfl⟩:=K5 h4 rfl;obtain ⟨e,rfl,he,hf⟩:=BC (enc:=fY) h5 rfl fun y hy=>K7 hy;exact ⟨⟨a,b,c,d,e⟩,rfl,rl ha,rl he,fun v hv=>rl (hf v hv)⟩
theorem K9 {xs:List AV} (h:Sh Tryz.prog iM 24 xs):∃ l:Lst,xs=pU l/\zR l:=by obtain ⟨ps,rfl,hp⟩:=uD h rfl;obtain ⟨y,z,rfl,h1,h2⟩:=K6 hp;obtain ⟨a,rfl,_⟩:=kY h1;obtain ⟨b,rfl,hb,hf⟩:=BC (enc:=hZ) h2 rfl fun y hy=>K8 hy;exact ⟨⟨a,b⟩,rfl,rl hb,hf⟩
theorem L0 {xs:List AV} (h:Sh Tryz.prog iM 93 xs):∃ e:kM,xs=fi e/\Su e:=by obtain ⟨ps,rfl,hp⟩:=uD h rfl;obtain ⟨x,y,z,u,rfl,h1,h2,h3,h4⟩:=HE hp;obtain ⟨a,rfl,ha⟩:=xX h1 rfl;obtain ⟨b,rfl,hb⟩:=kY h2;obtain ⟨c,rfl,hc⟩:=xX h3 rfl;obtain ⟨d,rfl,_⟩:=kY h4;exact ⟨⟨a,b,c,d⟩,rfl,rl ha,rl hc⟩
theorem L4 {xs:List AV} (h:Sh Tryz.prog iM 95 xs):∃ e:lC,xs=iV e/\Sv e:=by obtain ⟨ps,rfl,hp⟩:=uD h rfl;obtain ⟨x,y,z,u,rfl,h1,h2,h3,h4⟩:=HE hp;obtain ⟨a,rfl,ha⟩:=kY h1;obtain ⟨b,rfl,hb⟩:=xX h2 rfl;obtain ⟨c,rfl,hc⟩:=xX h3 rfl;obtain ⟨d,rfl,_⟩:=kY h4;exact ⟨⟨a,b,c,d⟩,rfl,rl hb,rl hc⟩
theorem L5 {xs:List AV} (h:Sh Tryz.prog iM 97 xs):∃ e:kU,xs=gU e/\Sw e:=by obtain ⟨ps,rfl,hp⟩:=uD h rfl;obtain ⟨x,y,z,rfl,h1,h2,h3⟩:=Ki hp;obtain ⟨a,rfl,ha⟩:=xX h1 rfl;obtain ⟨b,rfl,hb⟩:=xX h2 rfl;obtain ⟨c,rfl,hc⟩:=kY h3;exact ⟨⟨a,b,c⟩,rfl,rl ha,rl hb⟩
theorem L6 {xs:List AV} (h:Sh Tryz.prog iM 29 xs):∃ l:Lex,xs=fo l/\rT l:=by obtain ⟨ps,rfl,hp⟩:=uD h rfl;obtain ⟨x,y,z,rfl,h1,h2,h3⟩:=Ki hp;obtain ⟨a,rfl,ha,fa⟩:=BC (enc:=fi) h1 rfl fun y hy=>L0 hy;obtain ⟨b,rfl,hb,fb⟩:=BC (enc:=iV) h2 rfl fun y hy=>L4 hy;obtain ⟨c,rfl,hc,fc⟩:=BC (enc:=gU) h3 rfl fun y hy=>L5 hy;exact ⟨⟨a,b,c⟩,rfl,rl ha,rl hb,rl hc,fa,fb,fc⟩
theorem L7 {xs:List AV} (h:Sh Tryz.prog iM 31 xs):∃ c:zY,xs=SI c:=by obtain ⟨ps,rfl,hp⟩:=uD h rfl;obtain ⟨x,y,z,u,v,rfl,h1,h2,h3,h4,h5⟩:=TI hp;obtain ⟨a,rfl,ha⟩:=kY h1;obtain ⟨b,rfl,hb⟩:=kY h2;obtain ⟨c,rfl,hc⟩:=kY h3;obtain ⟨d,rfl,hd⟩:=kY h4;obtain ⟨e,rfl,he⟩:=kY h5;exact ⟨⟨a,b,c,d,e⟩,rfl⟩
theorem L8 {xs:List AV} (h:Sh Tryz.prog iM 33 xs):∃ H:aD,xs=aZ H/\dx H:=by obtain ⟨ps,rfl,hp⟩:=uD h rfl;obtain ⟨x,y,z,u,rfl,h1,h2,h3,h4⟩:=HE hp;obtain ⟨a,rfl,ha⟩:=K9 h1;obtain ⟨b,rfl,hb⟩:=L6 h2;obtain ⟨c,rfl⟩:=L7 h3;obtain ⟨d,rfl,hd⟩:=kY h4;exact ⟨⟨a,b,c,d⟩,rfl,⟨ha,hb⟩⟩
theorem L9 {x:AV} (h:vP Tryz.prog iM 33 x):∃ H:aD,x=.agg (aZ H)/\dx H:=by obtain ⟨xs,h,hx⟩:=h;have hx:x=.agg xs:=hx;subst hx;obtain ⟨H,rfl,hf⟩:=L8 h;exact ⟨H,rfl,hf⟩
theorem M0 {x:AV} (h:vP Tryz.prog iM 34 x):∃ l:List Int,x=.sl 1 none (ints l)/\l.length<=iM/\∀ a∈l,IntKind.i64.has a:=by
 obtain ⟨xs,h,hx⟩:=h;have hx:xs=[x]:=hx;obtain ⟨l,h1,h2⟩:=PU h;rw [hx] at h1;cases h1
 exact ⟨l,rfl,h2⟩
theorem M1 {ts:List TypeId} {a b c:TypeId} {xs:List AV} (ht:ts=[a,b,c]) (h:Ei Tryz.prog iM ts xs):∃ x y z,xs=[x,y,z]/\vP Tryz.prog iM a x/\vP Tryz.prog iM b y/\vP Tryz.prog iM c z:=by
 subst ht
 match xs,h with
 | [x,y,z],⟨h1,h2,h3,_⟩=>exact ⟨x,y,z,rfl,h1,h2,h3⟩
end Go.Abs.Wall
