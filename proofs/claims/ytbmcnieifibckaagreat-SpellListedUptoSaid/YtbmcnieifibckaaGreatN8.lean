/- What is proved: small laws for the walks of this seat, and contracts of its functions. No condition but those each theorem names. -/
import Derived.Test.YtbmcnieifibckaaGreatN7
import Derived.Test.YtbmcnieifibckaaGreatN5
import Derived.Test.YtbmcnieifibckaaGreatN4
import Derived.Test.YtbmcnieifibckaaGreatN6
set_option maxRecDepth 100000
set_option maxHeartbeats 2000000
set_option linter.unusedVariables false
set_option linter.unusedSimpArgs false
namespace Go.Abs.Wall
open Go Go.Abs Go.Proofs
section
variable {α:Type} {k:Nat} {enc:α->List AV}
theorem mz (hk:∀ a,(enc a).length=k) (L:List α):((L.map enc).flatten).length=L.length*k:=rL hk
theorem xB (hk:∀ a,(enc a).length=k):∀ (L:List α) (i:Nat),((L.map enc).flatten).drop (i*k)=((L.drop i).map enc).flatten
 | L,0=>by simp
 | [],i+1=>by simp
 | a::L,i+1=>by rw [List.map_cons,List.flatten_cons,List.drop_succ_cons,show (i+1)*k=(enc a).length+i*k by rw [hk,Nat.succ_mul,Nat.add_comm],List.drop_append,List.drop_eq_nil_of_le (Nat.le_add_right _ _),List.nil_append,Nat.add_sub_cancel_left];exact xB hk L i
theorem By (hk:∀ a,(enc a).length=k):∀ (L:List α) (i:Nat),((L.map enc).flatten).take (i*k)=((L.take i).map enc).flatten
 | L,0=>by simp
 | [],i+1=>by simp
 | a::L,i+1=>by rw [List.map_cons,List.flatten_cons,List.take_succ_cons,List.map_cons,List.flatten_cons,show (i+1)*k=(enc a).length+i*k by rw [hk,Nat.succ_mul,Nat.add_comm],List.take_append,List.take_of_length_le (Nat.le_add_right _ _),Nat.add_sub_cancel_left];rw [By hk L i]
theorem ft {P:Program} {t:TypeId} {b o i:Nat} {h:ab} {L:List α} {x:α} {K:AV->Prop} (hk:∀ a,(enc a).length=k) (hm:(b,Ob.vec (L.map enc).flatten)∈h) (ho:o=i*k) (hx:L[i]?=some x)
  (hl:fZ P t (enc x++((L.drop (i+1)).map enc).flatten) K):∃ cs l,(b,Ob.vec cs)∈h/\iG o cs=some l/\fZ P t l K:=by
 obtain ⟨hi,iJ⟩:=List.getElem?_eq_some_iff.1 hx;refine ⟨_,_,hm,Bi ?_,?_⟩
 ·rw [mz hk,ho];exact Nat.mul_le_mul_right k (by omega)
 rw [ho,xB hk,List.drop_eq_getElem_cons hi,iJ,List.map_cons,List.flatten_cons];exact hl
theorem E9 (hk:∀ a,(enc a).length=k) {L:List α} {i:Nat} {y:α} (hi:i<L.length):cY (L.map enc).flatten (i*k) (enc y)=((L.set i y).map enc).flatten:=by unfold cY;rw [hk,By hk,show i*k+k=(i+1)*k by rw [Nat.succ_mul],xB hk,List.set_eq_take_append_cons_drop,if_pos hi];simp
theorem rM {b o i:Nat} {h h':ab} {L:List α} {l:List AV} {K:AV->ab->Prop} (y:α) (iv:0<k) (hk:∀ a,(enc a).length=k) (hi:i<L.length) (ho:o=i*k) (hl:l=enc y)
  (hu:cH b (.vec (L.map enc).flatten) b (.vec ((L.set i y).map enc).flatten) h h') (hK:K .unit h') :
  ∃ cs h',cH b (.vec cs) b (.vec (cY cs o l)) h h'/\(0<l.length/\o+l.length<=cs.length)/\K .unit h':=by
 subst ho hl;refine ⟨_,h',by rw [E9 hk hi];exact hu,⟨by rw [hk];exact iv,?_⟩,hK⟩;rw [hk,mz hk,<- Nat.succ_mul];exact Nat.mul_le_mul_right k hi
end
def vD {α:Type} (less:α->α->Bool) (u:α):List α->List α
 | []=>[u]
 | b::t=>if less u b=true then b::vD less u t else u::b::t
def eZ {α:Type} (less:α->α->Bool) (L:List α) (u:α):List α:=(vD less u L.reverse).reverse
theorem Li {α:Type} {less:α->α->Bool} {u:α}:∀ {l:List α},(vD less u l).Perm (u::l)
 | []=>.refl _
 | b::t=>by
   unfold vD;split
   ·exact (List.Perm.cons _ Li).trans (.swap _ _ _)
   exact .refl _
theorem Lj {α:Type} {less:α->α->Bool} {u:α} {l:List α}:(eZ less l u).Perm (u::l):=by unfold eZ;exact (List.reverse_perm _).trans (Li.trans (List.Perm.cons _ (List.reverse_perm _)))
theorem SP {α:Type} {cmp:α->α->Int} (h:oG cmp) {u:α}:∀ {l:List α},l.Pairwise (fun x y=>¬ cmp x y<0)->(vD (fun a b=>decide (cmp a b<0)) u l).Pairwise fun x y=>¬ cmp x y<0
 | [],_=>by simp [vD]
 | b::t,hl=>by
   rw [List.pairwise_cons] at hl;unfold vD;split
   ·rename_i hc;rw [decide_eq_true_eq] at hc;rw [List.pairwise_cons];refine ⟨fun x hx=>?_,SP h hl.2⟩;rcases List.mem_cons.1 (Li.mem_iff.1 hx) with rfl|hx
    ·exact fun h2=>h.rP _ (h.tr _ _ _ hc h2)
    exact hl.1 x hx
   rename_i hc;rw [decide_eq_true_eq] at hc;rw [List.pairwise_cons,List.pairwise_cons];refine ⟨fun x hx=>?_,hl⟩;rcases List.mem_cons.1 hx with rfl|hx
   ·exact hc
   exact h.nt _ _ _ hc (hl.1 x hx)
theorem F0 {α:Type} {cmp:α->α->Int} (h:oG cmp) {u:α} {l:List α} (hl:l.Pairwise fun x y=>¬ cmp y x<0):(eZ (fun a b=>decide (cmp a b<0)) l u).Pairwise fun x y=>¬ cmp y x<0:=by unfold eZ;rw [List.pairwise_reverse];exact SP h (by rw [List.pairwise_reverse];exact hl)
theorem DQ {α:Type} {less:α->α->Bool}:∀ {l acc:List α},(l.foldl (eZ less) acc).Perm (l++acc)
 | [],acc=>.refl _
 | a::t,acc=>by rw [List.foldl_cons];exact DQ.trans ((List.Perm.append_left t Lj).trans List.perm_middle)
theorem SQ {α:Type} {cmp:α->α->Int} (h:oG cmp):∀ {l acc:List α},acc.Pairwise (fun x y=>¬ cmp y x<0)->(l.foldl (eZ fun a b=>decide (cmp a b<0)) acc).Pairwise fun x y=>¬ cmp y x<0
 | [],acc,ha=>ha
 | a::t,acc,ha=>by rw [List.foldl_cons];exact SQ h (F0 h ha)
theorem Ml {α:Type} {cmp:α->α->Int} (h:oG cmp) {l:List α} (ha:∀ x∈l,∀ y∈l,¬ cmp x y<0->¬ cmp y x<0->x=y):l.foldl (eZ fun a b=>decide (cmp a b<0)) []=ni cmp l:=
 h.unique ha (by have:=DQ (less:=fun a b=>decide (cmp a b<0)) (l:=l) (acc:=[]);rwa [List.append_nil] at this) (SQ h .nil)
theorem GW {α:Type} {less:α->α->Bool} {u b:α} {A B:List α} (h:less u b=true):eZ less (A++[b]) u++B=eZ less A u++(b::B):=by unfold eZ;rw [List.reverse_append,List.reverse_singleton,List.singleton_append,vD,if_pos h,List.reverse_cons,List.append_assoc];rfl
theorem GX {α:Type} {less:α->α->Bool} {u b:α} {A B:List α} (h:less u b=false):eZ less (A++[b]) u++B=A++b::u::B:=by unfold eZ;rw [List.reverse_append,List.reverse_singleton,List.singleton_append,vD,if_neg (by rw [h];decide),List.reverse_cons,List.reverse_cons,List.reverse_reverse,List.append_assoc,List.append_assoc];rfl
end Go.Abs.Wall
namespace Go.Abs.Wall
open Go Go.Abs Go.Proofs
def c113:aw:=⟨[0,1,4],[],[],[],[],[]⟩
def c115:aw:=⟨[0,2],[],[],[],[],[]⟩
def c114:aw:=⟨[0,2],[],[],[],[],[]⟩
def c116:aw:=⟨[0,2],[],[],[],[],[]⟩
def c61:aw:=⟨[0,1,2,3,4,5,6,7,8,9,10,11,12,28,33,67,70,96,101,130,133,155,160,183,186,197],[],[4,6,8,11],[],[(24,[0,1,2,3,4,5,6,7,8,9,10,11,12,13,14,15,16,17,18,19],[]),(35,[0,1,2,3,4,5,6,7,8],[])],[]⟩
theorem Lk (s:List UInt8) (most:Int) (hs:s.length<=aq):ae Tryz.prog 113 [.str s,.int .i64 most] [] (.bool (nN s most)):=by
 refine aG (F:=Tryz.f113) c113 rfl rfl rfl mixed rfl fun X=>?_;(conv=>whnf);repeat (refine aX (Rs s hs) ?_;conv=>whnf)
 refine ⟨congrArg AV.bool ?_,rfl⟩;unfold nN;rw [Bool.and_comm (s.all sP)];rfl
theorem Ll (s:List UInt8) (hs:s.length<=aq):ae Tryz.prog 115 [.str s] [] (.bool (rn s)):=by
 refine aG (F:=Tryz.f115) c115 rfl rfl rfl mixed rfl fun X=>?_;(conv=>whnf);repeat (refine aX (Rr s hs) ?_;conv=>whnf)
 refine ⟨congrArg AV.bool ?_,rfl⟩;unfold rn;rw [Bool.and_comm (s.all small)]
theorem SR (n:Int):ae Tryz.prog 114 [.int .i64 n] [] (.bool (bG n 1 9)):=by refine aG (F:=Tryz.f114) c114 rfl rfl rfl mixed rfl fun X=>?_;(conv=>whnf);skip;exact ⟨rfl,rfl⟩
theorem Lm (n:Int):ae Tryz.prog 116 [.int .i64 n] [] (.bool (bG n 0 1000)):=by refine aG (F:=Tryz.f116) c116 rfl rfl rfl mixed rfl fun X=>?_;(conv=>whnf);skip;exact ⟨rfl,rfl⟩
def Gk (w:kB):Bool:=!nN w.root 8||!bG w.kind 1 9||(!decide (w.cls=[])&&!rn w.cls)||!bG w.weight 0 1000
def Gl (w:lp):Bool:=!bG w.kind 1 9||!nN w.text 4||!rn w.name||!bG w.weight 0 1000
def Gm (w:iO):Bool:=!nN w.text 4||!rn w.name||!bG w.weight 0 1000
theorem Below.none {α:Type} {p:α->Bool} {l:List α} {i:Nat} (h:Below p l i):(l.take i).any p=false:=by
 rw [List.any_eq_false];intro y hy;obtain ⟨j,hj⟩:=List.mem_iff_getElem?.1 hy;rw [List.getElem?_take] at hj;split at hj
 ·rename_i h1;rw [h j y h1 hj];decide
 cases hj
theorem Ln {α:Type} {p:α->Bool} {l:List α} {i k:Nat} {y:α} (hk:k<i) (hy:l[k]?=some y) (hp:p y=true):(l.take i).any p=true:=by rw [List.any_eq_true];exact ⟨y,List.mem_of_getElem? (i:=k) (by rw [List.getElem?_take,if_pos hk,hy]),hp⟩
set_option maxHeartbeats 2000000 in
theorem SS (x:Lex) (hx:rh x):ae Tryz.prog 61 [.agg (eV x)] [] (.int .i64 (gN x)):=by
 have pW:=hx.entries;have ee:=hx.bL;have uU:=hx.ah;unfold aq at pW ee uU;refine aG (F:=Tryz.f61) c61 rfl rfl rfl mixed rfl fun X=>?_;(conv=>whnf);skip;refine ⟨fun hc=>?_,fun hc=>?_⟩
 ·have hc:(decide (200<((x.entries.map fu).length:Int))||decide (40<((x.bL.map iL).length:Int))||decide (10<((x.ah.map gI).length:Int)))=true:=hc;simp [or_assoc] at hc;(conv=>whnf);exact ⟨by rw [gN,if_pos (by omega)],rfl⟩
 have hc:(decide (200<((x.entries.map fu).length:Int))||decide (40<((x.bL.map iL).length:Int))||decide (10<((x.ah.map gI).length:Int)))=false:=hc;simp at hc;have h0:gN x=if jS rp x.entries=true then 45 else if jS pH x.bL=true then 46 else if jS nO x.ah=true then 47 else 0:=(by rw [gN,if_neg (by omega)]);(conv=>whnf);skip;refine bM rfl mixed [1,3] [] (fun m r h=>∃ (i:Nat),r=[(1,[],.au (eV x)),(3,[],.int .i64 i)]/\h=[]/\m=x.entries.length - i/\i<=x.entries.length/\jS rp x.entries=jR rp x.entries (x.entries.drop i) i) ?_ ?_
 ·(conv=>whnf);exact ⟨_,0,rfl,rfl,rfl,by omega,rfl⟩
 rintro m r h ⟨i,rfl,rfl,rfl,hi,hb⟩;(conv=>whnf);skip;refine ⟨fun he=>?_,fun he=>?_⟩<;>simp at he
 ·obtain ⟨w,hw⟩:=aN he;have hm:=List.mem_of_getElem? hw;rw [drop_cons hw,jR] at hb;(conv=>whnf);repeat ((first|refine ix (by assumption) ?_|refine ae.k0 (Lk w.root 8 (hx.dv w hm).root) ?_|refine aX (SR _) ?_|refine aX (Ll w.cls (hx.dv w hm).cls) ?_|refine aX (Lm _) ?_|refine ⟨_,_,aK.here _,⟨Nat.le_of_ble_eq_true rfl,rfl⟩,?_⟩|intro (nb:Nat));conv=>whnf)
  refine ⟨fun hd=>?_,fun hd=>?_⟩
  ·have hd:Gk w=true:=hd;have hd:rp (x.entries.take i) w=true:=by show (Gk w||(x.entries.take i).any (vz w))=true;rw [hd];rfl
   rw [hd,Bool.true_or] at hb;(conv=>whnf);exact ⟨by rw [h0,if_pos hb],rfl⟩
  have hd:Gk w=false:=hd;have hd:rp (x.entries.take i) w=(x.entries.take i).any (vz w):=by show (Gk w||(x.entries.take i).any (vz w))=_;rw [hd];rfl
  rw [hd] at hb;(conv=>whnf);skip;refine bM rfl mixed [1,3,4,5] [] (fun m r h=>∃ (k:Nat),r=[(1,[],.au (eV x)),(3,[],.int .i64 i),(4,[],.au (fu w)),(5,[],.int .i64 k)]/\h=[]/\m=i - k/\k<=i/\Below (vz w) x.entries k) ?_ ?_
  ·(conv=>whnf);exact ⟨_,0,rfl,rfl,rfl,by omega,.zero⟩
  rintro m r h ⟨k,rfl,rfl,rfl,hk,hg⟩;(conv=>whnf);refine ⟨fun bo=>?_,fun bo=>?_⟩<;>simp at bo
  ·obtain ⟨v,hv⟩:=aN (l:=x.entries) (i:=k) (by omega);(conv=>whnf);repeat ((first|refine ix (by assumption) ?_|refine ⟨_,_,aK.here _,⟨Nat.le_of_ble_eq_true rfl,rfl⟩,?_⟩|intro (nb:Nat));conv=>whnf)
   refine ⟨fun hq=>?_,fun hq=>?_⟩
   ·have hq:vz w v=true:=hq;rw [Ln bo hv hq,Bool.true_or] at hb;(conv=>whnf);exact ⟨by rw [h0,if_pos hb],rfl⟩
   have hq:vz w v=false:=hq;(conv=>whnf);repeat (refine ⟨af ⟨by omega,by omega⟩,?_⟩;conv=>whnf)
   exact ⟨_,by omega,k+1,rfl,rfl,rfl,by omega,hg.succ hv hq⟩
  have yM:k=i:=(by omega);subst yM;rw [hg.none,Bool.false_or] at hb;(conv=>whnf);repeat (refine ⟨af ⟨by omega,by omega⟩,?_⟩;conv=>whnf)
  exact ⟨_,by omega,k+1,rfl,rfl,rfl,by omega,hb⟩
 rw [drop_nil he,jR] at hb;have h1:gN x=if jS pH x.bL=true then 46 else if jS nO x.ah=true then 47 else 0:=(by rw [h0,if_neg (by rw [hb];decide)]);(conv=>whnf);skip;refine bM rfl mixed [1,7] [] (fun m r h=>∃ (i:Nat),r=[(1,[],.au (eV x)),(7,[],.int .i64 i)]/\h=[]/\m=x.bL.length - i/\i<=x.bL.length/\jS pH x.bL=jR pH x.bL (x.bL.drop i) i) ?_ ?_
 ·(conv=>whnf);exact ⟨_,0,rfl,rfl,rfl,by omega,rfl⟩
 rintro m r h ⟨i,rfl,rfl,rfl,hi,hb⟩;(conv=>whnf);skip;refine ⟨fun he=>?_,fun he=>?_⟩<;>simp at he
 ·obtain ⟨w,hw⟩:=aN he;have hm:=List.mem_of_getElem? hw;rw [drop_cons hw,jR] at hb;(conv=>whnf);repeat ((first|refine ix (by assumption) ?_|refine aX (Lk w.text 4 (hx.AB w hm).text) ?_|refine ae.k0 (SR _) ?_|refine aX (Ll w.name (hx.AB w hm).name) ?_|refine aX (Lm _) ?_|refine ⟨_,_,aK.here _,⟨Nat.le_of_ble_eq_true rfl,rfl⟩,?_⟩|intro (nb:Nat));conv=>whnf)
  refine ⟨fun hd=>?_,fun hd=>?_⟩
  ·have hd:Gl w=true:=hd;have hd:pH (x.bL.take i) w=true:=by show (Gl w||(x.bL.take i).any (vA w))=true;rw [hd];rfl
   rw [hd,Bool.true_or] at hb;(conv=>whnf);exact ⟨by rw [h1,if_pos hb],rfl⟩
  have hd:Gl w=false:=hd;have hd:pH (x.bL.take i) w=(x.bL.take i).any (vA w):=by show (Gl w||(x.bL.take i).any (vA w))=_;rw [hd];rfl
  rw [hd] at hb;(conv=>whnf);skip;refine bM rfl mixed [1,7,8,9] [] (fun m r h=>∃ (k:Nat),r=[(1,[],.au (eV x)),(7,[],.int .i64 i),(8,[],.au (iL w)),(9,[],.int .i64 k)]/\h=[]/\m=i - k/\k<=i/\Below (vA w) x.bL k) ?_ ?_
  ·(conv=>whnf);exact ⟨_,0,rfl,rfl,rfl,by omega,.zero⟩
  rintro m r h ⟨k,rfl,rfl,rfl,hk,hg⟩;(conv=>whnf);refine ⟨fun bo=>?_,fun bo=>?_⟩<;>simp at bo
  ·obtain ⟨v,hv⟩:=aN (l:=x.bL) (i:=k) (by omega);(conv=>whnf);repeat ((first|refine ix (by assumption) ?_|refine And.intro (by show aJ (aH Tryz.f61 _) _=true;decide +kernel) ?_);conv=>whnf)
   refine ⟨fun hq=>?_,fun hq=>?_⟩
   ·have hq:vA w v=true:=hq;rw [Ln bo hv hq,Bool.true_or] at hb;(conv=>whnf);exact ⟨by rw [h1,if_pos hb],rfl⟩
   have hq:vA w v=false:=hq;(conv=>whnf);repeat (refine ⟨af ⟨by omega,by omega⟩,?_⟩;conv=>whnf)
   exact ⟨_,by omega,k+1,rfl,rfl,rfl,by omega,hg.succ hv hq⟩
  have yM:k=i:=(by omega);subst yM;rw [hg.none,Bool.false_or] at hb;(conv=>whnf);repeat (refine ⟨af ⟨by omega,by omega⟩,?_⟩;conv=>whnf)
  exact ⟨_,by omega,k+1,rfl,rfl,rfl,by omega,hb⟩
 rw [drop_nil he,jR] at hb;have h2:gN x=if jS nO x.ah=true then 47 else 0:=(by rw [h1,if_neg (by rw [hb];decide)]);(conv=>whnf);skip;refine bM rfl mixed [1,10] [] (fun m r h=>∃ (i:Nat),r=[(1,[],.au (eV x)),(10,[],.int .i64 i)]/\h=[]/\m=x.ah.length - i/\i<=x.ah.length/\jS nO x.ah=jR nO x.ah (x.ah.drop i) i) ?_ ?_
 ·(conv=>whnf);exact ⟨_,0,rfl,rfl,rfl,by omega,rfl⟩
 rintro m r h ⟨i,rfl,rfl,rfl,hi,hb⟩;(conv=>whnf);skip;refine ⟨fun he=>?_,fun he=>?_⟩<;>simp at he
 ·obtain ⟨w,hw⟩:=aN he;have hm:=List.mem_of_getElem? hw;rw [drop_cons hw,jR] at hb;(conv=>whnf);repeat ((first|refine ix (by assumption) ?_|refine ae.k0 (Lk w.text 4 (hx.dO w hm).text) ?_|refine aX (Ll w.name (hx.dO w hm).name) ?_|refine aX (Lm _) ?_|refine ⟨_,_,aK.here _,⟨Nat.le_of_ble_eq_true rfl,rfl⟩,?_⟩|intro (nb:Nat));conv=>whnf)
  refine ⟨fun hd=>?_,fun hd=>?_⟩
  ·have hd:Gm w=true:=hd;have hd:nO (x.ah.take i) w=true:=by show (Gm w||(x.ah.take i).any (vB w))=true;rw [hd];rfl
   rw [hd,Bool.true_or] at hb;(conv=>whnf);exact ⟨by rw [h2,if_pos hb],rfl⟩
  have hd:Gm w=false:=hd;have hd:nO (x.ah.take i) w=(x.ah.take i).any (vB w):=by show (Gm w||(x.ah.take i).any (vB w))=_;rw [hd];rfl
  rw [hd] at hb;(conv=>whnf);skip;refine bM rfl mixed [1,10,11,12] [] (fun m r h=>∃ (k:Nat),r=[(1,[],.au (eV x)),(10,[],.int .i64 i),(11,[],.au (gI w)),(12,[],.int .i64 k)]/\h=[]/\m=i - k/\k<=i/\Below (vB w) x.ah k) ?_ ?_
  ·(conv=>whnf);exact ⟨_,0,rfl,rfl,rfl,by omega,.zero⟩
  rintro m r h ⟨k,rfl,rfl,rfl,hk,hg⟩;(conv=>whnf);refine ⟨fun bo=>?_,fun bo=>?_⟩<;>simp at bo
  ·obtain ⟨v,hv⟩:=aN (l:=x.ah) (i:=k) (by omega);(conv=>whnf);repeat ((first|refine ix (by assumption) ?_|refine And.intro (by show aJ (aH Tryz.f61 _) _=true;decide +kernel) ?_);conv=>whnf)
   refine ⟨fun hq=>?_,fun hq=>?_⟩
   ·have hq:vB w v=true:=hq;rw [Ln bo hv hq,Bool.true_or] at hb;(conv=>whnf);exact ⟨by rw [h2,if_pos hb],rfl⟩
   have hq:vB w v=false:=hq;(conv=>whnf);repeat (refine ⟨af ⟨by omega,by omega⟩,?_⟩;conv=>whnf)
   exact ⟨_,by omega,k+1,rfl,rfl,rfl,by omega,hg.succ hv hq⟩
  have yM:k=i:=(by omega);subst yM;rw [hg.none,Bool.false_or] at hb;(conv=>whnf);repeat (refine ⟨af ⟨by omega,by omega⟩,?_⟩;conv=>whnf)
  exact ⟨_,by omega,k+1,rfl,rfl,rfl,by omega,hb⟩
 rw [drop_nil he,jR] at hb;have h3:gN x=0:=(by rw [h2,if_neg (by rw [hb];decide)]);(conv=>whnf);exact ⟨by rw [h3],rfl⟩
end Go.Abs.Wall
namespace Go.Abs.Wall
open Go Go.Abs Go.Proofs
def c107:aw:=⟨[0,1,2,3,4,5,6,10,22,55,59,64,101],[],[],[],[(6,[0,1,2,3,4,5,6,7,8,9,10,11,12,13,14,15,16,17,18,19,20,21,22,23,24,25,26,27,28,29,30,31,32],[]),(13,[0,1,2,3,4,5,6,7,8,9,10,11,12,13,14,15,16,17,18,19,20,21,22,23,24,25,26,27,28,29,30,31,32,33,34],[])],[]⟩
def c166:aw:=⟨[0,1,2,3,4,5,6,16,30],[],[],[],[(7,[0,1,2,3,4,5,6,7,8,9,10,11,12],[])],[]⟩
def c108:aw:=⟨[0,1,2,3,4,5,6,11],[],[],[],[],[]⟩
def yS (l:List Int) (i:Nat):Int:=if i=0 then -1 else l.getD ((i:Int) - 1).toNat 0
theorem F1 {l:List Int} {i:Nat} {c:Int} (h:l[i]?=some c):yS l (i+1)=c:=by unfold yS;rw [if_neg (by omega),show (((i+1:Nat):Int) - 1).toNat=i by omega,List.getD_eq_getElem?_getD,h];rfl
theorem F2 (x:Lex) (f:bc) (hx:rh x) (hf:f.ah.length<=aq):ae Tryz.prog 107 [.agg (eV x),.agg (dm f)] [] (.int .i64 (dT x f)):=by
 have pW:=hx.entries;have ee:=hx.bL;have uU:=hx.ah;unfold aq at pW ee uU hf;refine aG (F:=Tryz.f107) c107 rfl rfl rfl mixed rfl fun X=>?_;(conv=>whnf);repeat (refine ae.k0 (SS x hx) ?_;conv=>whnf)
 refine ⟨fun hc=>?_,fun hc=>?_⟩<;>simp at hc
 ·(conv=>whnf);skip;exact ⟨by rw [dT,if_pos hc],rfl⟩
 (conv=>whnf);skip;refine ⟨fun hd=>?_,fun hd=>?_⟩
 ·have hd:(decide (f.entry<0)||decide (((x.entries.map fu).length:Int)<=f.entry))=true:=hd;rw [List.length_map,Bool.or_eq_true,decide_eq_true_eq,decide_eq_true_eq] at hd;have hw:bG f.entry 0 ((x.entries.length:Int) - 1)=false:=by rw [<- Bool.not_eq_true,dS];omega
  (conv=>whnf);exact ⟨by rw [dT,if_neg (by omega),if_pos hw],rfl⟩
 have hd:(decide (f.entry<0)||decide (((x.entries.map fu).length:Int)<=f.entry))=false:=hd;rw [List.length_map,Bool.or_eq_false_iff,decide_eq_false_iff_not,decide_eq_false_iff_not] at hd;have hw:bG f.entry 0 ((x.entries.length:Int) - 1)=true:=by rw [dS];omega
 (conv=>whnf);repeat ((first|(refine qQ (⟨0,[],[],0⟩:lp) ?_ ?_;(focus (conv=>whnf;skip));(focus (intro g0 g1;simp at g0 g1;show 0<=_/\_<_;omega)))|(refine qQ (⟨[],0,[],0⟩:kB) ?_ ?_;(focus (conv=>whnf;skip));(focus (intro g0 g1;show 0<=_/\_<_;omega)))|refine And.intro (by show aJ (aH Tryz.f107 _) _=true;decide +kernel) ?_);conv=>whnf)
 refine ⟨fun he=>?_,fun he=>?_⟩
 ·have he:(decide (f.ending < -1)||decide (((x.bL.map iL).length:Int)<=f.ending)||(decide (0<=f.ending)&&!decide ((gT x f.ending).kind=(cd x f.entry).kind)))=true:=he;rw [List.length_map] at he
  have hb:sd x f=true:=by
   unfold sd bG;simp only [Bool.or_eq_true,Bool.and_eq_true,Bool.not_eq_true',decide_eq_true_eq,decide_eq_false_iff_not,Bool.and_eq_false_iff] at he ⊢;rcases he with (he|he)|he
   ·exact ⟨by omega,.inl (.inl (by omega))⟩
   ·exact ⟨by omega,.inl (.inr (by omega))⟩
   exact ⟨by omega,.inr he.2⟩
  (conv=>whnf);exact ⟨by rw [dT,if_neg (by omega),if_neg (by rw [hw];decide),if_pos hb],rfl⟩
 have he:(decide (f.ending < -1)||decide (((x.bL.map iL).length:Int)<=f.ending)||(decide (0<=f.ending)&&!decide ((gT x f.ending).kind=(cd x f.entry).kind)))=false:=he;rw [List.length_map] at he
 have hb:sd x f=false:=by
  unfold sd bG;simp only [Bool.or_eq_false_iff,Bool.and_eq_false_iff,Bool.not_eq_false',decide_eq_true_eq,decide_eq_false_iff_not,Bool.and_eq_true] at he ⊢;obtain ⟨⟨h1,h2⟩,h3⟩:=he;by_cases h4:f.ending = -1
  ·exact .inl h4
  exact .inr ⟨⟨by omega,by omega⟩,by rcases h3 with h3|h3;omega;exact h3⟩
 (conv=>whnf);skip;refine ⟨fun h3=>?_,fun h3=>?_⟩<;>simp at h3
 ·(conv=>whnf);exact ⟨by rw [dT,if_neg (by omega),if_neg (by rw [hw];decide),if_neg (by rw [hb];decide),if_pos (by omega)],rfl⟩
 have hg:dT x f=if iz x.ah.length f.ah (-1)=true then 0 else 47:=(by rw [dT,if_neg (by omega),if_neg (by rw [hw];decide),if_neg (by rw [hb];decide),if_neg (by omega)]);(conv=>whnf);skip;refine bM rfl mixed [2,3,6] [] (fun m r h=>∃ (i:Nat),r=[(2,[],.au (eV x)),(3,[],.au (dm f)),(6,[],.int .i64 i)]/\h=[]/\m=f.ah.length - i/\i<=f.ah.length/\-1<=yS f.ah i/\iz x.ah.length f.ah (-1)=iz x.ah.length (f.ah.drop i) (yS f.ah i)) ?_ ?_
 ·(conv=>whnf);exact ⟨_,0,rfl,rfl,rfl,by omega,by simp [yS],rfl⟩
 rintro m r h ⟨i,rfl,rfl,rfl,hi,hl,cJ⟩;(conv=>whnf);skip;refine ⟨fun aD=>?_,fun aD=>?_⟩<;>simp at aD
 ·obtain ⟨c,hc⟩:=aN aD;rw [drop_cons hc,iz] at cJ;have kI:=F1 hc;(conv=>whnf);repeat ((first|refine ⟨af ⟨by omega,by omega⟩,?_⟩|refine ix (by assumption) ?_|(refine qQ (enc:=fun y:Int=>[AV.int .i64 y]) (0:Int) ?_ ?_;(focus (conv=>whnf;skip));(focus (intro g0 g1;simp at g0 g1;show 0<=_/\_<_;omega)))|refine And.intro (by show aJ (aH Tryz.f107 _) _=true;decide +kernel) ?_);conv=>whnf)
  have hz:(decide (c<0)||decide (((x.ah.map gI).length:Int)<=c)||(decide (0<(i:Int))&&decide (c<=f.ah.getD ((i:Int) - 1).toNat 0)))=(decide (c<=yS f.ah i)||decide ((x.ah.length:Int)<=c)):=by
   rw [List.length_map,Bool.eq_iff_iff];simp only [Bool.or_eq_true,Bool.and_eq_true,decide_eq_true_eq];unfold yS at hl ⊢;split
   ·rename_i h0;rw [if_pos h0] at hl;omega
   rename_i h0;rw [if_neg h0] at hl;omega
  refine ⟨fun hq=>?_,fun hq=>?_⟩
  ·have hq:=hz.symm.trans hq;rw [hq] at cJ;(conv=>whnf);exact ⟨by rw [hg,cJ];rfl,rfl⟩
  have hq:=hz.symm.trans hq;rw [hq] at cJ;simp only [Bool.or_eq_false_iff,decide_eq_false_iff_not] at hq;(conv=>whnf);repeat (refine ⟨af ⟨by omega,by omega⟩,?_⟩;conv=>whnf)
  exact ⟨_,by omega,i+1,rfl,rfl,rfl,by omega,by rw [kI];omega,by rw [kI,cJ];rfl⟩
 rw [drop_nil aD,iz] at cJ;(conv=>whnf);skip;exact ⟨by rw [hg,cJ];rfl,rfl⟩
theorem F3 (x:Lex) (f:bc) (h:kL x f):ae Tryz.prog 166 [.agg (eV x),.agg (dm f)] [] (.int .i64 (mQ x f)):=by
 have dI:=h.bE;have r6:=(h.lex.cd h.entry.1 h.entry.2).weight;refine aG (F:=Tryz.f166) c166 rfl rfl rfl mixed rfl fun X=>?_;(conv=>whnf);repeat ((refine cj f.entry.toNat (by have:=h.entry;omega) (oB h.entry.1 h.entry.2) ?_);conv=>whnf)
 refine ⟨fun he=>?_,fun he=>?_⟩<;>simp at he
 ·have jf:f.ending<x.bL.length:=by rcases h.ending with h|h<;>omega
  have pb:=(h.lex.gT he jf).weight;(conv=>whnf);repeat ((first|refine ⟨af ⟨by omega,by omega⟩,?_⟩|(refine cj f.ending.toNat (by omega) (AD he jf) ?_));conv=>whnf)
  obtain ⟨n0,fy⟩:∃ n:Int,n=(cd x f.entry).weight+(gT x f.ending).weight:=⟨_,rfl⟩;rw [<- fy];have jh:n0=(cd x f.entry).weight+(if 0<=f.ending then (gT x f.ending).weight else 0):=by rw [if_pos he];exact fy
  replace fy:=jh;refine bM rfl mixed [2,3,5,6] [] (fun m r h=>∃ (i:Nat) (n:Int),r=[(2,[],.au (eV x)),(3,[],.au (dm f)),(5,[],.int .i64 n),(6,[],.int .i64 i)]/\h=[]/\m=f.ah.length - i/\i<=f.ah.length/\n=n0+nP x (f.ah.take i)) ?_ ?_
  ·(conv=>whnf);exact ⟨_,0,n0,rfl,rfl,rfl,by omega,by simp [nP]⟩
  rintro m r h ⟨i,n,rfl,rfl,rfl,hi,hn⟩;(conv=>whnf);skip;refine ⟨fun aD=>?_,fun aD=>?_⟩<;>simp at aD
  ·obtain ⟨c,hc⟩:=aN aD;have bA:=h.dO c (List.mem_of_getElem? hc);have dw:=(h.lex.cE bA.1 bA.2).weight;have hb:=AE h.lex (l:=f.ah.take i) fun d hd=>h.dO d (List.mem_of_mem_take hd);rw [List.length_take] at hb;have hs:=dg hc;(conv=>whnf);repeat ((first|refine ⟨af ⟨by omega,by omega⟩,?_⟩|refine ix (by assumption) ?_|(refine cj c.toNat (by omega) (kM bA.1 bA.2) ?_)|refine And.intro (by show aJ (aH Tryz.f166 _) _=true;decide +kernel) ?_);conv=>whnf)
   exact ⟨_,by omega,i+1,_,rfl,rfl,rfl,by omega,by rw [hs,FX];omega⟩
  rw [List.take_of_length_le aD] at hn;(conv=>whnf);skip;refine ⟨congrArg (AV.int .i64) ?_,rfl⟩;rw [hn,fy];rfl
 (conv=>whnf);skip;obtain ⟨n0,fy⟩:∃ n:Int,n=(cd x f.entry).weight:=⟨_,rfl⟩;rw [<- fy];have jh:n0=(cd x f.entry).weight+(if 0<=f.ending then (gT x f.ending).weight else 0):=by rw [if_neg (by omega)];omega
 replace fy:=jh;refine bM rfl mixed [2,3,5,6] [] (fun m r h=>∃ (i:Nat) (n:Int),r=[(2,[],.au (eV x)),(3,[],.au (dm f)),(5,[],.int .i64 n),(6,[],.int .i64 i)]/\h=[]/\m=f.ah.length - i/\i<=f.ah.length/\n=n0+nP x (f.ah.take i)) ?_ ?_
 ·(conv=>whnf);exact ⟨_,0,n0,rfl,rfl,rfl,by omega,by simp [nP]⟩
 rintro m r h ⟨i,n,rfl,rfl,rfl,hi,hn⟩;(conv=>whnf);skip;refine ⟨fun aD=>?_,fun aD=>?_⟩<;>simp at aD
 ·obtain ⟨c,hc⟩:=aN aD;have bA:=h.dO c (List.mem_of_getElem? hc);have dw:=(h.lex.cE bA.1 bA.2).weight;have hb:=AE h.lex (l:=f.ah.take i) fun d hd=>h.dO d (List.mem_of_mem_take hd);rw [List.length_take] at hb;have hs:=dg hc;(conv=>whnf);repeat ((first|refine ⟨af ⟨by omega,by omega⟩,?_⟩|refine ix (by assumption) ?_|(refine cj c.toNat (by omega) (kM bA.1 bA.2) ?_)|refine And.intro (by show aJ (aH Tryz.f166 _) _=true;decide +kernel) ?_);conv=>whnf)
  exact ⟨_,by omega,i+1,_,rfl,rfl,rfl,by omega,by rw [hs,FX];omega⟩
 rw [List.take_of_length_le aD] at hn;(conv=>whnf);skip;refine ⟨congrArg (AV.int .i64) ?_,rfl⟩;rw [hn,fy];rfl
theorem F4 (x:Lex) (f:bc) (hx:rh x) (hf:f.ah.length<=aq):ae Tryz.prog 108 [.agg (eV x),.agg (dm f)] [] (.aQ [.int .i64 (if dT x f=0 then mQ x f else 0),.int .i64 (dT x f)]):=by
 refine aG (F:=Tryz.f108) c108 rfl rfl rfl mixed rfl fun X=>?_;(conv=>whnf);repeat (refine ae.k0 (F2 x f hx hf) ?_;conv=>whnf)
 refine ⟨fun hc=>?_,fun hc=>?_⟩<;>simp at hc
 ·(conv=>whnf);skip;exact ⟨by rw [if_neg hc],rfl⟩
 (conv=>whnf);repeat (refine ae.k0 (F3 x f (mG hc)) ?_;conv=>whnf)
 exact ⟨by rw [if_pos hc,hc],rfl⟩
end Go.Abs.Wall
namespace Go.Abs.Wall
open Go Go.Abs Go.Proofs
def c25:aw:=⟨[0,1,2,3,4,5,7,12,18,32,33,34,35,43,55],[],[5],[],[],[]⟩
def c130:aw:=⟨[0,1,2,4,5,8,12,29],[],[],[],[(6,[0,1,2,3,4,5,6,7,8,9,10,11,12,13,14],[])],[]⟩
def c250:aw:=⟨[0,1,2,3,4,9],[],[],[],[],[]⟩
def c232:aw:=⟨[0,1,3,4,5,6,10,18,40],[],[],[],[(4,[0,1,2,3,4,5],[]),(8,[0,1,2,3,4,5,6,7,8,9,10,11,12,13],[]),(10,[0,1,2,3,4,5,6,7,8,9,10,11,12,13,14,15,16,17],[])],[]⟩
def c260:aw:=⟨[0,1,2,4,5,6,11,31],[],[],[],[],[]⟩
def c231:aw:=⟨[0,1,2,3,6,7,8,12,22,30],[],[],[],[],[]⟩
def c175:aw:=⟨[0,1,2,4,5,7,8,9,22,34,35,44,50],[],[],[],[],[]⟩
theorem TZ (H:ax) (hh:eP H):ae Tryz.prog 25 [.agg (bJ H)] [] (.int .i64 (eG H)):=by
 refine aG (F:=Tryz.f25) c25 rfl rfl rfl mixed rfl fun X=>?_;(conv=>whnf);repeat (refine ae.k0 (Ru H.list hh.list) ?_;conv=>whnf)
 refine ⟨fun hc=>?_,fun hc=>?_⟩<;>simp at hc
 ·(conv=>whnf);skip;exact ⟨by rw [eG,if_pos hc],rfl⟩
 (conv=>whnf);repeat (refine ae.k0 (SS H.lex hh.lex) ?_;conv=>whnf)
 refine ⟨fun hd=>?_,fun hd=>?_⟩<;>simp at hd
 ·(conv=>whnf);skip;exact ⟨by rw [eG,if_neg (by omega),if_pos hd],rfl⟩
 have h0:eG H=if (iB H.cq).all (bG · 0 1000)=false then 50 else if bG H.period 1 H.list.iD=false then 13 else 0:=(by rw [eG,if_neg (by omega),if_neg (by omega)]);(conv=>whnf);repeat ((first|refine ⟨_,_,aK.here _,⟨Nat.le_of_ble_eq_true rfl,rfl⟩,?_⟩|intro (nb:Nat));conv=>whnf)
 refine bM rfl mixed [1,32,33,34] [] (fun m r h=>∃ (i:Nat),r=[(1,[],.au (bJ H)),(32,[],.sl 1 none (ints (iB H.cq))),(33,[],.int .i64 5),(34,[],.int .i64 i)]/\h=[]/\m=5 - i/\i<=5/\(iB H.cq).all (bG · 0 1000)=((iB H.cq).drop i).all (bG · 0 1000)) ?_ ?_
 ·(conv=>whnf);exact ⟨_,0,rfl,rfl,rfl,by omega,rfl⟩
 rintro m r h ⟨i,rfl,rfl,rfl,hi,ha⟩;(conv=>whnf);refine ⟨fun he=>?_,fun he=>?_⟩<;>simp at he
 ·obtain ⟨c,hc⟩:=aN (l:=iB H.cq) (i:=i) (by simp [iB];omega);rw [drop_cons hc,List.all_cons] at ha;(conv=>whnf);repeat (refine ix (by assumption) ?_;conv=>whnf)
  refine ⟨fun hq=>?_,fun hq=>?_⟩
  ·have hq:(decide (c<0)||decide (1000<c))=true:=hq;have hw:bG c 0 1000=false:=by rw [<- Bool.not_eq_true,dS];simp at hq;omega
   rw [hw,Bool.false_and] at ha;(conv=>whnf);skip;exact ⟨by rw [h0,if_pos ha],rfl⟩
  have hq:(decide (c<0)||decide (1000<c))=false:=hq;have hw:bG c 0 1000=true:=by rw [dS];simp at hq;omega
  rw [hw,Bool.true_and] at ha;(conv=>whnf);repeat (refine ⟨af ⟨by omega,by omega⟩,?_⟩;conv=>whnf)
  exact ⟨_,by omega,i+1,rfl,rfl,rfl,by omega,ha⟩
 rw [drop_nil (by simp [iB];omega)] at ha;have h1:eG H=if bG H.period 1 H.list.iD=false then 13 else 0:=(by rw [h0,if_neg (by rw [ha];decide)]);(conv=>whnf);skip;refine ⟨fun hq=>?_,fun hq=>?_⟩
 ·have hq:(decide (H.period<1)||decide (H.list.iD<H.period))=true:=hq;have hw:bG H.period 1 H.list.iD=false:=by rw [<- Bool.not_eq_true,dS];simp at hq;omega
  (conv=>whnf);exact ⟨by rw [h1,if_pos hw],rfl⟩
 have hq:(decide (H.period<1)||decide (H.list.iD<H.period))=false:=hq;have hw:bG H.period 1 H.list.iD=true:=by rw [dS];simp at hq;omega
 (conv=>whnf);exact ⟨by rw [h1,if_neg (by rw [hw];decide)],rfl⟩
def Ak (l:Lst) (line:List Int):Int:=if 60<line.length then 2 else if line.any (fun s=>!bG s 0 ((l.aB.length:Int) - 1))=true then 23 else 0
theorem F5 (l:Lst) (line:List Int) (hh:yJ l) (hl:line.length<=aq):ae Tryz.prog 130 [.agg (pG l),.sl 1 none (ints line)] [] (.int .i64 (Ak l line)):=by
 unfold aq at hl;refine aG (F:=Tryz.f130) c130 rfl rfl rfl mixed rfl fun X=>?_;(conv=>whnf);skip;refine ⟨fun hc=>?_,fun hc=>?_⟩<;>simp at hc
 ·(conv=>whnf);exact ⟨by rw [Ak,if_pos (by omega)],rfl⟩
 have h0:Ak l line=if line.any (fun s=>!bG s 0 ((l.aB.length:Int) - 1))=true then 23 else 0:=(by rw [Ak,if_neg (by omega)]);(conv=>whnf);skip;refine bM rfl mixed [1,2,5] [] (fun m r h=>∃ (i:Nat),r=[(1,[],.sl 1 none (ints line)),(2,[],.au (pG l)),(5,[],.int .i64 i)]/\h=[]/\m=line.length - i/\i<=line.length/\line.any (fun s=>!bG s 0 ((l.aB.length:Int) - 1))=(line.drop i).any (fun s=>!bG s 0 ((l.aB.length:Int) - 1))) ?_ ?_
 ·(conv=>whnf);exact ⟨_,0,rfl,rfl,rfl,by omega,rfl⟩
 rintro m r h ⟨i,rfl,rfl,rfl,hi,ha⟩;(conv=>whnf);skip;refine ⟨fun he=>?_,fun he=>?_⟩<;>simp at he
 ·obtain ⟨c,hc⟩:=aN he;rw [drop_cons hc,List.any_cons] at ha;(conv=>whnf);repeat ((first|refine ix (by assumption) ?_|refine And.intro (by show aJ (aH Tryz.f130 _) _=true;decide +kernel) ?_);conv=>whnf)
  refine ⟨fun hq=>?_,fun hq=>?_⟩
  ·have hq:(decide (c<0)||decide (((l.aB.map jo).length:Int)<=c))=true:=hq;rw [List.length_map] at hq;have hw:bG c 0 ((l.aB.length:Int) - 1)=false:=by rw [<- Bool.not_eq_true,dS];simp at hq;omega
   rw [hw,Bool.not_false,Bool.true_or] at ha;(conv=>whnf);skip;exact ⟨by rw [h0,if_pos ha],rfl⟩
  have hq:(decide (c<0)||decide (((l.aB.map jo).length:Int)<=c))=false:=hq;rw [List.length_map] at hq;have hw:bG c 0 ((l.aB.length:Int) - 1)=true:=by rw [dS];simp at hq;omega
  rw [hw,Bool.not_true,Bool.false_or] at ha;(conv=>whnf);repeat (refine ⟨af ⟨by omega,by omega⟩,?_⟩;conv=>whnf)
  exact ⟨_,by omega,i+1,rfl,rfl,rfl,by omega,ha⟩
 rw [drop_nil he,List.any_nil] at ha;(conv=>whnf);skip;exact ⟨by rw [h0,if_neg (by rw [ha];decide)],rfl⟩
def mV (a b:ao):Bool:=decide (fl a b<0)
theorem Lo (a b:ao):ae Tryz.prog 250 [.agg (aT a),.agg (aT b)] [] (.bool (mV a b)):=by
 refine aG (F:=Tryz.f250) c250 rfl rfl rfl mixed rfl fun X=>?_;(conv=>whnf);skip;have hu:fl a b=if bN a.kind b.kind≠0 then bN a.kind b.kind else oF a.text b.text:=by unfold fl;rw [yN]
 refine ⟨fun hq=>?_,fun hq=>?_⟩<;>simp at hq
 ·(conv=>whnf);skip;refine ⟨congrArg AV.bool ?_,rfl⟩;unfold mV;rw [hu,if_pos (by rw [ne_eq,kT];exact hq),decide_eq_decide,sN]
 (conv=>whnf);skip;refine ⟨congrArg AV.bool ?_,rfl⟩;unfold mV;rw [hu,if_neg (by rw [ne_eq,kT];simpa using hq),bytesLess_eq,decide_eq_decide,Ay]
def lT (L:List ao) (u:ao):List ao:=if u∈L then L else eZ mV L u
theorem oH:∀ a:ao,(aT a).length=2:=fun _=>rfl
theorem GU {α:Type} {A B:List α} {u:α} {n:Nat} (h:A.length=n):(A++u::B)[n]?=some u:=by subst h;simp
theorem Lp {α:Type} {k:Nat} {enc:α->List AV} {L:List α} {b n:Nat} (hn:L.length=n) (aI:L≠[]):Row k enc L (.aR b 0 n k) [(b,.vec (L.map enc).flatten)]:=by subst hn;exact .inr ⟨aI,b,rfl,rfl⟩
theorem zj {α:Type} {L:List α} {m:Nat} (h0:0<m) (hm:m<=L.length):∃ b,L[m - 1]?=some b/\L.take m=L.take (m - 1)++[b]/\L.drop (m - 1)=b::L.drop m:=by
 obtain ⟨b,hb⟩:=aN (l:=L) (i:=m - 1) (by omega);refine ⟨b,hb,?_,?_⟩
 ·have:=dg hb;rwa [show m - 1+1=m by omega] at this
 have:=drop_cons hb;rwa [show m - 1+1=m by omega] at this
theorem GV {α:Type} {A B:List α} {b u:α} {m:Nat} (hA:A.length=m - 1) (h0:0<m):(((A++[b])++u::B).set m b).set (m - 1) u=A++u::b::B:=by rw [List.append_assoc];rw [List.set_append_right _ _ (by omega),List.set_append_right _ _ (by omega)];rw [hA,show m - (m - 1)=1 by omega,show m - 1 - (m - 1)=0 by omega];rfl
theorem Gn (L:List ao) (u:ao) (v:AV) (hp:ab) (hL:Row 2 aT L v hp) (hl:L.length+1<=aV) :
  ay Tryz.prog 232 [v,.agg (aT u)] hp (fun v' h'=>Row 2 aT (lT L u) v' h'):=by
 have fp:=hl;unfold aV at fp;rcases hL with ⟨eQ,rfl,rfl⟩|⟨aI,b,rfl,rfl⟩
 ·refine aG (F:=Tryz.f232) c232 rfl rfl rfl mixed rfl fun X=>?_;(conv=>whnf);refine xH 60 rfl mixed ?_;(conv=>whnf);refine .inr ?_;(conv=>whnf);skip;refine cF rfl ?_;(conv=>whnf);repeat ((first|(refine ⟨⟨Nat.le_of_ble_eq_true rfl,Nat.le_of_ble_eq_true rfl⟩,fun bb=>?_⟩)|(refine ⟨af ⟨by simp,by simp⟩,?_⟩));conv=>whnf)
  have eH:lT L u=eZ mV L u:=(by rw [lT,eQ,if_neg (by simp)]);have gy:(L++[u]).length=L.length+1:=(by simp);refine bM rfl mixed [0,6] [] (fun m r h=>∃ (i:Nat) (R:List ao),r=[(0,[],.aR bb 0 (L.length+1) 2),(6,[],.int .i64 i)]/\h=[(bb,.vec (R.map aT).flatten)]/\m=i/\i<=L.length/\R=L.take i++u::L.drop i/\eZ mV L u=eZ mV (L.take i) u++L.drop i) ?_ ?_
  ·(conv=>whnf);exact ⟨_,L.length,L++[u],by first|(rw [eQ];rfl)|simp,by first|(rw [eQ];rfl)|(rw [List.map_append,List.flatten_append];rfl),rfl,by omega,by simp,by simp⟩
  rintro m r h ⟨i,R,rfl,rfl,rfl,hi,hR,hb⟩;have tn:R.length=L.length+1:=by rw [hR];simp;omega
  have uw:R[m]?=some u:=by rw [hR];exact GU (by rw [List.length_take];omega)
  obtain ⟨pv,ka⟩:=aN (l:=R) (i:=((m:Int) - 1).toNat) (by omega);(conv=>whnf);repeat ((first|refine ⟨af ⟨by omega,by omega⟩,?_⟩|(refine iK (i:=m) (by omega) ?_)|(refine xI ?_ ?_;(focus (conv=>whnf;skip));(focus (intro g0;simp at g0;show 0<=_/\_<_;omega)))|(refine ft oH (.head _) (Nat.zero_add _) uw ?_)|(refine ft oH (.head _) (Nat.zero_add _) ka ?_)|refine aX (Lo u pv) ?_|refine And.intro (by show aJ (aH Tryz.f232 _) _=true;decide +kernel) ?_);conv=>whnf)
  refine ⟨fun hq=>?_,fun hq=>?_⟩
  ·have hq:(decide (0<(m:Int))&&mV u pv)=true:=hq;rw [Bool.and_eq_true,decide_eq_true_eq] at hq;obtain ⟨c,hc,h1,h2⟩:=zj (L:=L) (m:=m) (by omega) hi;have lZ:pv=c:=by rw [show ((m:Int) - 1).toNat=m - 1 by omega,hR,h1,List.append_assoc,List.getElem?_append_right (by rw [List.length_take];omega),List.length_take,show m - 1 - min (m - 1) L.length=0 by omega] at ka;exact (Option.some.inj ka).symm
   subst lZ;have Bk:R[m - 1]?=some pv:=(by rw [<- ka,show ((m:Int) - 1).toNat=m - 1 by omega]);have Bl:(R.set m pv).set (m - 1) u=L.take (m - 1)++u::L.drop (m - 1):=by rw [hR,h1,h2];exact GV (by rw [List.length_take];omega) (by omega)
   (conv=>whnf);repeat ((first|refine ⟨af ⟨by omega,by omega⟩,?_⟩|(refine iK (i:=m) (by omega) ?_)|(refine ⟨m - 1,af ⟨by omega,by omega⟩,?_⟩)|(refine ft oH (.head _) (Nat.zero_add _) uw ?_)|(refine ft oH (.head _) (Nat.zero_add _) Bk ?_)|(refine rM pv (by decide) oH (i:=m) (by omega) (Nat.zero_add _) rfl (.here _) ?_)|(refine rM u (by decide) oH (i:=m - 1) (by simp;omega) (Nat.zero_add _) rfl (.here _) ?_)|refine And.intro (by show aJ (aH Tryz.f232 _) _=true;decide +kernel) ?_);conv=>whnf)
   exact ⟨m - 1,by omega,m - 1,_,by rw [show (m:Int) - 1=((m - 1:Nat):Int) by omega],rfl,rfl,by omega,Bl,by rw [hb,h1,GW hq.2,h2]⟩
  have hq:(decide (0<(m:Int))&&mV u pv)=false:=hq
  have gH:R=lT L u:=by
   rw [eH,hb,hR];by_cases h0:m=0
   ·subst h0;rfl
   obtain ⟨c,hc,h1,h2⟩:=zj (L:=L) (m:=m) (by omega) hi;have lZ:pv=c:=by rw [show ((m:Int) - 1).toNat=m - 1 by omega,hR,h1,List.append_assoc,List.getElem?_append_right (by rw [List.length_take];omega),List.length_take,show m - 1 - min (m - 1) L.length=0 by omega] at ka;exact (Option.some.inj ka).symm
   subst lZ;rw [h1,GX (by rw [Bool.and_eq_false_iff,decide_eq_false_iff_not] at hq;rcases hq with hq|hq;omega;exact hq),List.append_assoc];rfl
  (conv=>whnf);skip;rw [<- gH];exact Lp tn (by intro h;rw [h] at tn;simp at tn)
 refine aG (F:=Tryz.f232) c232 rfl rfl rfl mixed rfl fun X=>?_;(conv=>whnf);refine bM rfl mixed [0,3,5] [] (fun m r h=>∃ (i:Nat),r=[(0,[],.aR b 0 L.length 2),(3,[],.au (aT u)),(5,[],.int .i64 i)]/\h=[(b,.vec (L.map aT).flatten)]/\m=L.length - i/\i<=L.length/\∀ j x,j<i->L[j]?=some x->x≠u) ?_ ?_
 ·(conv=>whnf);exact ⟨_,0,rfl,rfl,rfl,by omega,fun j x h=>by omega⟩
 rintro m r h ⟨i,rfl,rfl,rfl,hi,hg⟩;(conv=>whnf);skip;refine ⟨fun he=>?_,fun he=>?_⟩<;>simp only [decide_eq_true_eq,decide_eq_false_iff_not] at he
 ·obtain ⟨x,hx⟩:=aN (l:=L) (i:=i) (by omega);(conv=>whnf);repeat ((first|(refine iK (i:=i) (by omega) ?_)|(refine ft oH (.head _) (Nat.zero_add _) hx ?_)|(refine ⟨Dg,?_⟩)|refine And.intro (by show aJ (aH Tryz.f232 _) _=true;decide +kernel) ?_);conv=>whnf)
  refine ⟨fun hq=>?_,fun hq=>?_⟩
  ·have hq:mg x u=true:=hq;rw [tE,decide_eq_true_eq] at hq;subst hq;(conv=>whnf);skip;rw [lT,if_pos (List.mem_of_getElem? hx)];exact Lp rfl aI
  have hq:mg x u=false:=hq;rw [tE,decide_eq_false_iff_not] at hq;(conv=>whnf);repeat (refine ⟨af ⟨by omega,by omega⟩,?_⟩;conv=>whnf)
  refine ⟨_,by omega,i+1,rfl,rfl,rfl,by omega,fun j y hj hy=>?_⟩;by_cases h1:j=i
  ·subst h1;rw [hx] at hy;cases hy
   exact hq
  exact hg j y (by omega) hy
 have eH:lT L u=eZ mV L u:=by rw [lT,if_neg];intro hm;obtain ⟨j,hj⟩:=List.mem_iff_getElem?.1 hm;exact hg j u (by have:=(List.getElem?_eq_some_iff.1 hj).1;omega) hj rfl
 (conv=>whnf);repeat ((first|(refine ⟨_,.head _,⟨rL oH,hl⟩,fun bb=>⟨_,.here _,?_⟩⟩)|(refine ⟨af ⟨by simp<;>omega,by simp<;>omega⟩,?_⟩));conv=>whnf)
 have gy:(L++[u]).length=L.length+1:=(by simp);refine bM rfl mixed [0,6] [] (fun m r h=>∃ (i:Nat) (R:List ao),r=[(0,[],.aR bb 0 (L.length+1) 2),(6,[],.int .i64 i)]/\h=[(bb,.vec (R.map aT).flatten)]/\m=i/\i<=L.length/\R=L.take i++u::L.drop i/\eZ mV L u=eZ mV (L.take i) u++L.drop i) ?_ ?_
 ·(conv=>whnf);exact ⟨_,L.length,L++[u],by first|(rw [eQ];rfl)|simp,by first|(rw [eQ];rfl)|(rw [List.map_append,List.flatten_append];rfl),rfl,by omega,by simp,by simp⟩
 rintro m r h ⟨i,R,rfl,rfl,rfl,hi,hR,hb⟩;have tn:R.length=L.length+1:=by rw [hR];simp;omega
 have uw:R[m]?=some u:=by rw [hR];exact GU (by rw [List.length_take];omega)
 obtain ⟨pv,ka⟩:=aN (l:=R) (i:=((m:Int) - 1).toNat) (by omega);(conv=>whnf);repeat ((first|refine ⟨af ⟨by omega,by omega⟩,?_⟩|(refine iK (i:=m) (by omega) ?_)|(refine xI ?_ ?_;(focus (conv=>whnf;skip));(focus (intro g0;simp at g0;show 0<=_/\_<_;omega)))|(refine ft oH (.head _) (Nat.zero_add _) uw ?_)|(refine ft oH (.head _) (Nat.zero_add _) ka ?_)|refine aX (Lo u pv) ?_|refine And.intro (by show aJ (aH Tryz.f232 _) _=true;decide +kernel) ?_);conv=>whnf)
 refine ⟨fun hq=>?_,fun hq=>?_⟩
 ·have hq:(decide (0<(m:Int))&&mV u pv)=true:=hq;rw [Bool.and_eq_true,decide_eq_true_eq] at hq;obtain ⟨c,hc,h1,h2⟩:=zj (L:=L) (m:=m) (by omega) hi;have lZ:pv=c:=by rw [show ((m:Int) - 1).toNat=m - 1 by omega,hR,h1,List.append_assoc,List.getElem?_append_right (by rw [List.length_take];omega),List.length_take,show m - 1 - min (m - 1) L.length=0 by omega] at ka;exact (Option.some.inj ka).symm
  subst lZ;have Bk:R[m - 1]?=some pv:=(by rw [<- ka,show ((m:Int) - 1).toNat=m - 1 by omega]);have Bl:(R.set m pv).set (m - 1) u=L.take (m - 1)++u::L.drop (m - 1):=by rw [hR,h1,h2];exact GV (by rw [List.length_take];omega) (by omega)
  (conv=>whnf);repeat ((first|refine ⟨af ⟨by omega,by omega⟩,?_⟩|(refine iK (i:=m) (by omega) ?_)|(refine ⟨m - 1,af ⟨by omega,by omega⟩,?_⟩)|(refine ft oH (.head _) (Nat.zero_add _) uw ?_)|(refine ft oH (.head _) (Nat.zero_add _) Bk ?_)|(refine rM pv (by decide) oH (i:=m) (by omega) (Nat.zero_add _) rfl (.here _) ?_)|(refine rM u (by decide) oH (i:=m - 1) (by simp;omega) (Nat.zero_add _) rfl (.here _) ?_)|refine And.intro (by show aJ (aH Tryz.f232 _) _=true;decide +kernel) ?_);conv=>whnf)
  exact ⟨m - 1,by omega,m - 1,_,by rw [show (m:Int) - 1=((m - 1:Nat):Int) by omega],rfl,rfl,by omega,Bl,by rw [hb,h1,GW hq.2,h2]⟩
 have hq:(decide (0<(m:Int))&&mV u pv)=false:=hq
 have gH:R=lT L u:=by
  rw [eH,hb,hR];by_cases h0:m=0
  ·subst h0;rfl
  obtain ⟨c,hc,h1,h2⟩:=zj (L:=L) (m:=m) (by omega) hi;have lZ:pv=c:=by rw [show ((m:Int) - 1).toNat=m - 1 by omega,hR,h1,List.append_assoc,List.getElem?_append_right (by rw [List.length_take];omega),List.length_take,show m - 1 - min (m - 1) L.length=0 by omega] at ka;exact (Option.some.inj ka).symm
  subst lZ;rw [h1,GX (by rw [Bool.and_eq_false_iff,decide_eq_false_iff_not] at hq;rcases hq with hq|hq;omega;exact hq),List.append_assoc];rfl
 (conv=>whnf);skip;rw [<- gH];exact Lp tn (by intro h;rw [h] at tn;simp at tn)
def lU (p:Int) (v:cV):Bool:=bG p v.fr v.to
theorem F6 {α:Type} {l:List α} {i:Nat} {x:α} {f:α->Bool} (h:l[i]?=some x):(l.take (i+1)).filter f=(l.take i).filter f++(if f x=true then [x] else []):=by rw [dg h,List.filter_append];congr 1;by_cases hf:f x=true<;>simp [hf]
theorem F7 (s:eA) (p:Int) (hs:s.values.length<=1048576):ae Tryz.prog 260 [.agg (jo s),.int .i64 p] [] (.sl 4 none ((s.values.filter (lU p)).map fK)):=by
 refine ae.of (aG (F:=Tryz.f260) c260 rfl rfl rfl mixed rfl fun X=>?_);(conv=>whnf);skip;refine cy rfl mixed [1,2,5,6] [] (fun m r h=>∃ (i:Nat) (v:AV) (hp:ab),r=[(1,[],.int .i64 p),(2,[],.au (jo s)),(5,[],v),(6,[],.int .i64 i)]/\h=hp/\m=s.values.length - i/\i<=s.values.length/\Out 4 fK ((s.values.take i).filter (lU p)) v hp) ?_ ?_
 ·(conv=>whnf);exact ⟨_,_,ar.refl _ _,_,0,_,_,rfl,rfl,rfl,by omega,.inl ⟨rfl,rfl,rfl⟩⟩
 rintro m r h' ⟨i,v,hp,rfl,rfl,rfl,hi,ho⟩;(conv=>whnf);skip;refine ⟨fun aD=>?_,fun aD=>?_⟩<;>simp at aD
 ·obtain ⟨x,hx⟩:=aN aD;have ch:=F6 (f:=lU p) hx;have hlen:((s.values.take i).filter (lU p)).length<=i:=by have:=List.length_filter_le (lU p) (s.values.take i);rw [List.length_take] at this;omega
  (conv=>whnf);repeat (refine ix (by assumption) ?_;conv=>whnf)
  refine ⟨fun hq=>?_,fun hq=>?_⟩
  ·have hq:lU p x=true:=hq;rw [hq,if_pos rfl] at ch;rcases ho with ⟨he,rfl,rfl⟩|⟨q,rfl,rfl⟩
   all_goals
    (conv=>whnf);repeat ((first|refine ⟨af ⟨by omega,by omega⟩,?_⟩|refine ix (by assumption) ?_|(refine ⟨Nat.le_of_ble_eq_true rfl,fun q'=>?_⟩)|(refine ⟨(by simp;unfold aV;omega),fun q'=>⟨_,.here _,?_⟩⟩));conv=>whnf)
    refine ⟨_,_,ar.refl _ _,_,(by omega),i+1,_,_,rfl,rfl,rfl,by omega,.inr ⟨q',?_,rfl⟩⟩;rw [ch,List.map_append];first|rfl|(rw [he];rfl)
  have hq:lU p x=false:=hq;rw [if_neg (by rw [hq];decide),List.append_nil] at ch;(conv=>whnf);repeat (refine ⟨af ⟨by omega,by omega⟩,?_⟩;conv=>whnf)
  exact ⟨_,_,ar.refl _ _,_,(by omega),i+1,_,_,rfl,rfl,rfl,by omega,by rw [ch];exact ho⟩
 rw [List.take_of_length_le aD] at ho;(conv=>whnf);skip;exact ho.le (by decide)
theorem F8 (l:Lst) (n p:Int) (s:eA) (hl:yJ l) (h0:0<=n) (hs:l.aB[n.toNat]?=some s) (hv:s.values.length<=1048576) (he:kS l=0) (hp:1<=p/\p<=l.iD) :
  ae Tryz.prog 231 [.agg (pG l),.int .i64 n,.int .i64 p] [] (.aQ [.sl 4 none ((s.values.filter (lU p)).map fK),.int .i64 0]):=by
 have aL:=(List.getElem?_eq_some_iff.1 hs).1;refine aG (F:=Tryz.f231) c231 rfl rfl rfl mixed rfl fun X=>?_;(conv=>whnf);repeat (refine ae.k0 (Ru l hl) ?_;conv=>whnf)
 rw [he];refine cF rfl ?_;(conv=>whnf);skip;refine cF (by rw [List.length_map];simp;omega) ?_;(conv=>whnf);skip;refine cF (by simp;omega) ?_;(conv=>whnf);repeat ((first|(refine cj n.toNat (by omega) hs ?_)|refine ae.k0 (F7 s p hv) ?_);conv=>whnf)
 exact ⟨rfl,rfl⟩
def sT (vs:List cV) (L:List ao):List ao:=vs.foldl (fun L v=>(jT v).foldl lT L) L
theorem SU (L:List ao) (u:ao):(lT L u).length<=L.length+1:=by
 unfold lT;split
 ·omega
 rw [Lj.length_eq];simp
theorem SV:∀ (us:List ao) (L:List ao),(us.foldl lT L).length<=L.length+us.length
 | [],L=>by simp
 | u::us,L=>by have h1:=SU L u;have h2:=SV us (lT L u);rw [List.foldl_cons,List.length_cons];omega
theorem SX:∀ (vs:List cV) (L:List ao),(sT vs L).length<=L.length+2*vs.length
 | [],L=>by simp [sT]
 | v::vs,L=>by have h1:=SV (jT v) L;have h2:=Sf v;have h3:=SX vs ((jT v).foldl lT L);unfold sT at h3 ⊢;rw [List.foldl_cons,List.length_cons];omega
theorem F9 (vs:List cV) (v:cV) (L:List ao):sT (vs++[v]) L=(jT v).foldl lT (sT vs L):=by unfold sT;rw [List.foldl_append];rfl
def Gp (p:Int) (s:eA):List ao:=sT (s.values.filter (lU p)) []
end Go.Abs.Wall
namespace Go.Abs.Wall
open Go Go.Abs Go.Proofs
theorem Lq (v:cV):(v.kind=1/\jT v=[⟨1,v.text⟩,⟨3,v.text⟩])\/(v.kind=2/\jT v=[⟨2,v.text⟩])\/(v.kind=3/\jT v=[⟨4,v.text⟩])\/(v.kind≠1/\v.kind≠2/\v.kind≠3/\jT v=[]):=by
 unfold jT;by_cases h1:v.kind=1
 ·exact .inl ⟨h1,by rw [if_pos h1]⟩
 by_cases h2:v.kind=2
 ·exact .inr (.inl ⟨h2,by rw [if_neg h1,if_pos h2]⟩)
 by_cases h3:v.kind=3
 ·exact .inr (.inr (.inl ⟨h3,by rw [if_neg h1,if_neg h2,if_pos h3]⟩))
 exact .inr (.inr (.inr ⟨h1,h2,h3,by rw [if_neg h1,if_neg h2,if_neg h3]⟩))
theorem G0 (H:ax) (n:Int) (s:eA) (hf:eP H) (hH:ic H) (h0:0<=n) (hs:H.list.aB[n.toNat]?=some s) :
  ay Tryz.prog 175 [.agg (bJ H),.int .i64 n] [] (fun v h'=>∃ hp Z,Row 2 aT (Gp H.period s) v hp/\h'=hp++Z):=by
 have Ld:=((rO hH.oV).each _ (List.mem_of_getElem? hs)).bE;obtain ⟨vs,kY⟩:∃ vs,vs=s.values.filter (lU H.period):=⟨_,rfl⟩;have X1:vs.length<=12:=by have:=List.length_filter_le (lU H.period) s.values;rw [kY];omega
 have hM:Gp H.period s=sT vs []:=by rw [kY];rfl
 refine aG (F:=Tryz.f175) c175 rfl rfl rfl mixed rfl fun X=>?_;(conv=>whnf);repeat (refine ae.k0 (F8 H.list n H.period s hf.list h0 hs (by omega) hH.oV hH.period) ?_;conv=>whnf)
 rw [<- kY];refine cy rfl mixed [5,7,8] [] (fun m r h=>∃ (i:Nat) (v:AV) (hp:ab),r=[(5,[],.sl 4 none (vs.map fK)),(7,[],v),(8,[],.int .i64 i)]/\h=hp/\m=vs.length - i/\i<=vs.length/\Row 2 aT (sT (vs.take i) []) v hp) ?_ ?_
 ·(conv=>whnf);exact ⟨_,_,ar.qP (.cons (ag.refl _) (.cons xC (.cons (ag.refl _) .nil))),_,0,.fM,[],rfl,rfl,rfl,by omega,.inl ⟨rfl,rfl,rfl⟩⟩
 rintro m r h' ⟨i,v,hp,rfl,rfl,rfl,hi,hr⟩;(conv=>whnf);skip;refine ⟨fun aD=>?_,fun aD=>?_⟩<;>simp at aD
 ·obtain ⟨x,hx⟩:=aN aD;have ch:=dg hx;have ba:=F9 (vs.take i) x [];rw [<- ch] at ba;have hlen:=SX (vs.take i) [];rw [List.length_take,List.length_nil] at hlen;rcases Lq x with ⟨hk,hu⟩|⟨hk,hu⟩|⟨hk,hu⟩|⟨cL,bo,nQ,hu⟩
  ·rw [hu,List.foldl_cons,List.foldl_cons,List.foldl_nil] at ba;have uH:=SU (sT (vs.take i) []) ⟨1,x.text⟩;(conv=>whnf);repeat (refine ix (by assumption) ?_;conv=>whnf)
   refine cT (by simp [hk]) ?_;(conv=>whnf);skip;refine ay.mono ?_ (Gn _ ⟨1,x.text⟩ v h' hr (by unfold aV;omega));intro v1 h1 tP;(conv=>whnf);skip;refine ay.mono ?_ (Gn _ ⟨3,x.text⟩ v1 h1 tP (by unfold aV;omega));intro v2 h2 uS;(conv=>whnf);repeat (refine ⟨af ⟨by omega,by omega⟩,?_⟩;conv=>whnf)
   exact ⟨_,_,ar.refl _ _,_,(by omega),i+1,_,_,rfl,rfl,rfl,by omega,by rw [ba];exact uS⟩
  ·rw [hu,List.foldl_cons,List.foldl_nil] at ba;(conv=>whnf);repeat (refine ix (by assumption) ?_;conv=>whnf)
   refine cF (by simp [hk]) ?_;(conv=>whnf);skip;refine cT (by simp [hk]) ?_;(conv=>whnf);skip;refine ay.mono ?_ (Gn _ ⟨2,x.text⟩ v h' hr (by unfold aV;omega));intro v1 h1 tP;(conv=>whnf);repeat (refine ⟨af ⟨by omega,by omega⟩,?_⟩;conv=>whnf)
   exact ⟨_,_,ar.refl _ _,_,(by omega),i+1,_,_,rfl,rfl,rfl,by omega,by rw [ba];exact tP⟩
  ·rw [hu,List.foldl_cons,List.foldl_nil] at ba;(conv=>whnf);repeat (refine ix (by assumption) ?_;conv=>whnf)
   refine cF (by simp [hk]) ?_;(conv=>whnf);skip;refine cF (by simp [hk]) ?_;(conv=>whnf);skip;refine cT (by simp [hk]) ?_;(conv=>whnf);skip;refine ay.mono ?_ (Gn _ ⟨4,x.text⟩ v h' hr (by unfold aV;omega));intro v1 h1 tP;(conv=>whnf);repeat (refine ⟨af ⟨by omega,by omega⟩,?_⟩;conv=>whnf)
   exact ⟨_,_,ar.refl _ _,_,(by omega),i+1,_,_,rfl,rfl,rfl,by omega,by rw [ba];exact tP⟩
  rw [hu,List.foldl_nil] at ba;(conv=>whnf);repeat (refine ix (by assumption) ?_;conv=>whnf)
  refine cF (by simp [cL]) ?_;(conv=>whnf);skip;refine cF (by simp [bo]) ?_;(conv=>whnf);skip;refine cF (by simp [nQ]) ?_;(conv=>whnf);repeat (refine ⟨af ⟨by omega,by omega⟩,?_⟩;conv=>whnf)
  exact ⟨_,_,ar.refl _ _,_,(by omega),i+1,_,_,rfl,rfl,rfl,by omega,by rw [ba];exact hr⟩
 rw [List.take_of_length_le aD] at hr;(conv=>whnf);skip;exact ⟨h',[],by rw [hM];exact hr,(List.append_nil _).symm⟩
theorem SY {u:ao} {v:cV} (h:u∈jT v):v.text=u.text/\v.kind=(if u.kind=2 then 2 else if u.kind=4 then 3 else 1):=by
 rcases Lq v with ⟨hk,e⟩|⟨hk,e⟩|⟨hk,e⟩|⟨_,_,_,e⟩<;>rw [e] at h<;>simp at h
 ·rcases h with rfl|rfl<;>simp [hk]
 ·subst h;simp [hk]
 subst h;simp [hk]
theorem G1 (v:cV):(jT v).Nodup:=by rcases Lq v with ⟨hk,e⟩|⟨hk,e⟩|⟨hk,e⟩|⟨_,_,_,e⟩<;>rw [e]<;>simp
theorem G2 {p:Int} {v w:cV} (hm:mT v w=false) (hv:lU p v=true) (hw:lU p w=true):∀ u∈jT v,u ∉ jT w:=by
 have G3:¬ (v.kind=w.kind/\v.text=w.text):=by rintro ⟨h1,h2⟩;unfold lU at hv hw;rw [dS] at hv hw;unfold mT at hm;rw [decide_eq_true h1,decide_eq_true h2,decide_eq_true (show v.fr<=w.to by omega),decide_eq_true (show w.fr<=v.to by omega)] at hm;cases hm
 intro u hu gf;have h1:=SY hu;have h2:=SY gf;exact G3 ⟨h1.2.trans h2.2.symm,h1.1.trans h2.1.symm⟩
def Gq (p:Int):List cV->Prop
 | []=>True
 | v::t=>(∀ w∈t,lU p v=true->lU p w=true->mT w v=false)/\Gq p t
theorem G4 {l:Lst} {b:List cV} {v:cV} (h:mr l b v=0):∀ w∈b,mT v w=false:=by
 unfold mr at h;split at h
 ·cases h
 split at h
 ·cases h
 split at h
 ·cases h
 rename_i h3;rw [Bool.not_eq_true,List.any_eq_false] at h3;exact fun w hw=>by simpa using h3 w hw
theorem SZ {l:Lst} {vs:List cV}:∀ {t:List cV} {i:Nat},vs.drop i=t->qz l vs t i=0->∀ j v,i<=j->vs[j]?=some v->mr l (vs.take j) v=0
 | [],i,hd,h,j,v,hj,hv=>by have:=(List.getElem?_eq_some_iff.1 hv).1;have hl:=congrArg List.length hd;rw [List.length_drop,List.length_nil] at hl;omega
 | a::t,i,hd,h,j,v,hj,hv=>by
   unfold qz at h;split at h
   ·rename_i h1;exact absurd h h1
   rename_i h1;by_cases nK:j=i
   ·subst nK;have:vs[j]?=some a:=by have:=congrArg (fun z=>z[0]?) hd;simpa using this
    rw [hv] at this;cases this
    exact by simpa using h1
   exact SZ (t:=t) (i:=i+1) (by have:=congrArg List.tail hd;simpa [List.tail_drop] using this) h j v (by omega) hv
theorem Ta {p:Int}:∀ {vs:List cV},(∀ (j k:Nat) v w,j<k->vs[j]?=some v->vs[k]?=some w->mT w v=false)->Gq p vs
 | [],_=>trivial
 | a::t,h=>⟨fun w hw _ _=>by
    obtain ⟨k,hk⟩:=List.mem_iff_getElem?.1 hw;exact h 0 (k+1) a w (by omega) rfl (by simpa using hk),Ta fun j k v w hj hv hw=>h (j+1) (k+1) v w (by omega) (by simpa using hv) (by simpa using hw)⟩
theorem NI {l:Lst} {s:eA} (h:jP l s=0) (p:Int):Gq p s.values:=by
 unfold jP at h;split at h
 ·cases h
 split at h
 ·cases h
 refine Ta fun j k v w hj hv hw=>?_;have:=SZ (i:=0) rfl h k w (by omega) hw;exact G4 this v (List.mem_of_getElem? (i:=j) (by rw [List.getElem?_take,if_pos hj,hv]))
theorem Ey {p:Int}:∀ {vs:List cV},Gq p vs->(jM p vs).Nodup
 | [],_=>.nil
 | v::t,h=>by
   unfold jM;split
   ·rename_i hw;rw [List.nodup_append];refine ⟨G1 v,Ey h.2,fun u hu u' dj e=>?_⟩;subst e
    have uM:∀ {t:List cV},u∈jM p t->∃ w∈t,lU p w=true/\u∈jT w:=by
     intro t;induction t with
     | nil=>intro h;cases h
     | cons a t ih=>
       intro h;unfold jM at h;rcases List.mem_append.1 h with h|h
       ·split at h
        ·rename_i h1;exact ⟨a,by simp,h1,h⟩
        cases h
       obtain ⟨w,h1,h2⟩:=ih h;exact ⟨w,by simp [h1],h2⟩
    obtain ⟨w,h1,h2,h3⟩:=uM dj;exact G2 (h.1 w h1 hw h2) h2 hw u h3 hu
   rw [List.nil_append];exact Ey h.2
theorem Tb:∀ {us L:List ao},us.Nodup->(∀ u∈us,u ∉ L)->us.foldl lT L=us.foldl (eZ mV) L
 | [],L,_,_=>rfl
 | u::us,L,hn,hd=>by
   rw [List.nodup_cons] at hn;rw [List.foldl_cons,List.foldl_cons,show lT L u=eZ mV L u by rw [lT,if_neg (hd u (by simp))]];refine Tb hn.2 fun x hx hm=>?_;rcases List.mem_cons.1 (Lj.mem_iff.1 hm) with rfl|hm
   ·exact hn.1 hx
   exact hd x (by simp [hx]) hm
theorem Lr (p:Int):∀ (vs:List cV) (L:List ao),sT (vs.filter (lU p)) L=(jM p vs).foldl lT L
 | [],L=>rfl
 | v::t,L=>by
   rw [List.filter_cons];unfold jM;rw [List.foldl_append];by_cases hv:lU p v=true
   ·rw [if_pos hv];have ou:bG p v.fr v.to=true:=hv;rw [if_pos ou];exact Lr p t _
   rw [if_neg hv];have ou:¬ bG p v.fr v.to=true:=hv;rw [if_neg ou];exact Lr p t L
theorem G5 {l:Lst} {s:eA} {p:Int} (h:jP l s=0):Gp p s=nz p s:=by unfold Gp nz tG;rw [Lr,Tb (Ey (NI h p)) (fun u _=>by simp)];exact Ml zU.c.w fun x _ y _=>zU.c.uu x y
theorem NH {l:Lst} (h:kS l=0):∀ s∈l.aB,jP l s=0:=by
 unfold kS at h;split at h
 ·cases h
 split at h
 ·cases h
 have qe:∀ {t:List eA} {seen:List (List UInt8)},rm l t seen=0->∀ s∈t,jP l s=0:=by
  intro t;induction t with
  | nil=>intro seen _ s hs;cases hs
  | cons a t ih=>
    intro seen h s hs;unfold rm at h;split at h
    ·cases h
    split at h
    ·rename_i h1;exact absurd h h1
    rename_i h1;rcases List.mem_cons.1 hs with rfl|hs
    ·simpa using h1
    exact ih h s hs
 exact qe h
theorem TR (H:ax) (n:Int) (hf:eP H) (hH:ic H) (h0:0<=n) (h1:n<H.list.aB.length) :
  ae Tryz.prog 175 [.agg (bJ H),.int .i64 n] [] (.sl 2 none ((fg H n).map aT)):=by
 have hs:=uA h0 h1;have:=Row.ok (by decide) oH (G0 H n _ hf hH h0 hs);rwa [G5 (NH hH.oV _ (List.mem_of_getElem? hs))] at this
def tU (H:ax) (n:Int):Int:=if eG H≠0 then eG H else if bG n 0 ((H.list.aB.length:Int) - 1)=false then 23 else 0
def Cr (H:ax) (n:Int):List ao:=if tU H n=0 then fg H n else []
end Go.Abs.Wall
namespace Go.Abs.Wall
open Go Go.Abs Go.Proofs
def c58:aw:=⟨[0,1,4,5,10,14,25],[],[],[],[(6,[0,1,2,3,4,5,6,7,8],[])],[]⟩
theorem XJ (a b:List ao) (ha:a.length<=aq) (hb:b.length<=aq):ae Tryz.prog 58 [.sl 2 none (a.map aT),.sl 2 none (b.map aT)] [] (.bool (decide (a=b))):=by
 unfold aq at ha hb;refine aG (F:=Tryz.f58) c58 rfl rfl rfl mixed rfl fun X=>?_;(conv=>whnf);skip;refine ⟨fun hc=>?_,fun hc=>?_⟩<;>simp at hc
 ·(conv=>whnf);refine ⟨congrArg AV.bool (decide_eq_false fun e=>?_).symm,rfl⟩;rw [e] at hc;omega
 (conv=>whnf);skip;refine bM rfl mixed [0,1,5] [] (fun m r h=>∃ (i:Nat),r=[(0,[],.sl 2 none (a.map aT)),(1,[],.sl 2 none (b.map aT)),(5,[],.int .i64 i)]/\h=[]/\m=a.length - i/\i<=a.length/\decide (a=b)=decide (a.drop i=b.drop i)) ?_ ?_
 ·(conv=>whnf);exact ⟨_,0,rfl,rfl,rfl,by omega,rfl⟩
 rintro m r h ⟨i,rfl,rfl,rfl,hi,hg⟩;(conv=>whnf);skip;refine ⟨fun aD=>?_,fun aD=>?_⟩<;>simp at aD
 ·obtain ⟨x,hx⟩:=aN aD;obtain ⟨y,hy⟩:=aN (l:=b) (i:=i) (by omega);rw [drop_cons hx,drop_cons hy] at hg;(conv=>whnf);repeat ((first|refine ix (by assumption) ?_|(refine ⟨Dg,?_⟩)|refine And.intro (by show aJ (aH Tryz.f58 _) _=true;decide +kernel) ?_);conv=>whnf)
  refine ⟨fun hq=>?_,fun hq=>?_⟩
  ·have hq:(!mg x y)=true:=hq;rw [tE,Bool.not_eq_true',decide_eq_false_iff_not] at hq;(conv=>whnf);skip;refine ⟨congrArg AV.bool ?_,rfl⟩;rw [hg];symm;rw [decide_eq_false_iff_not];intro h;exact hq (List.cons.inj h).1
  have hq:(!mg x y)=false:=hq;rw [tE,Bool.not_eq_false',decide_eq_true_eq] at hq;subst hq;(conv=>whnf);repeat (refine ⟨af ⟨by omega,by omega⟩,?_⟩;conv=>whnf)
  refine ⟨_,by omega,i+1,rfl,rfl,rfl,by omega,?_⟩;rw [hg,decide_eq_decide,List.cons.injEq];simp
 rw [drop_nil aD,drop_nil (by omega)] at hg;(conv=>whnf);skip;exact ⟨congrArg AV.bool (by rw [hg];rfl),rfl⟩
theorem Ww (H:ax) (n:Int) (hf:eP H):ae Tryz.prog 104 [.agg (bJ H),.int .i64 n] [] (.aQ [.sl 2 none ((Cr H n).map aT),.int .i64 (tU H n)]):=by
 have kI:=hf.list.aB;unfold aq at kI;refine ae.of ?_;refine aG (F:=Tryz.f104) c104 rfl rfl rfl mixed rfl fun X=>?_;(conv=>whnf);repeat (refine ae.k0 (Jb H hf) ?_;conv=>whnf)
 refine ⟨fun hc=>?_,fun hc=>?_⟩<;>simp at hc
 ·have he:tU H n=eG H:=(by rw [tU,if_pos hc]);(conv=>whnf);skip;rw [Cr,he,if_neg hc];exact ag.aQ (.cons (ag.nil (by decide)) (.cons (ag.refl _) .nil))
 have hH:=ve hc;(conv=>whnf);repeat ((first|refine ae.k0 (within _ _ _) ?_|(refine ⟨af ⟨by rw [List.length_map];omega,by rw [List.length_map];omega⟩,?_⟩));conv=>whnf)
 refine ⟨fun hq=>?_,fun hq=>?_⟩
 ·have hq:(!bG n 0 (((H.list.aB.map jo).length:Int) - 1))=true:=hq;rw [List.length_map,Bool.not_eq_true'] at hq;have he:tU H n=23:=(by rw [tU,if_neg (by omega),if_pos hq]);(conv=>whnf);skip;rw [Cr,he,if_neg (by decide)];exact ag.aQ (.cons (ag.nil (by decide)) (.cons (ag.refl _) .nil))
 have hq:(!bG n 0 (((H.list.aB.map jo).length:Int) - 1))=false:=hq;rw [List.length_map,Bool.not_eq_false',dS] at hq;have he:tU H n=0:=(by rw [tU,if_neg (by omega),if_neg (by rw [Bool.not_eq_false,dS];omega)]);have hs:=uA (H:=H) (n:=n) hq.1 (by omega);have Ld:=((rO hH.oV).each _ (List.mem_of_getElem? hs)).bE;(conv=>whnf);repeat (refine ae.k0 (KU H n (wE H n) hq.1 hs (by omega)) ?_;conv=>whnf)
 rw [Cr,he,if_pos rfl];exact ag.refl _
end Go.Abs.Wall
namespace Go.Abs.Wall
open Go Go.Abs Go.Proofs Go.Proofs.YtbmcnieifibckaaGreat.Br
def yT (P:Program) (B:Nat):List TypeId->List (List AV)->Prop
 | [],[]=>True
 | t::ts,p::ps=>Sh P B t p/\yT P B ts ps
 | _,_=>False
theorem Tc {P:Program} {B:Nat}:∀ {ts:List TypeId} {ps:List (List AV)},ps.length=ts.length->(∀ (i:Nat) t p,ts[i]?=some t->ps[i]?=some p->Sh P B t p)->yT P B ts ps
 | [],[],_,_=>trivial
 | t::ts,p::ps,hl,h=>⟨h 0 t p rfl rfl,Tc (by simpa using hl) fun i t' p' h1 h2=>h (i+1) t' p' (by simpa using h1) (by simpa using h2)⟩
 | [],_::_,hl,_=>by simp at hl
 | _::_,[],hl,_=>by simp at hl
theorem oC {P:Program} {B:Nat} {t:TypeId} {fs:Array Field} {xs:List AV} (h:Sh P B t xs) (hu:P.underlying t=some (.struct fs)):∃ ps,xs=ps.flatten/\yT P B (fs.toList.map (·.type)) ps:=by
 cases h with
 | bool h1=>rw [hu] at h1;cases h1
 | int h1 _=>rw [hu] at h1;cases h1
 | str h1 _=>rw [hu] at h1;cases h1
 | slice h1 _ _=>rw [hu] at h1;cases h1
 | @struct _ X2 ps h1 hl hp=>
   rw [hu] at h1;cases h1
   refine ⟨ps,rfl,Tc (by simpa using hl) fun i t p h1 h2=>?_⟩;rw [List.getElem?_map] at h1;cases hf:fs.toList[i]? with
   | none=>rw [hf] at h1;cases h1
   | some f=>rw [hf] at h1;cases h1;exact hp i f p hf h2
 | array h1 hl hp=>rw [hu] at h1;cases h1
theorem G6 {P:Program} {B:Nat} {t:TypeId} {k:IntKind} {xs:List AV} (h:Sh P B t xs) (hu:P.underlying t=some (.int k)):∃ n:Int,xs=[.int k n]/\k.has n:=by
 cases h with
 | bool h1=>rw [hu] at h1;cases h1
 | int h1 h2=>rw [hu] at h1;cases h1;exact ⟨_,rfl,Rc h2⟩
 | str h1 _=>rw [hu] at h1;cases h1
 | slice h1 _ _=>rw [hu] at h1;cases h1
 | struct h1 hl hp=>rw [hu] at h1;cases h1
 | array h1 hl hp=>rw [hu] at h1;cases h1
theorem G7 {P:Program} {B:Nat} {t:TypeId} {xs:List AV} (h:Sh P B t xs) (hu:P.underlying t=some .bool):∃ b:Bool,xs=[.bool b]:=by
 cases h with
 | bool h1=>exact ⟨_,rfl⟩
 | int h1 h2=>rw [hu] at h1;cases h1
 | str h1 _=>rw [hu] at h1;cases h1
 | slice h1 _ _=>rw [hu] at h1;cases h1
 | struct h1 hl hp=>rw [hu] at h1;cases h1
 | array h1 hl hp=>rw [hu] at h1;cases h1
theorem vE {P:Program} {B:Nat} {t:TypeId} {xs:List AV} (h:Sh P B t xs) (hu:P.underlying t=some .string):∃ s,xs=[.str s]/\s.length<=B:=by
 cases h with
 | bool h1=>rw [hu] at h1;cases h1
 | int h1 h2=>rw [hu] at h1;cases h1
 | str h1 h2=>exact ⟨_,rfl,h2⟩
 | slice h1 _ _=>rw [hu] at h1;cases h1
 | struct h1 hl hp=>rw [hu] at h1;cases h1
 | array h1 hl hp=>rw [hu] at h1;cases h1
theorem yU {P:Program} {B:Nat} {t e:TypeId} {xs:List AV} {α:Type} {enc:α->List AV} {Fit:α->Prop} (h:Sh P B t xs) (hu:P.underlying t=some (.slice e)) (he:∀ y,Sh P B e y->∃ a,y=enc a/\Fit a) :
  ∃ l:List α,xs=[.sl (P.cellsOf e) none (l.map enc)]/\l.length<=B/\∀ a∈l,Fit a:=by
 cases h with
 | bool h1=>rw [hu] at h1;cases h1
 | int h1 h2=>rw [hu] at h1;cases h1
 | str h1 _=>rw [hu] at h1;cases h1
 | @slice _ e' ys h1 h2 h3=>
   rw [hu] at h1;cases h1
   suffices hk:∃ l:List α,ys=l.map enc/\∀ a∈l,Fit a by
    obtain ⟨l,rfl,hf⟩:=hk;exact ⟨l,rfl,by simpa using h2,hf⟩
   clear h2;induction ys with
   | nil=>exact ⟨[],rfl,by simp⟩
   | cons y ys ih=>
     obtain ⟨l,rfl,hf⟩:=ih fun z hz=>h3 z (by simp [hz]);obtain ⟨a,rfl,ha⟩:=he y (h3 y (by simp));exact ⟨a::l,rfl,fun b hb=>by rcases List.mem_cons.1 hb with rfl|hb;exact ha;exact hf b hb⟩
 | struct h1 hl hp=>rw [hu] at h1;cases h1
 | array h1 hl hp=>rw [hu] at h1;cases h1
theorem Dh {P:Program} {B:Nat} {a b:TypeId} {ps:List (List AV)} (h:yT P B [a,b] ps):∃ x y,ps=[x,y]/\Sh P B a x/\Sh P B b y:=by
 match ps,h with
 | [x,y],⟨h1,h2,_⟩=>exact ⟨x,y,rfl,h1,h2⟩
theorem Fh {P:Program} {B:Nat} {a b c:TypeId} {ps:List (List AV)} (h:yT P B [a,b,c] ps):∃ x y z,ps=[x,y,z]/\Sh P B a x/\Sh P B b y/\Sh P B c z:=by
 match ps,h with
 | [x,y,z],⟨h1,h2,h3,_⟩=>exact ⟨x,y,z,rfl,h1,h2,h3⟩
theorem Gr {P:Program} {B:Nat} {a b c d:TypeId} {ps:List (List AV)} (h:yT P B [a,b,c,d] ps):∃ x y z u,ps=[x,y,z,u]/\Sh P B a x/\Sh P B b y/\Sh P B c z/\Sh P B d u:=by
 match ps,h with
 | [x,y,z,u],⟨h1,h2,h3,h4,_⟩=>exact ⟨x,y,z,u,rfl,h1,h2,h3,h4⟩
theorem Td {P:Program} {B:Nat} {a b c d e:TypeId} {ps:List (List AV)} (h:yT P B [a,b,c,d,e] ps):∃ x y z u v,ps=[x,y,z,u,v]/\Sh P B a x/\Sh P B b y/\Sh P B c z/\Sh P B d u/\Sh P B e v:=by
 match ps,h with
 | [x,y,z,u,v],⟨h1,h2,h3,h4,h5,_⟩=>exact ⟨x,y,z,u,v,rfl,h1,h2,h3,h4,h5⟩
abbrev eL:Nat:=1048576
theorem qC {n:Nat} (h:n<=eL):n<=aq:=by unfold aq;unfold eL at h;omega
theorem iU {xs:List AV} (h:Sh Tryz.prog eL 3 xs):∃ n:Int,xs=[.int .i64 n]/\IntKind.i64.has n:=G6 h rfl
theorem Jk {xs:List AV} (h:Sh Tryz.prog eL 34 xs):∃ l:List Int,xs=[.sl 1 none (ints l)]/\l.length<=eL/\∀ a∈l,IntKind.i64.has a:=
 yU (enc:=fun x=>[AV.int .i64 x]) h rfl fun y hy=>iU hy
theorem G8 {xs:List AV} (h:Sh Tryz.prog eL 172 xs):∃ v:cV,xs=fK v/\v.text.length<=eL:=by obtain ⟨ps,rfl,hp⟩:=oC h rfl;obtain ⟨x,y,z,u,rfl,h1,h2,h3,h4⟩:=Gr hp;obtain ⟨a,rfl,_⟩:=iU h1;obtain ⟨b,rfl,hb⟩:=vE h2 rfl;obtain ⟨c,rfl,_⟩:=iU h3;obtain ⟨d,rfl,_⟩:=iU h4;exact ⟨⟨a,b,c,d⟩,rfl,hb⟩
theorem G9 {xs:List AV} (h:Sh Tryz.prog eL 169 xs):∃ s:eA,xs=jo s/\KC s:=by obtain ⟨ps,rfl,hp⟩:=oC h rfl;obtain ⟨x,y,z,u,v,rfl,h1,h2,h3,h4,h5⟩:=Td hp;obtain ⟨a,rfl,ha⟩:=vE h1 rfl;obtain ⟨b,rfl,hb⟩:=iU h2;obtain ⟨c,rfl,_⟩:=iU h3;obtain ⟨d,rfl⟩:=G7 h4 rfl;obtain ⟨e,rfl,he,hf⟩:=yU (enc:=fK) h5 rfl fun y hy=>G8 hy;exact ⟨⟨a,b,c,d,e⟩,rfl,qC ha,qC he,fun v hv=>qC (hf v hv)⟩
theorem H0 {xs:List AV} (h:Sh Tryz.prog eL 24 xs):∃ l:Lst,xs=pG l/\yJ l:=by obtain ⟨ps,rfl,hp⟩:=oC h rfl;obtain ⟨y,z,rfl,h1,h2⟩:=Dh hp;obtain ⟨a,rfl,_⟩:=iU h1;obtain ⟨b,rfl,hb,hf⟩:=yU (enc:=jo) h2 rfl fun y hy=>G9 hy;exact ⟨⟨a,b⟩,rfl,qC hb,hf⟩
theorem H2 {xs:List AV} (h:Sh Tryz.prog eL 150 xs):∃ e:kB,xs=fu e/\RR e:=by obtain ⟨ps,rfl,hp⟩:=oC h rfl;obtain ⟨x,y,z,u,rfl,h1,h2,h3,h4⟩:=Gr hp;obtain ⟨a,rfl,ha⟩:=vE h1 rfl;obtain ⟨b,rfl,hb⟩:=iU h2;obtain ⟨c,rfl,hc⟩:=vE h3 rfl;obtain ⟨d,rfl,_⟩:=iU h4;exact ⟨⟨a,b,c,d⟩,rfl,qC ha,qC hc⟩
theorem H3 {xs:List AV} (h:Sh Tryz.prog eL 174 xs):∃ e:lp,xs=iL e/\RT e:=by obtain ⟨ps,rfl,hp⟩:=oC h rfl;obtain ⟨x,y,z,u,rfl,h1,h2,h3,h4⟩:=Gr hp;obtain ⟨a,rfl,ha⟩:=iU h1;obtain ⟨b,rfl,hb⟩:=vE h2 rfl;obtain ⟨c,rfl,hc⟩:=vE h3 rfl;obtain ⟨d,rfl,_⟩:=iU h4;exact ⟨⟨a,b,c,d⟩,rfl,qC hb,qC hc⟩
theorem H4 {xs:List AV} (h:Sh Tryz.prog eL 176 xs):∃ e:iO,xs=gI e/\RU e:=by obtain ⟨ps,rfl,hp⟩:=oC h rfl;obtain ⟨x,y,z,rfl,h1,h2,h3⟩:=Fh hp;obtain ⟨a,rfl,ha⟩:=vE h1 rfl;obtain ⟨b,rfl,hb⟩:=vE h2 rfl;obtain ⟨c,rfl,hc⟩:=iU h3;exact ⟨⟨a,b,c⟩,rfl,qC ha,qC hb⟩
theorem H5 {xs:List AV} (h:Sh Tryz.prog eL 29 xs):∃ l:Lex,xs=eV l/\rh l:=by obtain ⟨ps,rfl,hp⟩:=oC h rfl;obtain ⟨x,y,z,rfl,h1,h2,h3⟩:=Fh hp;obtain ⟨a,rfl,ha,fa⟩:=yU (enc:=fu) h1 rfl fun y hy=>H2 hy;obtain ⟨b,rfl,hb,fb⟩:=yU (enc:=iL) h2 rfl fun y hy=>H3 hy;obtain ⟨c,rfl,hc,fc⟩:=yU (enc:=gI) h3 rfl fun y hy=>H4 hy;exact ⟨⟨a,b,c⟩,rfl,qC ha,qC hb,qC hc,fa,fb,fc⟩
theorem H6 {xs:List AV} (h:Sh Tryz.prog eL 31 xs):∃ c:yQ,xs=Se c:=by obtain ⟨ps,rfl,hp⟩:=oC h rfl;obtain ⟨x,y,z,u,v,rfl,h1,h2,h3,h4,h5⟩:=Td hp;obtain ⟨a,rfl,ha⟩:=iU h1;obtain ⟨b,rfl,hb⟩:=iU h2;obtain ⟨c,rfl,hc⟩:=iU h3;obtain ⟨d,rfl,hd⟩:=iU h4;obtain ⟨e,rfl,he⟩:=iU h5;exact ⟨⟨a,b,c,d,e⟩,rfl⟩
theorem H7 {xs:List AV} (h:Sh Tryz.prog eL 33 xs):∃ H:ax,xs=bJ H/\eP H:=by obtain ⟨ps,rfl,hp⟩:=oC h rfl;obtain ⟨x,y,z,u,rfl,h1,h2,h3,h4⟩:=Gr hp;obtain ⟨a,rfl,ha⟩:=H0 h1;obtain ⟨b,rfl,hb⟩:=H5 h2;obtain ⟨c,rfl⟩:=H6 h3;obtain ⟨d,rfl,hd⟩:=iU h4;exact ⟨⟨a,b,c,d⟩,rfl,⟨ha,hb⟩⟩
theorem H8 {xs:List AV} (h:Sh Tryz.prog eL 128 xs):∃ u:ao,xs=aT u/\u.text.length<=eL:=by obtain ⟨ps,rfl,hp⟩:=oC h rfl;obtain ⟨x,y,rfl,h1,h2⟩:=Dh hp;obtain ⟨a,rfl,ha⟩:=iU h1;obtain ⟨b,rfl,hb⟩:=vE h2 rfl;exact ⟨⟨a,b⟩,rfl,hb⟩
theorem H9 {xs:List AV} (h:Sh Tryz.prog eL 38 xs):∃ f:bc,xs=dm f/\f.ah.length<=eL:=by obtain ⟨ps,rfl,hp⟩:=oC h rfl;obtain ⟨x,y,z,rfl,h1,h2,h3⟩:=Fh hp;obtain ⟨a,rfl,ha⟩:=iU h1;obtain ⟨b,rfl,hb⟩:=iU h2;obtain ⟨c,rfl,hc,_⟩:=Jk h3;exact ⟨⟨a,b,c⟩,rfl,hc⟩
structure KN (w:cO):Prop where
 cl:w.form.ah.length<=eL
 us:w.aj.length<=eL
 text:∀ u∈w.aj,u.text.length<=eL
theorem l8 {xs:List AV} (h:Sh Tryz.prog eL 69 xs):∃ w:cO,xs=du w/\KN w:=by obtain ⟨ps,rfl,hp⟩:=oC h rfl;obtain ⟨x,y,rfl,h1,h2⟩:=Dh hp;obtain ⟨a,rfl,ha⟩:=H9 h1;obtain ⟨b,rfl,hb,hf⟩:=yU (enc:=aT) h2 rfl fun y hy=>H8 hy;exact ⟨⟨a,b⟩,rfl,ha,hb,hf⟩
theorem I2 {x:AV} (h:vg Tryz.prog eL 33 x):∃ H:ax,x=.agg (bJ H)/\eP H:=by obtain ⟨xs,h,hx⟩:=h;have hx:x=.agg xs:=hx;subst hx;obtain ⟨H,rfl,hf⟩:=H7 h;exact ⟨H,rfl,hf⟩
theorem I3 {ts:List TypeId} {a b c:TypeId} {xs:List AV} (ht:ts=[a,b,c]) (h:De Tryz.prog eL ts xs):∃ x y z,xs=[x,y,z]/\vg Tryz.prog eL a x/\vg Tryz.prog eL b y/\vg Tryz.prog eL c z:=by
 subst ht
 match xs,h with
 | [x,y,z],⟨h1,h2,h3,_⟩=>exact ⟨x,y,z,rfl,h1,h2,h3⟩
end Go.Abs.Wall
