/- What is proved: small laws for the walks of this seat, and contracts of its functions. No condition but those each theorem names. -/
import Derived.Test.YtbmcnieifibckaaGreatN7
import Derived.Test.YtbmcnieifibckaaGreatN5
import Derived.Test.YtbmcnieifibckaaGreatN4
import Derived.Test.YtbmcnieifibckaaGreatN6
set_option maxRecDepth 100000
set_option maxHeartbeats 2000000
set_option linter.unusedVariables false
set_option linter.unusedSimpArgs false
namespace Go.Abs.Wall
open Go Go.Abs Go.Proofs
section
variable {α:Type} {k:Nat} {enc:α->List AV}
theorem nM (hk:∀ a,(enc a).length=k) (L:List α):((L.map enc).flatten).length=L.length*k:=ub hk
theorem yp (hk:∀ a,(enc a).length=k):∀ (L:List α) (i:Nat),((L.map enc).flatten).drop (i*k)=((L.drop i).map enc).flatten
 | L,0=>by simp
 | [],i+1=>by simp
 | a::L,i+1=>by rw [List.map_cons,List.flatten_cons,List.drop_succ_cons,show (i+1)*k=(enc a).length+i*k by rw [hk,Nat.succ_mul,Nat.add_comm],List.drop_append,List.drop_eq_nil_of_le (Nat.le_add_right _ _),List.nil_append,Nat.add_sub_cancel_left];exact yp hk L i
theorem FO (hk:∀ a,(enc a).length=k):∀ (L:List α) (i:Nat),((L.map enc).flatten).take (i*k)=((L.take i).map enc).flatten
 | L,0=>by simp
 | [],i+1=>by simp
 | a::L,i+1=>by rw [List.map_cons,List.flatten_cons,List.take_succ_cons,List.map_cons,List.flatten_cons,show (i+1)*k=(enc a).length+i*k by rw [hk,Nat.succ_mul,Nat.add_comm],List.take_append,List.take_of_length_le (Nat.le_add_right _ _),Nat.add_sub_cancel_left];rw [FO hk L i]
theorem eR {P:Program} {t:TypeId} {b o i:Nat} {h:af} {L:List α} {x:α} {K:AV->Prop} (hk:∀ a,(enc a).length=k) (hm:(b,Ob.vec (L.map enc).flatten)∈h) (ho:o=i*k) (hx:L[i]?=some x)
  (hl:gy P t (enc x++((L.drop (i+1)).map enc).flatten) K):∃ cs l,(b,Ob.vec cs)∈h/\jd o cs=some l/\gy P t l K:=by
 obtain ⟨hi,ji⟩:=List.getElem?_eq_some_iff.1 hx;refine ⟨_,_,hm,Ci ?_,?_⟩
 ·rw [nM hk,ho];exact Nat.mul_le_mul_right k (by omega)
 rw [ho,yp hk,List.drop_eq_getElem_cons hi,ji,List.map_cons,List.flatten_cons];exact hl
theorem P2 (hk:∀ a,(enc a).length=k) {L:List α} {i:Nat} {y:α} (hi:i<L.length):dt (L.map enc).flatten (i*k) (enc y)=((L.set i y).map enc).flatten:=by unfold dt;rw [hk,FO hk,show i*k+k=(i+1)*k by rw [Nat.succ_mul],yp hk,List.set_eq_take_append_cons_drop,if_pos hi];simp
theorem py {b o i:Nat} {h h':af} {L:List α} {l:List AV} {K:AV->af->Prop} (y:α) (iO:0<k) (hk:∀ a,(enc a).length=k) (hi:i<L.length) (ho:o=i*k) (hl:l=enc y)
  (hu:cO b (.vec (L.map enc).flatten) b (.vec ((L.set i y).map enc).flatten) h h') (hK:K .unit h') :
  ∃ cs h',cO b (.vec cs) b (.vec (dt cs o l)) h h'/\(0<l.length/\o+l.length<=cs.length)/\K .unit h':=by
 subst ho hl;refine ⟨_,h',by rw [P2 hk hi];exact hu,⟨by rw [hk];exact iO,?_⟩,hK⟩;rw [hk,nM hk,<- Nat.succ_mul];exact Nat.mul_le_mul_right k hi
end
def wu {α:Type} (less:α->α->Bool) (u:α):List α->List α
 | []=>[u]
 | b::t=>if less u b=true then b::wu less u t else u::b::t
def fw {α:Type} (less:α->α->Bool) (L:List α) (u:α):List α:=(wu less u L.reverse).reverse
theorem MJ {α:Type} {less:α->α->Bool} {u:α}:∀ {l:List α},(wu less u l).Perm (u::l)
 | []=>.refl _
 | b::t=>by
   unfold wu;split
   ·exact (List.Perm.cons _ MJ).trans (.swap _ _ _)
   exact .refl _
theorem MK {α:Type} {less:α->α->Bool} {u:α} {l:List α}:(fw less l u).Perm (u::l):=by unfold fw;exact (List.reverse_perm _).trans (MJ.trans (List.Perm.cons _ (List.reverse_perm _)))
theorem UH {α:Type} {cmp:α->α->Int} (h:oZ cmp) {u:α}:∀ {l:List α},l.Pairwise (fun x y=>¬ cmp x y<0)->(wu (fun a b=>decide (cmp a b<0)) u l).Pairwise fun x y=>¬ cmp x y<0
 | [],_=>by simp [wu]
 | b::t,hl=>by
   rw [List.pairwise_cons] at hl;unfold wu;split
   ·rename_i hc;rw [decide_eq_true_eq] at hc;rw [List.pairwise_cons];refine ⟨fun x hx=>?_,UH h hl.2⟩;rcases List.mem_cons.1 (MJ.mem_iff.1 hx) with rfl|hx
    ·exact fun h2=>h.ud _ (h.tr _ _ _ hc h2)
    exact hl.1 x hx
   rename_i hc;rw [decide_eq_true_eq] at hc;rw [List.pairwise_cons,List.pairwise_cons];refine ⟨fun x hx=>?_,hl⟩;rcases List.mem_cons.1 hx with rfl|hx
   ·exact hc
   exact h.nt _ _ _ hc (hl.1 x hx)
theorem P3 {α:Type} {cmp:α->α->Int} (h:oZ cmp) {u:α} {l:List α} (hl:l.Pairwise fun x y=>¬ cmp y x<0):(fw (fun a b=>decide (cmp a b<0)) l u).Pairwise fun x y=>¬ cmp y x<0:=by unfold fw;rw [List.pairwise_reverse];exact UH h (by rw [List.pairwise_reverse];exact hl)
theorem Ft {α:Type} {less:α->α->Bool}:∀ {l acc:List α},(l.foldl (fw less) acc).Perm (l++acc)
 | [],acc=>.refl _
 | a::t,acc=>by rw [List.foldl_cons];exact Ft.trans ((List.Perm.append_left t MK).trans List.perm_middle)
theorem UI {α:Type} {cmp:α->α->Int} (h:oZ cmp):∀ {l acc:List α},acc.Pairwise (fun x y=>¬ cmp y x<0)->(l.foldl (fw fun a b=>decide (cmp a b<0)) acc).Pairwise fun x y=>¬ cmp y x<0
 | [],acc,ha=>ha
 | a::t,acc,ha=>by rw [List.foldl_cons];exact UI h (P3 h ha)
theorem NQ {α:Type} {cmp:α->α->Int} (h:oZ cmp) {l:List α} (ha:∀ x∈l,∀ y∈l,¬ cmp x y<0->¬ cmp y x<0->x=y):l.foldl (fw fun a b=>decide (cmp a b<0)) []=px cmp l:=
 h.unique ha (by have:=Ft (less:=fun a b=>decide (cmp a b<0)) (l:=l) (acc:=[]);rwa [List.append_nil] at this) (UI h .nil)
theorem IL {α:Type} {less:α->α->Bool} {u b:α} {A B:List α} (h:less u b=true):fw less (A++[b]) u++B=fw less A u++(b::B):=by unfold fw;rw [List.reverse_append,List.reverse_singleton,List.singleton_append,wu,if_pos h,List.reverse_cons,List.append_assoc];rfl
theorem IM {α:Type} {less:α->α->Bool} {u b:α} {A B:List α} (h:less u b=false):fw less (A++[b]) u++B=A++b::u::B:=by unfold fw;rw [List.reverse_append,List.reverse_singleton,List.singleton_append,wu,if_neg (by rw [h];decide),List.reverse_cons,List.reverse_cons,List.reverse_reverse,List.append_assoc,List.append_assoc];rfl
end Go.Abs.Wall
namespace Go.Abs.Wall
open Go Go.Abs Go.Proofs
def c113:az:=⟨[0,1,4],[],[],[],[],[]⟩
def c115:az:=⟨[0,2],[],[],[],[],[]⟩
def c114:az:=⟨[0,2],[],[],[],[],[]⟩
def c116:az:=⟨[0,2],[],[],[],[],[]⟩
def c61:az:=⟨[0,1,2,3,4,5,6,7,8,9,10,11,12,28,33,67,70,96,101,130,133,155,160,183,186,197],[],[4,6,8,11],[],[(24,[0,1,2,3,4,5,6,7,8,9,10,11,12,13,14,15,16,17,18,19],[]),(35,[0,1,2,3,4,5,6,7,8],[])],[]⟩
theorem ML (s:List UInt8) (most:Int) (hs:s.length<=aw):ae Tryz.prog 113 [.str s,.int .i64 most] [] (.bool (og s most)):=by
 refine aG (F:=Tryz.f113) c113 rfl rfl rfl mixed rfl fun X=>?_;(conv=>whnf);repeat (refine ba (Te s hs) ?_;conv=>whnf)
 refine ⟨congrArg AV.bool ?_,rfl⟩;unfold og;rw [Bool.and_comm (s.all tJ)];rfl
theorem MM (s:List UInt8) (hs:s.length<=aw):ae Tryz.prog 115 [.str s] [] (.bool (se s)):=by
 refine aG (F:=Tryz.f115) c115 rfl rfl rfl mixed rfl fun X=>?_;(conv=>whnf);repeat (refine ba (Td s hs) ?_;conv=>whnf)
 refine ⟨congrArg AV.bool ?_,rfl⟩;unfold se;rw [Bool.and_comm (s.all small)]
theorem UJ (n:Int):ae Tryz.prog 114 [.int .i64 n] [] (.bool (bI n 1 9)):=by refine aG (F:=Tryz.f114) c114 rfl rfl rfl mixed rfl fun X=>?_;(conv=>whnf);skip;exact ⟨rfl,rfl⟩
theorem MN (n:Int):ae Tryz.prog 116 [.int .i64 n] [] (.bool (bI n 0 1000)):=by refine aG (F:=Tryz.f116) c116 rfl rfl rfl mixed rfl fun X=>?_;(conv=>whnf);skip;exact ⟨rfl,rfl⟩
def HX (w:kW):Bool:=!og w.root 8||!bI w.kind 1 9||(!decide (w.cls=[])&&!se w.cls)||!bI w.weight 0 1000
def HY (w:lF):Bool:=!bI w.kind 1 9||!og w.text 4||!se w.name||!bI w.weight 0 1000
def HZ (w:iT):Bool:=!og w.text 4||!se w.name||!bI w.weight 0 1000
theorem Below.none {α:Type} {p:α->Bool} {l:List α} {i:Nat} (h:Below p l i):(l.take i).any p=false:=by
 rw [List.any_eq_false];intro y hy;obtain ⟨j,hj⟩:=List.mem_iff_getElem?.1 hy;rw [List.getElem?_take] at hj;split at hj
 ·rename_i h1;rw [h j y h1 hj];decide
 cases hj
theorem MO {α:Type} {p:α->Bool} {l:List α} {i k:Nat} {y:α} (hk:k<i) (hy:l[k]?=some y) (hp:p y=true):(l.take i).any p=true:=by rw [List.any_eq_true];exact ⟨y,List.mem_of_getElem? (i:=k) (by rw [List.getElem?_take,if_pos hk,hy]),hp⟩
set_option maxHeartbeats 2000000 in
theorem UK (x:Lex) (hx:rT x):ae Tryz.prog 61 [.agg (fq x)] [] (.int .i64 (iz x)):=by
 have sM:=hx.entries;have fk:=hx.bO;have vK:=hx.ar;unfold aw at sM fk vK;refine aG (F:=Tryz.f61) c61 rfl rfl rfl mixed rfl fun X=>?_;(conv=>whnf);skip;refine ⟨fun hc=>?_,fun hc=>?_⟩
 ·have hc:(decide (200<((x.entries.map fJ).length:Int))||decide (40<((x.bO.map jk).length:Int))||decide (10<((x.ar.map ib).length:Int)))=true:=hc;simp [or_assoc] at hc;(conv=>whnf);exact ⟨by rw [iz,if_pos (by omega)],rfl⟩
 have hc:(decide (200<((x.entries.map fJ).length:Int))||decide (40<((x.bO.map jk).length:Int))||decide (10<((x.ar.map ib).length:Int)))=false:=hc;simp at hc;have h0:iz x=if kr sf x.entries=true then 45 else if kr qg x.bO=true then 46 else if kr om x.ar=true then 47 else 0:=(by rw [iz,if_neg (by omega)]);(conv=>whnf);skip;refine bR rfl mixed [1,3] [] (fun m r h=>∃ (i:Nat),r=[(1,[],.au (fq x)),(3,[],.int .i64 i)]/\h=[]/\m=x.entries.length - i/\i<=x.entries.length/\kr sf x.entries=ko sf x.entries (x.entries.drop i) i) ?_ ?_
 ·(conv=>whnf);exact ⟨_,0,rfl,rfl,rfl,by omega,rfl⟩
 rintro m r h ⟨i,rfl,rfl,rfl,hi,hb⟩;(conv=>whnf);skip;refine ⟨fun he=>?_,fun he=>?_⟩<;>simp at he
 ·obtain ⟨w,hw⟩:=aL he;have hm:=List.mem_of_getElem? hw;rw [drop_cons hw,ko] at hb;(conv=>whnf);repeat ((first|refine ix (by assumption) ?_|refine ae.k0 (ML w.root 8 (hx.ee w hm).root) ?_|refine ba (UJ _) ?_|refine ba (MM w.cls (hx.ee w hm).cls) ?_|refine ba (MN _) ?_|refine ⟨_,_,bo.here _,⟨Nat.le_of_ble_eq_true rfl,rfl⟩,?_⟩|intro (nb:Nat));conv=>whnf)
  refine ⟨fun hd=>?_,fun hd=>?_⟩
  ·have hd:HX w=true:=hd;have hd:sf (x.entries.take i) w=true:=by show (HX w||(x.entries.take i).any (wk w))=true;rw [hd];rfl
   rw [hd,Bool.true_or] at hb;(conv=>whnf);exact ⟨by rw [h0,if_pos hb],rfl⟩
  have hd:HX w=false:=hd;have hd:sf (x.entries.take i) w=(x.entries.take i).any (wk w):=by show (HX w||(x.entries.take i).any (wk w))=_;rw [hd];rfl
  rw [hd] at hb;(conv=>whnf);skip;refine bR rfl mixed [1,3,4,5] [] (fun m r h=>∃ (k:Nat),r=[(1,[],.au (fq x)),(3,[],.int .i64 i),(4,[],.au (fJ w)),(5,[],.int .i64 k)]/\h=[]/\m=i - k/\k<=i/\Below (wk w) x.entries k) ?_ ?_
  ·(conv=>whnf);exact ⟨_,0,rfl,rfl,rfl,by omega,.zero⟩
  rintro m r h ⟨k,rfl,rfl,rfl,hk,hg⟩;(conv=>whnf);refine ⟨fun bw=>?_,fun bw=>?_⟩<;>simp at bw
  ·obtain ⟨v,hv⟩:=aL (l:=x.entries) (i:=k) (by omega);(conv=>whnf);repeat ((first|refine ix (by assumption) ?_|refine ⟨_,_,bo.here _,⟨Nat.le_of_ble_eq_true rfl,rfl⟩,?_⟩|intro (nb:Nat));conv=>whnf)
   refine ⟨fun hq=>?_,fun hq=>?_⟩
   ·have hq:wk w v=true:=hq;rw [MO bw hv hq,Bool.true_or] at hb;(conv=>whnf);exact ⟨by rw [h0,if_pos hb],rfl⟩
   have hq:wk w v=false:=hq;(conv=>whnf);repeat (refine ⟨ah ⟨by omega,by omega⟩,?_⟩;conv=>whnf)
   exact ⟨_,by omega,k+1,rfl,rfl,rfl,by omega,hg.succ hv hq⟩
  have zR:k=i:=(by omega);subst zR;rw [hg.none,Bool.false_or] at hb;(conv=>whnf);repeat (refine ⟨ah ⟨by omega,by omega⟩,?_⟩;conv=>whnf)
  exact ⟨_,by omega,k+1,rfl,rfl,rfl,by omega,hb⟩
 rw [drop_nil he,ko] at hb;have h1:iz x=if kr qg x.bO=true then 46 else if kr om x.ar=true then 47 else 0:=(by rw [h0,if_neg (by rw [hb];decide)]);(conv=>whnf);skip;refine bR rfl mixed [1,7] [] (fun m r h=>∃ (i:Nat),r=[(1,[],.au (fq x)),(7,[],.int .i64 i)]/\h=[]/\m=x.bO.length - i/\i<=x.bO.length/\kr qg x.bO=ko qg x.bO (x.bO.drop i) i) ?_ ?_
 ·(conv=>whnf);exact ⟨_,0,rfl,rfl,rfl,by omega,rfl⟩
 rintro m r h ⟨i,rfl,rfl,rfl,hi,hb⟩;(conv=>whnf);skip;refine ⟨fun he=>?_,fun he=>?_⟩<;>simp at he
 ·obtain ⟨w,hw⟩:=aL he;have hm:=List.mem_of_getElem? hw;rw [drop_cons hw,ko] at hb;(conv=>whnf);repeat ((first|refine ix (by assumption) ?_|refine ba (ML w.text 4 (hx.BF w hm).text) ?_|refine ae.k0 (UJ _) ?_|refine ba (MM w.name (hx.BF w hm).name) ?_|refine ba (MN _) ?_|refine ⟨_,_,bo.here _,⟨Nat.le_of_ble_eq_true rfl,rfl⟩,?_⟩|intro (nb:Nat));conv=>whnf)
  refine ⟨fun hd=>?_,fun hd=>?_⟩
  ·have hd:HY w=true:=hd;have hd:qg (x.bO.take i) w=true:=by show (HY w||(x.bO.take i).any (wm w))=true;rw [hd];rfl
   rw [hd,Bool.true_or] at hb;(conv=>whnf);exact ⟨by rw [h1,if_pos hb],rfl⟩
  have hd:HY w=false:=hd;have hd:qg (x.bO.take i) w=(x.bO.take i).any (wm w):=by show (HY w||(x.bO.take i).any (wm w))=_;rw [hd];rfl
  rw [hd] at hb;(conv=>whnf);skip;refine bR rfl mixed [1,7,8,9] [] (fun m r h=>∃ (k:Nat),r=[(1,[],.au (fq x)),(7,[],.int .i64 i),(8,[],.au (jk w)),(9,[],.int .i64 k)]/\h=[]/\m=i - k/\k<=i/\Below (wm w) x.bO k) ?_ ?_
  ·(conv=>whnf);exact ⟨_,0,rfl,rfl,rfl,by omega,.zero⟩
  rintro m r h ⟨k,rfl,rfl,rfl,hk,hg⟩;(conv=>whnf);refine ⟨fun bw=>?_,fun bw=>?_⟩<;>simp at bw
  ·obtain ⟨v,hv⟩:=aL (l:=x.bO) (i:=k) (by omega);(conv=>whnf);repeat ((first|refine ix (by assumption) ?_|refine And.intro (by show aP (aN Tryz.f61 _) _=true;decide +kernel) ?_);conv=>whnf)
   refine ⟨fun hq=>?_,fun hq=>?_⟩
   ·have hq:wm w v=true:=hq;rw [MO bw hv hq,Bool.true_or] at hb;(conv=>whnf);exact ⟨by rw [h1,if_pos hb],rfl⟩
   have hq:wm w v=false:=hq;(conv=>whnf);repeat (refine ⟨ah ⟨by omega,by omega⟩,?_⟩;conv=>whnf)
   exact ⟨_,by omega,k+1,rfl,rfl,rfl,by omega,hg.succ hv hq⟩
  have zR:k=i:=(by omega);subst zR;rw [hg.none,Bool.false_or] at hb;(conv=>whnf);repeat (refine ⟨ah ⟨by omega,by omega⟩,?_⟩;conv=>whnf)
  exact ⟨_,by omega,k+1,rfl,rfl,rfl,by omega,hb⟩
 rw [drop_nil he,ko] at hb;have h2:iz x=if kr om x.ar=true then 47 else 0:=(by rw [h1,if_neg (by rw [hb];decide)]);(conv=>whnf);skip;refine bR rfl mixed [1,10] [] (fun m r h=>∃ (i:Nat),r=[(1,[],.au (fq x)),(10,[],.int .i64 i)]/\h=[]/\m=x.ar.length - i/\i<=x.ar.length/\kr om x.ar=ko om x.ar (x.ar.drop i) i) ?_ ?_
 ·(conv=>whnf);exact ⟨_,0,rfl,rfl,rfl,by omega,rfl⟩
 rintro m r h ⟨i,rfl,rfl,rfl,hi,hb⟩;(conv=>whnf);skip;refine ⟨fun he=>?_,fun he=>?_⟩<;>simp at he
 ·obtain ⟨w,hw⟩:=aL he;have hm:=List.mem_of_getElem? hw;rw [drop_cons hw,ko] at hb;(conv=>whnf);repeat ((first|refine ix (by assumption) ?_|refine ae.k0 (ML w.text 4 (hx.ed w hm).text) ?_|refine ba (MM w.name (hx.ed w hm).name) ?_|refine ba (MN _) ?_|refine ⟨_,_,bo.here _,⟨Nat.le_of_ble_eq_true rfl,rfl⟩,?_⟩|intro (nb:Nat));conv=>whnf)
  refine ⟨fun hd=>?_,fun hd=>?_⟩
  ·have hd:HZ w=true:=hd;have hd:om (x.ar.take i) w=true:=by show (HZ w||(x.ar.take i).any (wo w))=true;rw [hd];rfl
   rw [hd,Bool.true_or] at hb;(conv=>whnf);exact ⟨by rw [h2,if_pos hb],rfl⟩
  have hd:HZ w=false:=hd;have hd:om (x.ar.take i) w=(x.ar.take i).any (wo w):=by show (HZ w||(x.ar.take i).any (wo w))=_;rw [hd];rfl
  rw [hd] at hb;(conv=>whnf);skip;refine bR rfl mixed [1,10,11,12] [] (fun m r h=>∃ (k:Nat),r=[(1,[],.au (fq x)),(10,[],.int .i64 i),(11,[],.au (ib w)),(12,[],.int .i64 k)]/\h=[]/\m=i - k/\k<=i/\Below (wo w) x.ar k) ?_ ?_
  ·(conv=>whnf);exact ⟨_,0,rfl,rfl,rfl,by omega,.zero⟩
  rintro m r h ⟨k,rfl,rfl,rfl,hk,hg⟩;(conv=>whnf);refine ⟨fun bw=>?_,fun bw=>?_⟩<;>simp at bw
  ·obtain ⟨v,hv⟩:=aL (l:=x.ar) (i:=k) (by omega);(conv=>whnf);repeat ((first|refine ix (by assumption) ?_|refine And.intro (by show aP (aN Tryz.f61 _) _=true;decide +kernel) ?_);conv=>whnf)
   refine ⟨fun hq=>?_,fun hq=>?_⟩
   ·have hq:wo w v=true:=hq;rw [MO bw hv hq,Bool.true_or] at hb;(conv=>whnf);exact ⟨by rw [h2,if_pos hb],rfl⟩
   have hq:wo w v=false:=hq;(conv=>whnf);repeat (refine ⟨ah ⟨by omega,by omega⟩,?_⟩;conv=>whnf)
   exact ⟨_,by omega,k+1,rfl,rfl,rfl,by omega,hg.succ hv hq⟩
  have zR:k=i:=(by omega);subst zR;rw [hg.none,Bool.false_or] at hb;(conv=>whnf);repeat (refine ⟨ah ⟨by omega,by omega⟩,?_⟩;conv=>whnf)
  exact ⟨_,by omega,k+1,rfl,rfl,rfl,by omega,hb⟩
 rw [drop_nil he,ko] at hb;have h3:iz x=0:=(by rw [h2,if_neg (by rw [hb];decide)]);(conv=>whnf);exact ⟨by rw [h3],rfl⟩
end Go.Abs.Wall
namespace Go.Abs.Wall
open Go Go.Abs Go.Proofs
def c107:az:=⟨[0,1,2,3,4,5,6,10,22,55,59,64,101],[],[],[],[(6,[0,1,2,3,4,5,6,7,8,9,10,11,12,13,14,15,16,17,18,19,20,21,22,23,24,25,26,27,28,29,30,31,32],[]),(13,[0,1,2,3,4,5,6,7,8,9,10,11,12,13,14,15,16,17,18,19,20,21,22,23,24,25,26,27,28,29,30,31,32,33,34],[])],[]⟩
def c166:az:=⟨[0,1,2,3,4,5,6,16,30],[],[],[],[(7,[0,1,2,3,4,5,6,7,8,9,10,11,12],[])],[]⟩
def c108:az:=⟨[0,1,2,3,4,5,6,11],[],[],[],[],[]⟩
def zY (l:List Int) (i:Nat):Int:=if i=0 then -1 else l.getD ((i:Int) - 1).toNat 0
theorem P4 {l:List Int} {i:Nat} {c:Int} (h:l[i]?=some c):zY l (i+1)=c:=by unfold zY;rw [if_neg (by omega),show (((i+1:Nat):Int) - 1).toNat=i by omega,List.getD_eq_getElem?_getD,h];rfl
theorem P5 (x:Lex) (f:aZ) (hx:rT x) (hf:f.ar.length<=aw):ae Tryz.prog 107 [.agg (fq x),.agg (eZ f)] [] (.int .i64 (dZ x f)):=by
 have sM:=hx.entries;have fk:=hx.bO;have vK:=hx.ar;unfold aw at sM fk vK hf;refine aG (F:=Tryz.f107) c107 rfl rfl rfl mixed rfl fun X=>?_;(conv=>whnf);repeat (refine ae.k0 (UK x hx) ?_;conv=>whnf)
 refine ⟨fun hc=>?_,fun hc=>?_⟩<;>simp at hc
 ·(conv=>whnf);skip;exact ⟨by rw [dZ,if_pos hc],rfl⟩
 (conv=>whnf);skip;refine ⟨fun hd=>?_,fun hd=>?_⟩
 ·have hd:(decide (f.entry<0)||decide (((x.entries.map fJ).length:Int)<=f.entry))=true:=hd;rw [List.length_map,Bool.or_eq_true,decide_eq_true_eq,decide_eq_true_eq] at hd;have hw:bI f.entry 0 ((x.entries.length:Int) - 1)=false:=by rw [<- Bool.not_eq_true,dY];omega
  (conv=>whnf);exact ⟨by rw [dZ,if_neg (by omega),if_pos hw],rfl⟩
 have hd:(decide (f.entry<0)||decide (((x.entries.map fJ).length:Int)<=f.entry))=false:=hd;rw [List.length_map,Bool.or_eq_false_iff,decide_eq_false_iff_not,decide_eq_false_iff_not] at hd;have hw:bI f.entry 0 ((x.entries.length:Int) - 1)=true:=by rw [dY];omega
 (conv=>whnf);repeat ((first|(refine rE (⟨0,[],[],0⟩:lF) ?_ ?_;(focus (conv=>whnf;skip));(focus (intro g0 g1;simp at g0 g1;show 0<=_/\_<_;omega)))|(refine rE (⟨[],0,[],0⟩:kW) ?_ ?_;(focus (conv=>whnf;skip));(focus (intro g0 g1;show 0<=_/\_<_;omega)))|refine And.intro (by show aP (aN Tryz.f107 _) _=true;decide +kernel) ?_);conv=>whnf)
 refine ⟨fun he=>?_,fun he=>?_⟩
 ·have he:(decide (f.ending < -1)||decide (((x.bO.map jk).length:Int)<=f.ending)||(decide (0<=f.ending)&&!decide ((iq x f.ending).kind=(bZ x f.entry).kind)))=true:=he;rw [List.length_map] at he
  have hb:sV x f=true:=by
   unfold sV bI;simp only [Bool.or_eq_true,Bool.and_eq_true,Bool.not_eq_true',decide_eq_true_eq,decide_eq_false_iff_not,Bool.and_eq_false_iff] at he ⊢;rcases he with (he|he)|he
   ·exact ⟨by omega,.inl (.inl (by omega))⟩
   ·exact ⟨by omega,.inl (.inr (by omega))⟩
   exact ⟨by omega,.inr he.2⟩
  (conv=>whnf);exact ⟨by rw [dZ,if_neg (by omega),if_neg (by rw [hw];decide),if_pos hb],rfl⟩
 have he:(decide (f.ending < -1)||decide (((x.bO.map jk).length:Int)<=f.ending)||(decide (0<=f.ending)&&!decide ((iq x f.ending).kind=(bZ x f.entry).kind)))=false:=he;rw [List.length_map] at he
 have hb:sV x f=false:=by
  unfold sV bI;simp only [Bool.or_eq_false_iff,Bool.and_eq_false_iff,Bool.not_eq_false',decide_eq_true_eq,decide_eq_false_iff_not,Bool.and_eq_true] at he ⊢;obtain ⟨⟨h1,h2⟩,h3⟩:=he;by_cases h4:f.ending = -1
  ·exact .inl h4
  exact .inr ⟨⟨by omega,by omega⟩,by rcases h3 with h3|h3;omega;exact h3⟩
 (conv=>whnf);skip;refine ⟨fun h3=>?_,fun h3=>?_⟩<;>simp at h3
 ·(conv=>whnf);exact ⟨by rw [dZ,if_neg (by omega),if_neg (by rw [hw];decide),if_neg (by rw [hb];decide),if_pos (by omega)],rfl⟩
 have hg:dZ x f=if iS x.ar.length f.ar (-1)=true then 0 else 47:=(by rw [dZ,if_neg (by omega),if_neg (by rw [hw];decide),if_neg (by rw [hb];decide),if_neg (by omega)]);(conv=>whnf);skip;refine bR rfl mixed [2,3,6] [] (fun m r h=>∃ (i:Nat),r=[(2,[],.au (fq x)),(3,[],.au (eZ f)),(6,[],.int .i64 i)]/\h=[]/\m=f.ar.length - i/\i<=f.ar.length/\-1<=zY f.ar i/\iS x.ar.length f.ar (-1)=iS x.ar.length (f.ar.drop i) (zY f.ar i)) ?_ ?_
 ·(conv=>whnf);exact ⟨_,0,rfl,rfl,rfl,by omega,by simp [zY],rfl⟩
 rintro m r h ⟨i,rfl,rfl,rfl,hi,hl,ck⟩;(conv=>whnf);skip;refine ⟨fun aD=>?_,fun aD=>?_⟩<;>simp at aD
 ·obtain ⟨c,hc⟩:=aL aD;rw [drop_cons hc,iS] at ck;have gW:=P4 hc;(conv=>whnf);repeat ((first|refine ⟨ah ⟨by omega,by omega⟩,?_⟩|refine ix (by assumption) ?_|(refine rE (enc:=fun y:Int=>[AV.int .i64 y]) (0:Int) ?_ ?_;(focus (conv=>whnf;skip));(focus (intro g0 g1;simp at g0 g1;show 0<=_/\_<_;omega)))|refine And.intro (by show aP (aN Tryz.f107 _) _=true;decide +kernel) ?_);conv=>whnf)
  have hz:(decide (c<0)||decide (((x.ar.map ib).length:Int)<=c)||(decide (0<(i:Int))&&decide (c<=f.ar.getD ((i:Int) - 1).toNat 0)))=(decide (c<=zY f.ar i)||decide ((x.ar.length:Int)<=c)):=by
   rw [List.length_map,Bool.eq_iff_iff];simp only [Bool.or_eq_true,Bool.and_eq_true,decide_eq_true_eq];unfold zY at hl ⊢;split
   ·rename_i h0;rw [if_pos h0] at hl;omega
   rename_i h0;rw [if_neg h0] at hl;omega
  refine ⟨fun hq=>?_,fun hq=>?_⟩
  ·have hq:=hz.symm.trans hq;rw [hq] at ck;(conv=>whnf);exact ⟨by rw [hg,ck];rfl,rfl⟩
  have hq:=hz.symm.trans hq;rw [hq] at ck;simp only [Bool.or_eq_false_iff,decide_eq_false_iff_not] at hq;(conv=>whnf);repeat (refine ⟨ah ⟨by omega,by omega⟩,?_⟩;conv=>whnf)
  exact ⟨_,by omega,i+1,rfl,rfl,rfl,by omega,by rw [gW];omega,by rw [gW,ck];rfl⟩
 rw [drop_nil aD,iS] at ck;(conv=>whnf);skip;exact ⟨by rw [hg,ck];rfl,rfl⟩
theorem P6 (x:Lex) (f:aZ) (h:lZ x f):ae Tryz.prog 166 [.agg (fq x),.agg (eZ f)] [] (.int .i64 (nm x f)):=by
 have dw:=h.bB;have Bu:=(h.lex.bZ h.entry.1 h.entry.2).weight;refine aG (F:=Tryz.f166) c166 rfl rfl rfl mixed rfl fun X=>?_;(conv=>whnf);repeat ((refine dg f.entry.toNat (by have:=h.entry;omega) (nZ h.entry.1 h.entry.2) ?_);conv=>whnf)
 refine ⟨fun he=>?_,fun he=>?_⟩<;>simp at he
 ·have ju:f.ending<x.bO.length:=by rcases h.ending with h|h<;>omega
  have oO:=(h.lex.iq he ju).weight;(conv=>whnf);repeat ((first|refine ⟨ah ⟨by omega,by omega⟩,?_⟩|(refine dg f.ending.toNat (by omega) (BG he ju) ?_));conv=>whnf)
  obtain ⟨n0,fM⟩:∃ n:Int,n=(bZ x f.entry).weight+(iq x f.ending).weight:=⟨_,rfl⟩;rw [<- fM];have jS:n0=(bZ x f.entry).weight+(if 0<=f.ending then (iq x f.ending).weight else 0):=by rw [if_pos he];exact fM
  replace fM:=jS;refine bR rfl mixed [2,3,5,6] [] (fun m r h=>∃ (i:Nat) (n:Int),r=[(2,[],.au (fq x)),(3,[],.au (eZ f)),(5,[],.int .i64 n),(6,[],.int .i64 i)]/\h=[]/\m=f.ar.length - i/\i<=f.ar.length/\n=n0+oq x (f.ar.take i)) ?_ ?_
  ·(conv=>whnf);exact ⟨_,0,n0,rfl,rfl,rfl,by omega,by simp [oq]⟩
  rintro m r h ⟨i,n,rfl,rfl,rfl,hi,hn⟩;(conv=>whnf);skip;refine ⟨fun aD=>?_,fun aD=>?_⟩<;>simp at aD
  ·obtain ⟨c,hc⟩:=aL aD;have bG:=h.ed c (List.mem_of_getElem? hc);have cV:=(h.lex.cQ bG.1 bG.2).weight;have hb:=BH h.lex (l:=f.ar.take i) fun d hd=>h.ed d (List.mem_of_mem_take hd);rw [List.length_take] at hb;have hs:=dj hc;(conv=>whnf);repeat ((first|refine ⟨ah ⟨by omega,by omega⟩,?_⟩|refine ix (by assumption) ?_|(refine dg c.toNat (by omega) (ll bG.1 bG.2) ?_)|refine And.intro (by show aP (aN Tryz.f166 _) _=true;decide +kernel) ?_);conv=>whnf)
   exact ⟨_,by omega,i+1,_,rfl,rfl,rfl,by omega,by rw [hs,HJ];omega⟩
  rw [List.take_of_length_le aD] at hn;(conv=>whnf);skip;refine ⟨congrArg (AV.int .i64) ?_,rfl⟩;rw [hn,fM];rfl
 (conv=>whnf);skip;obtain ⟨n0,fM⟩:∃ n:Int,n=(bZ x f.entry).weight:=⟨_,rfl⟩;rw [<- fM];have jS:n0=(bZ x f.entry).weight+(if 0<=f.ending then (iq x f.ending).weight else 0):=by rw [if_neg (by omega)];omega
 replace fM:=jS;refine bR rfl mixed [2,3,5,6] [] (fun m r h=>∃ (i:Nat) (n:Int),r=[(2,[],.au (fq x)),(3,[],.au (eZ f)),(5,[],.int .i64 n),(6,[],.int .i64 i)]/\h=[]/\m=f.ar.length - i/\i<=f.ar.length/\n=n0+oq x (f.ar.take i)) ?_ ?_
 ·(conv=>whnf);exact ⟨_,0,n0,rfl,rfl,rfl,by omega,by simp [oq]⟩
 rintro m r h ⟨i,n,rfl,rfl,rfl,hi,hn⟩;(conv=>whnf);skip;refine ⟨fun aD=>?_,fun aD=>?_⟩<;>simp at aD
 ·obtain ⟨c,hc⟩:=aL aD;have bG:=h.ed c (List.mem_of_getElem? hc);have cV:=(h.lex.cQ bG.1 bG.2).weight;have hb:=BH h.lex (l:=f.ar.take i) fun d hd=>h.ed d (List.mem_of_mem_take hd);rw [List.length_take] at hb;have hs:=dj hc;(conv=>whnf);repeat ((first|refine ⟨ah ⟨by omega,by omega⟩,?_⟩|refine ix (by assumption) ?_|(refine dg c.toNat (by omega) (ll bG.1 bG.2) ?_)|refine And.intro (by show aP (aN Tryz.f166 _) _=true;decide +kernel) ?_);conv=>whnf)
  exact ⟨_,by omega,i+1,_,rfl,rfl,rfl,by omega,by rw [hs,HJ];omega⟩
 rw [List.take_of_length_le aD] at hn;(conv=>whnf);skip;refine ⟨congrArg (AV.int .i64) ?_,rfl⟩;rw [hn,fM];rfl
theorem P7 (x:Lex) (f:aZ) (hx:rT x) (hf:f.ar.length<=aw):ae Tryz.prog 108 [.agg (fq x),.agg (eZ f)] [] (.aH [.int .i64 (if dZ x f=0 then nm x f else 0),.int .i64 (dZ x f)]):=by
 refine aG (F:=Tryz.f108) c108 rfl rfl rfl mixed rfl fun X=>?_;(conv=>whnf);repeat (refine ae.k0 (P5 x f hx hf) ?_;conv=>whnf)
 refine ⟨fun hc=>?_,fun hc=>?_⟩<;>simp at hc
 ·(conv=>whnf);skip;exact ⟨by rw [if_neg hc],rfl⟩
 (conv=>whnf);repeat (refine ae.k0 (P6 x f (mn hc)) ?_;conv=>whnf)
 exact ⟨by rw [if_pos hc,hc],rfl⟩
end Go.Abs.Wall
namespace Go.Abs.Wall
open Go Go.Abs Go.Proofs
def c25:az:=⟨[0,1,2,3,4,5,7,12,18,32,33,34,35,43,55],[],[5],[],[],[]⟩
def c130:az:=⟨[0,1,2,4,5,8,12,29],[],[],[],[(6,[0,1,2,3,4,5,6,7,8,9,10,11,12,13,14],[])],[]⟩
def c250:az:=⟨[0,1,2,3,4,9],[],[],[],[],[]⟩
def c232:az:=⟨[0,1,3,4,5,6,10,18,40],[],[],[],[(4,[0,1,2,3,4,5],[]),(8,[0,1,2,3,4,5,6,7,8,9,10,11,12,13],[]),(10,[0,1,2,3,4,5,6,7,8,9,10,11,12,13,14,15,16,17],[])],[]⟩
def c260:az:=⟨[0,1,2,4,5,6,11,31],[],[],[],[],[]⟩
def c231:az:=⟨[0,1,2,3,6,7,8,12,22,30],[],[],[],[],[]⟩
def c175:az:=⟨[0,1,2,4,5,7,8,9,22,34,35,44,50],[],[],[],[],[]⟩
theorem VQ (H:aj) (hh:dU H):ae Tryz.prog 25 [.agg (bu H)] [] (.int .i64 (eo H)):=by
 refine aG (F:=Tryz.f25) c25 rfl rfl rfl mixed rfl fun X=>?_;(conv=>whnf);repeat (refine ae.k0 (Tg H.list hh.list) ?_;conv=>whnf)
 refine ⟨fun hc=>?_,fun hc=>?_⟩<;>simp at hc
 ·(conv=>whnf);skip;exact ⟨by rw [eo,if_pos hc],rfl⟩
 (conv=>whnf);repeat (refine ae.k0 (UK H.lex hh.lex) ?_;conv=>whnf)
 refine ⟨fun hd=>?_,fun hd=>?_⟩<;>simp at hd
 ·(conv=>whnf);skip;exact ⟨by rw [eo,if_neg (by omega),if_pos hd],rfl⟩
 have h0:eo H=if (iV H.ct).all (bI · 0 1000)=false then 50 else if bI H.period 1 H.list.iZ=false then 13 else 0:=(by rw [eo,if_neg (by omega),if_neg (by omega)]);(conv=>whnf);repeat ((first|refine ⟨_,_,bo.here _,⟨Nat.le_of_ble_eq_true rfl,rfl⟩,?_⟩|intro (nb:Nat));conv=>whnf)
 refine bR rfl mixed [1,32,33,34] [] (fun m r h=>∃ (i:Nat),r=[(1,[],.au (bu H)),(32,[],.sl 1 none (ints (iV H.ct))),(33,[],.int .i64 5),(34,[],.int .i64 i)]/\h=[]/\m=5 - i/\i<=5/\(iV H.ct).all (bI · 0 1000)=((iV H.ct).drop i).all (bI · 0 1000)) ?_ ?_
 ·(conv=>whnf);exact ⟨_,0,rfl,rfl,rfl,by omega,rfl⟩
 rintro m r h ⟨i,rfl,rfl,rfl,hi,ha⟩;(conv=>whnf);refine ⟨fun he=>?_,fun he=>?_⟩<;>simp at he
 ·obtain ⟨c,hc⟩:=aL (l:=iV H.ct) (i:=i) (by simp [iV];omega);rw [drop_cons hc,List.all_cons] at ha;(conv=>whnf);repeat (refine ix (by assumption) ?_;conv=>whnf)
  refine ⟨fun hq=>?_,fun hq=>?_⟩
  ·have hq:(decide (c<0)||decide (1000<c))=true:=hq;have hw:bI c 0 1000=false:=by rw [<- Bool.not_eq_true,dY];simp at hq;omega
   rw [hw,Bool.false_and] at ha;(conv=>whnf);skip;exact ⟨by rw [h0,if_pos ha],rfl⟩
  have hq:(decide (c<0)||decide (1000<c))=false:=hq;have hw:bI c 0 1000=true:=by rw [dY];simp at hq;omega
  rw [hw,Bool.true_and] at ha;(conv=>whnf);repeat (refine ⟨ah ⟨by omega,by omega⟩,?_⟩;conv=>whnf)
  exact ⟨_,by omega,i+1,rfl,rfl,rfl,by omega,ha⟩
 rw [drop_nil (by simp [iV];omega)] at ha;have h1:eo H=if bI H.period 1 H.list.iZ=false then 13 else 0:=(by rw [h0,if_neg (by rw [ha];decide)]);(conv=>whnf);skip;refine ⟨fun hq=>?_,fun hq=>?_⟩
 ·have hq:(decide (H.period<1)||decide (H.list.iZ<H.period))=true:=hq;have hw:bI H.period 1 H.list.iZ=false:=by rw [<- Bool.not_eq_true,dY];simp at hq;omega
  (conv=>whnf);exact ⟨by rw [h1,if_pos hw],rfl⟩
 have hq:(decide (H.period<1)||decide (H.list.iZ<H.period))=false:=hq;have hw:bI H.period 1 H.list.iZ=true:=by rw [dY];simp at hq;omega
 (conv=>whnf);exact ⟨by rw [h1,if_neg (by rw [hw];decide)],rfl⟩
def iE (l:Lst) (line:List Int):Int:=if 60<line.length then 2 else if line.any (fun s=>!bI s 0 ((l.aA.length:Int) - 1))=true then 23 else 0
theorem P8 (l:Lst) (line:List Int) (hh:zO l) (hl:line.length<=aw):ae Tryz.prog 130 [.agg (qf l),.sl 1 none (ints line)] [] (.int .i64 (iE l line)):=by
 unfold aw at hl;refine aG (F:=Tryz.f130) c130 rfl rfl rfl mixed rfl fun X=>?_;(conv=>whnf);skip;refine ⟨fun hc=>?_,fun hc=>?_⟩<;>simp at hc
 ·(conv=>whnf);exact ⟨by rw [iE,if_pos (by omega)],rfl⟩
 have h0:iE l line=if line.any (fun s=>!bI s 0 ((l.aA.length:Int) - 1))=true then 23 else 0:=(by rw [iE,if_neg (by omega)]);(conv=>whnf);skip;refine bR rfl mixed [1,2,5] [] (fun m r h=>∃ (i:Nat),r=[(1,[],.sl 1 none (ints line)),(2,[],.au (qf l)),(5,[],.int .i64 i)]/\h=[]/\m=line.length - i/\i<=line.length/\line.any (fun s=>!bI s 0 ((l.aA.length:Int) - 1))=(line.drop i).any (fun s=>!bI s 0 ((l.aA.length:Int) - 1))) ?_ ?_
 ·(conv=>whnf);exact ⟨_,0,rfl,rfl,rfl,by omega,rfl⟩
 rintro m r h ⟨i,rfl,rfl,rfl,hi,ha⟩;(conv=>whnf);skip;refine ⟨fun he=>?_,fun he=>?_⟩<;>simp at he
 ·obtain ⟨c,hc⟩:=aL he;rw [drop_cons hc,List.any_cons] at ha;(conv=>whnf);repeat ((first|refine ix (by assumption) ?_|refine And.intro (by show aP (aN Tryz.f130 _) _=true;decide +kernel) ?_);conv=>whnf)
  refine ⟨fun hq=>?_,fun hq=>?_⟩
  ·have hq:(decide (c<0)||decide (((l.aA.map iX).length:Int)<=c))=true:=hq;rw [List.length_map] at hq;have hw:bI c 0 ((l.aA.length:Int) - 1)=false:=by rw [<- Bool.not_eq_true,dY];simp at hq;omega
   rw [hw,Bool.not_false,Bool.true_or] at ha;(conv=>whnf);skip;exact ⟨by rw [h0,if_pos ha],rfl⟩
  have hq:(decide (c<0)||decide (((l.aA.map iX).length:Int)<=c))=false:=hq;rw [List.length_map] at hq;have hw:bI c 0 ((l.aA.length:Int) - 1)=true:=by rw [dY];simp at hq;omega
  rw [hw,Bool.not_true,Bool.false_or] at ha;(conv=>whnf);repeat (refine ⟨ah ⟨by omega,by omega⟩,?_⟩;conv=>whnf)
  exact ⟨_,by omega,i+1,rfl,rfl,rfl,by omega,ha⟩
 rw [drop_nil he,List.any_nil] at ha;(conv=>whnf);skip;exact ⟨by rw [h0,if_neg (by rw [ha];decide)],rfl⟩
def nD (a b:ay):Bool:=decide (mb a b<0)
theorem MP (a b:ay):ae Tryz.prog 250 [.agg (aV a),.agg (aV b)] [] (.bool (nD a b)):=by
 refine aG (F:=Tryz.f250) c250 rfl rfl rfl mixed rfl fun X=>?_;(conv=>whnf);skip;have hu:mb a b=if cB a.kind b.kind≠0 then cB a.kind b.kind else qi a.text b.text:=by unfold mb;rw [HL]
 refine ⟨fun hq=>?_,fun hq=>?_⟩<;>simp at hq
 ·(conv=>whnf);skip;refine ⟨congrArg AV.bool ?_,rfl⟩;unfold nD;rw [hu,if_pos (by rw [ne_eq,si];exact hq),decide_eq_decide,xN]
 (conv=>whnf);skip;refine ⟨congrArg AV.bool ?_,rfl⟩;unfold nD;rw [hu,if_neg (by rw [ne_eq,si];simpa using hq),bytesLess_eq,decide_eq_decide,Eo]
def mh (L:List ay) (u:ay):List ay:=if u∈L then L else fw nD L u
theorem pa:∀ a:ay,(aV a).length=2:=fun _=>rfl
theorem IJ {α:Type} {A B:List α} {u:α} {n:Nat} (h:A.length=n):(A++u::B)[n]?=some u:=by subst h;simp
theorem MQ {α:Type} {k:Nat} {enc:α->List AV} {L:List α} {b n:Nat} (hn:L.length=n) (aJ:L≠[]):Row k enc L (.aQ b 0 n k) [(b,.vec (L.map enc).flatten)]:=by subst hn;exact .inr ⟨aJ,b,rfl,rfl⟩
theorem As {α:Type} {L:List α} {m:Nat} (h0:0<m) (hm:m<=L.length):∃ b,L[m - 1]?=some b/\L.take m=L.take (m - 1)++[b]/\L.drop (m - 1)=b::L.drop m:=by
 obtain ⟨b,hb⟩:=aL (l:=L) (i:=m - 1) (by omega);refine ⟨b,hb,?_,?_⟩
 ·have:=dj hb;rwa [show m - 1+1=m by omega] at this
 have:=drop_cons hb;rwa [show m - 1+1=m by omega] at this
theorem IK {α:Type} {A B:List α} {b u:α} {m:Nat} (hA:A.length=m - 1) (h0:0<m):(((A++[b])++u::B).set m b).set (m - 1) u=A++u::b::B:=by rw [List.append_assoc];rw [List.set_append_right _ _ (by omega),List.set_append_right _ _ (by omega)];rw [hA,show m - (m - 1)=1 by omega,show m - 1 - (m - 1)=0 by omega];rfl
theorem Ia (L:List ay) (u:ay) (v:AV) (hp:af) (hL:Row 2 aV L v hp) (hl:L.length+1<=aU) :
  aB Tryz.prog 232 [v,.agg (aV u)] hp (fun v' h'=>Row 2 aV (mh L u) v' h'):=by
 have fF:=hl;unfold aU at fF;rcases hL with ⟨fi,rfl,rfl⟩|⟨aJ,b,rfl,rfl⟩
 ·refine aG (F:=Tryz.f232) c232 rfl rfl rfl mixed rfl fun X=>?_;(conv=>whnf);refine yx 60 rfl mixed ?_;(conv=>whnf);refine .inr ?_;(conv=>whnf);skip;refine cF rfl ?_;(conv=>whnf);repeat ((first|(refine ⟨⟨Nat.le_of_ble_eq_true rfl,Nat.le_of_ble_eq_true rfl⟩,fun bb=>?_⟩)|(refine ⟨ah ⟨by simp,by simp⟩,?_⟩));conv=>whnf)
  have eT:mh L u=fw nD L u:=(by rw [mh,fi,if_neg (by simp)]);have gS:(L++[u]).length=L.length+1:=(by simp);refine bR rfl mixed [0,6] [] (fun m r h=>∃ (i:Nat) (R:List ay),r=[(0,[],.aQ bb 0 (L.length+1) 2),(6,[],.int .i64 i)]/\h=[(bb,.vec (R.map aV).flatten)]/\m=i/\i<=L.length/\R=L.take i++u::L.drop i/\fw nD L u=fw nD (L.take i) u++L.drop i) ?_ ?_
  ·(conv=>whnf);exact ⟨_,L.length,L++[u],by first|(rw [fi];rfl)|simp,by first|(rw [fi];rfl)|(rw [List.map_append,List.flatten_append];rfl),rfl,by omega,by simp,by simp⟩
  rintro m r h ⟨i,R,rfl,rfl,rfl,hi,hR,hb⟩;have wH:R.length=L.length+1:=by rw [hR];simp;omega
  have vf:R[m]?=some u:=by rw [hR];exact IJ (by rw [List.length_take];omega)
  obtain ⟨pv,kF⟩:=aL (l:=R) (i:=((m:Int) - 1).toNat) (by omega);(conv=>whnf);repeat ((first|refine ⟨ah ⟨by omega,by omega⟩,?_⟩|(refine fx (i:=m) (by omega) ?_)|(refine yy ?_ ?_;(focus (conv=>whnf;skip));(focus (intro g0;simp at g0;show 0<=_/\_<_;omega)))|(refine eR pa (.head _) (Nat.zero_add _) vf ?_)|(refine eR pa (.head _) (Nat.zero_add _) kF ?_)|refine ba (MP u pv) ?_|refine And.intro (by show aP (aN Tryz.f232 _) _=true;decide +kernel) ?_);conv=>whnf)
  refine ⟨fun hq=>?_,fun hq=>?_⟩
  ·have hq:(decide (0<(m:Int))&&nD u pv)=true:=hq;rw [Bool.and_eq_true,decide_eq_true_eq] at hq;obtain ⟨c,hc,h1,h2⟩:=As (L:=L) (m:=m) (by omega) hi;have jj:pv=c:=by rw [show ((m:Int) - 1).toNat=m - 1 by omega,hR,h1,List.append_assoc,List.getElem?_append_right (by rw [List.length_take];omega),List.length_take,show m - 1 - min (m - 1) L.length=0 by omega] at kF;exact (Option.some.inj kF).symm
   subst jj;have Ck:R[m - 1]?=some pv:=(by rw [<- kF,show ((m:Int) - 1).toNat=m - 1 by omega]);have Cm:(R.set m pv).set (m - 1) u=L.take (m - 1)++u::L.drop (m - 1):=by rw [hR,h1,h2];exact IK (by rw [List.length_take];omega) (by omega)
   (conv=>whnf);repeat ((first|refine ⟨ah ⟨by omega,by omega⟩,?_⟩|(refine fx (i:=m) (by omega) ?_)|(refine ⟨m - 1,ah ⟨by omega,by omega⟩,?_⟩)|(refine eR pa (.head _) (Nat.zero_add _) vf ?_)|(refine eR pa (.head _) (Nat.zero_add _) Ck ?_)|(refine py pv (by decide) pa (i:=m) (by omega) (Nat.zero_add _) rfl (.here _) ?_)|(refine py u (by decide) pa (i:=m - 1) (by simp;omega) (Nat.zero_add _) rfl (.here _) ?_)|refine And.intro (by show aP (aN Tryz.f232 _) _=true;decide +kernel) ?_);conv=>whnf)
   exact ⟨m - 1,by omega,m - 1,_,by rw [show (m:Int) - 1=((m - 1:Nat):Int) by omega],rfl,rfl,by omega,Cm,by rw [hb,h1,IL hq.2,h2]⟩
  have hq:(decide (0<(m:Int))&&nD u pv)=false:=hq
  have dV:R=mh L u:=by
   rw [eT,hb,hR];by_cases h0:m=0
   ·subst h0;rfl
   obtain ⟨c,hc,h1,h2⟩:=As (L:=L) (m:=m) (by omega) hi;have jj:pv=c:=by rw [show ((m:Int) - 1).toNat=m - 1 by omega,hR,h1,List.append_assoc,List.getElem?_append_right (by rw [List.length_take];omega),List.length_take,show m - 1 - min (m - 1) L.length=0 by omega] at kF;exact (Option.some.inj kF).symm
   subst jj;rw [h1,IM (by rw [Bool.and_eq_false_iff,decide_eq_false_iff_not] at hq;rcases hq with hq|hq;omega;exact hq),List.append_assoc];rfl
  (conv=>whnf);skip;rw [<- dV];exact MQ wH (by intro h;rw [h] at wH;simp at wH)
 refine aG (F:=Tryz.f232) c232 rfl rfl rfl mixed rfl fun X=>?_;(conv=>whnf);refine bR rfl mixed [0,3,5] [] (fun m r h=>∃ (i:Nat),r=[(0,[],.aQ b 0 L.length 2),(3,[],.au (aV u)),(5,[],.int .i64 i)]/\h=[(b,.vec (L.map aV).flatten)]/\m=L.length - i/\i<=L.length/\∀ j x,j<i->L[j]?=some x->x≠u) ?_ ?_
 ·(conv=>whnf);exact ⟨_,0,rfl,rfl,rfl,by omega,fun j x h=>by omega⟩
 rintro m r h ⟨i,rfl,rfl,rfl,hi,hg⟩;(conv=>whnf);skip;refine ⟨fun he=>?_,fun he=>?_⟩<;>simp only [decide_eq_true_eq,decide_eq_false_iff_not] at he
 ·obtain ⟨x,hx⟩:=aL (l:=L) (i:=i) (by omega);(conv=>whnf);repeat ((first|(refine fx (i:=i) (by omega) ?_)|(refine eR pa (.head _) (Nat.zero_add _) hx ?_)|(refine ⟨My,?_⟩)|refine And.intro (by show aP (aN Tryz.f232 _) _=true;decide +kernel) ?_);conv=>whnf)
  refine ⟨fun hq=>?_,fun hq=>?_⟩
  ·have hq:pI x u=true:=hq;rw [AF,decide_eq_true_eq] at hq;subst hq;(conv=>whnf);skip;rw [mh,if_pos (List.mem_of_getElem? hx)];exact MQ rfl aJ
  have hq:pI x u=false:=hq;rw [AF,decide_eq_false_iff_not] at hq;(conv=>whnf);repeat (refine ⟨ah ⟨by omega,by omega⟩,?_⟩;conv=>whnf)
  refine ⟨_,by omega,i+1,rfl,rfl,rfl,by omega,fun j y hj hy=>?_⟩;by_cases h1:j=i
  ·subst h1;rw [hx] at hy;cases hy
   exact hq
  exact hg j y (by omega) hy
 have eT:mh L u=fw nD L u:=by rw [mh,if_neg];intro hm;obtain ⟨j,hj⟩:=List.mem_iff_getElem?.1 hm;exact hg j u (by have:=(List.getElem?_eq_some_iff.1 hj).1;omega) hj rfl
 (conv=>whnf);repeat ((first|(refine ⟨_,.head _,⟨ub pa,hl⟩,fun bb=>⟨_,.here _,?_⟩⟩)|(refine ⟨ah ⟨by simp<;>omega,by simp<;>omega⟩,?_⟩));conv=>whnf)
 have gS:(L++[u]).length=L.length+1:=(by simp);refine bR rfl mixed [0,6] [] (fun m r h=>∃ (i:Nat) (R:List ay),r=[(0,[],.aQ bb 0 (L.length+1) 2),(6,[],.int .i64 i)]/\h=[(bb,.vec (R.map aV).flatten)]/\m=i/\i<=L.length/\R=L.take i++u::L.drop i/\fw nD L u=fw nD (L.take i) u++L.drop i) ?_ ?_
 ·(conv=>whnf);exact ⟨_,L.length,L++[u],by first|(rw [fi];rfl)|simp,by first|(rw [fi];rfl)|(rw [List.map_append,List.flatten_append];rfl),rfl,by omega,by simp,by simp⟩
 rintro m r h ⟨i,R,rfl,rfl,rfl,hi,hR,hb⟩;have wH:R.length=L.length+1:=by rw [hR];simp;omega
 have vf:R[m]?=some u:=by rw [hR];exact IJ (by rw [List.length_take];omega)
 obtain ⟨pv,kF⟩:=aL (l:=R) (i:=((m:Int) - 1).toNat) (by omega);(conv=>whnf);repeat ((first|refine ⟨ah ⟨by omega,by omega⟩,?_⟩|(refine fx (i:=m) (by omega) ?_)|(refine yy ?_ ?_;(focus (conv=>whnf;skip));(focus (intro g0;simp at g0;show 0<=_/\_<_;omega)))|(refine eR pa (.head _) (Nat.zero_add _) vf ?_)|(refine eR pa (.head _) (Nat.zero_add _) kF ?_)|refine ba (MP u pv) ?_|refine And.intro (by show aP (aN Tryz.f232 _) _=true;decide +kernel) ?_);conv=>whnf)
 refine ⟨fun hq=>?_,fun hq=>?_⟩
 ·have hq:(decide (0<(m:Int))&&nD u pv)=true:=hq;rw [Bool.and_eq_true,decide_eq_true_eq] at hq;obtain ⟨c,hc,h1,h2⟩:=As (L:=L) (m:=m) (by omega) hi;have jj:pv=c:=by rw [show ((m:Int) - 1).toNat=m - 1 by omega,hR,h1,List.append_assoc,List.getElem?_append_right (by rw [List.length_take];omega),List.length_take,show m - 1 - min (m - 1) L.length=0 by omega] at kF;exact (Option.some.inj kF).symm
  subst jj;have Ck:R[m - 1]?=some pv:=(by rw [<- kF,show ((m:Int) - 1).toNat=m - 1 by omega]);have Cm:(R.set m pv).set (m - 1) u=L.take (m - 1)++u::L.drop (m - 1):=by rw [hR,h1,h2];exact IK (by rw [List.length_take];omega) (by omega)
  (conv=>whnf);repeat ((first|refine ⟨ah ⟨by omega,by omega⟩,?_⟩|(refine fx (i:=m) (by omega) ?_)|(refine ⟨m - 1,ah ⟨by omega,by omega⟩,?_⟩)|(refine eR pa (.head _) (Nat.zero_add _) vf ?_)|(refine eR pa (.head _) (Nat.zero_add _) Ck ?_)|(refine py pv (by decide) pa (i:=m) (by omega) (Nat.zero_add _) rfl (.here _) ?_)|(refine py u (by decide) pa (i:=m - 1) (by simp;omega) (Nat.zero_add _) rfl (.here _) ?_)|refine And.intro (by show aP (aN Tryz.f232 _) _=true;decide +kernel) ?_);conv=>whnf)
  exact ⟨m - 1,by omega,m - 1,_,by rw [show (m:Int) - 1=((m - 1:Nat):Int) by omega],rfl,rfl,by omega,Cm,by rw [hb,h1,IL hq.2,h2]⟩
 have hq:(decide (0<(m:Int))&&nD u pv)=false:=hq
 have dV:R=mh L u:=by
  rw [eT,hb,hR];by_cases h0:m=0
  ·subst h0;rfl
  obtain ⟨c,hc,h1,h2⟩:=As (L:=L) (m:=m) (by omega) hi;have jj:pv=c:=by rw [show ((m:Int) - 1).toNat=m - 1 by omega,hR,h1,List.append_assoc,List.getElem?_append_right (by rw [List.length_take];omega),List.length_take,show m - 1 - min (m - 1) L.length=0 by omega] at kF;exact (Option.some.inj kF).symm
  subst jj;rw [h1,IM (by rw [Bool.and_eq_false_iff,decide_eq_false_iff_not] at hq;rcases hq with hq|hq;omega;exact hq),List.append_assoc];rfl
 (conv=>whnf);skip;rw [<- dV];exact MQ wH (by intro h;rw [h] at wH;simp at wH)
def mi (p:Int) (v:db):Bool:=bI p v.fr v.to
theorem P9 {α:Type} {l:List α} {i:Nat} {x:α} {f:α->Bool} (h:l[i]?=some x):(l.take (i+1)).filter f=(l.take i).filter f++(if f x=true then [x] else []):=by rw [dj h,List.filter_append];congr 1;by_cases hf:f x=true<;>simp [hf]
theorem Q1 (s:eL) (p:Int) (hs:s.values.length<=1048576):ae Tryz.prog 260 [.agg (iX s),.int .i64 p] [] (.sl 4 none ((s.values.filter (mi p)).map gh)):=by
 refine ae.of (aG (F:=Tryz.f260) c260 rfl rfl rfl mixed rfl fun X=>?_);(conv=>whnf);skip;refine bW rfl mixed [1,2,5,6] [] (fun m r h=>∃ (i:Nat) (v:AV) (hp:af),r=[(1,[],.int .i64 p),(2,[],.au (iX s)),(5,[],v),(6,[],.int .i64 i)]/\h=hp/\m=s.values.length - i/\i<=s.values.length/\Out 4 gh ((s.values.take i).filter (mi p)) v hp) ?_ ?_
 ·(conv=>whnf);exact ⟨_,_,ao.refl _ _,_,0,_,_,rfl,rfl,rfl,by omega,.inl ⟨rfl,rfl,rfl⟩⟩
 rintro m r h' ⟨i,v,hp,rfl,rfl,rfl,hi,ho⟩;(conv=>whnf);skip;refine ⟨fun aD=>?_,fun aD=>?_⟩<;>simp at aD
 ·obtain ⟨x,hx⟩:=aL aD;have cj:=P9 (f:=mi p) hx;have hlen:((s.values.take i).filter (mi p)).length<=i:=by have:=List.length_filter_le (mi p) (s.values.take i);rw [List.length_take] at this;omega
  (conv=>whnf);repeat (refine ix (by assumption) ?_;conv=>whnf)
  refine ⟨fun hq=>?_,fun hq=>?_⟩
  ·have hq:mi p x=true:=hq;rw [hq,if_pos rfl] at cj;rcases ho with ⟨he,rfl,rfl⟩|⟨q,rfl,rfl⟩
   all_goals
    (conv=>whnf);repeat ((first|refine ⟨ah ⟨by omega,by omega⟩,?_⟩|refine ix (by assumption) ?_|(refine ⟨Nat.le_of_ble_eq_true rfl,fun q'=>?_⟩)|(refine ⟨(by simp;unfold aU;omega),fun q'=>⟨_,.here _,?_⟩⟩));conv=>whnf)
    refine ⟨_,_,ao.refl _ _,_,(by omega),i+1,_,_,rfl,rfl,rfl,by omega,.inr ⟨q',?_,rfl⟩⟩;rw [cj,List.map_append];first|rfl|(rw [he];rfl)
  have hq:mi p x=false:=hq;rw [if_neg (by rw [hq];decide),List.append_nil] at cj;(conv=>whnf);repeat (refine ⟨ah ⟨by omega,by omega⟩,?_⟩;conv=>whnf)
  exact ⟨_,_,ao.refl _ _,_,(by omega),i+1,_,_,rfl,rfl,rfl,by omega,by rw [cj];exact ho⟩
 rw [List.take_of_length_le aD] at ho;(conv=>whnf);skip;exact ho.le (by decide)
theorem Q2 (l:Lst) (n p:Int) (s:eL) (hl:zO l) (h0:0<=n) (hs:l.aA[n.toNat]?=some s) (hv:s.values.length<=1048576) (he:lr l=0) (hp:1<=p/\p<=l.iZ) :
  ae Tryz.prog 231 [.agg (qf l),.int .i64 n,.int .i64 p] [] (.aH [.sl 4 none ((s.values.filter (mi p)).map gh),.int .i64 0]):=by
 have aI:=(List.getElem?_eq_some_iff.1 hs).1;refine aG (F:=Tryz.f231) c231 rfl rfl rfl mixed rfl fun X=>?_;(conv=>whnf);repeat (refine ae.k0 (Tg l hl) ?_;conv=>whnf)
 rw [he];refine cF rfl ?_;(conv=>whnf);skip;refine cF (by rw [List.length_map];simp;omega) ?_;(conv=>whnf);skip;refine cF (by simp;omega) ?_;(conv=>whnf);repeat ((first|(refine dg n.toNat (by omega) hs ?_)|refine ae.k0 (Q1 s p hv) ?_);conv=>whnf)
 exact ⟨rfl,rfl⟩
def tN (vs:List db) (L:List ay):List ay:=vs.foldl (fun L v=>(ku v).foldl mh L) L
theorem UM (L:List ay) (u:ay):(mh L u).length<=L.length+1:=by
 unfold mh;split
 ·omega
 rw [MK.length_eq];simp
theorem UN:∀ (us:List ay) (L:List ay),(us.foldl mh L).length<=L.length+us.length
 | [],L=>by simp
 | u::us,L=>by have h1:=UM L u;have h2:=UN us (mh L u);rw [List.foldl_cons,List.length_cons];omega
theorem UO:∀ (vs:List db) (L:List ay),(tN vs L).length<=L.length+2*vs.length
 | [],L=>by simp [tN]
 | v::vs,L=>by have h1:=UN (ku v) L;have h2:=TY v;have h3:=UO vs ((ku v).foldl mh L);unfold tN at h3 ⊢;rw [List.foldl_cons,List.length_cons];omega
theorem Q3 (vs:List db) (v:db) (L:List ay):tN (vs++[v]) L=(ku v).foldl mh (tN vs L):=by unfold tN;rw [List.foldl_append];rfl
def Ib (p:Int) (s:eL):List ay:=tN (s.values.filter (mi p)) []
end Go.Abs.Wall
namespace Go.Abs.Wall
open Go Go.Abs Go.Proofs
theorem MR (v:db):(v.kind=1/\ku v=[⟨1,v.text⟩,⟨3,v.text⟩])\/(v.kind=2/\ku v=[⟨2,v.text⟩])\/(v.kind=3/\ku v=[⟨4,v.text⟩])\/(v.kind≠1/\v.kind≠2/\v.kind≠3/\ku v=[]):=by
 unfold ku;by_cases h1:v.kind=1
 ·exact .inl ⟨h1,by rw [if_pos h1]⟩
 by_cases h2:v.kind=2
 ·exact .inr (.inl ⟨h2,by rw [if_neg h1,if_pos h2]⟩)
 by_cases h3:v.kind=3
 ·exact .inr (.inr (.inl ⟨h3,by rw [if_neg h1,if_neg h2,if_pos h3]⟩))
 exact .inr (.inr (.inr ⟨h1,h2,h3,by rw [if_neg h1,if_neg h2,if_neg h3]⟩))
theorem Q4 (H:aj) (n:Int) (s:eL) (hf:dU H) (hH:jg H) (h0:0<=n) (hs:H.list.aA[n.toNat]?=some s) :
  aB Tryz.prog 175 [.agg (bu H),.int .i64 n] [] (fun v h'=>∃ hp Z,Row 2 aV (Ib H.period s) v hp/\h'=hp++Z):=by
 have zz:=((qA hH.nN).each _ (List.mem_of_getElem? hs)).bB;obtain ⟨vs,lA⟩:∃ vs,vs=s.values.filter (mi H.period):=⟨_,rfl⟩;have Ei:vs.length<=12:=by have:=List.length_filter_le (mi H.period) s.values;rw [lA];omega
 have hM:Ib H.period s=tN vs []:=by rw [lA];rfl
 refine aG (F:=Tryz.f175) c175 rfl rfl rfl mixed rfl fun X=>?_;(conv=>whnf);repeat (refine ae.k0 (Q2 H.list n H.period s hf.list h0 hs (by omega) hH.nN hH.period) ?_;conv=>whnf)
 rw [<- lA];refine bW rfl mixed [5,7,8] [] (fun m r h=>∃ (i:Nat) (v:AV) (hp:af),r=[(5,[],.sl 4 none (vs.map gh)),(7,[],v),(8,[],.int .i64 i)]/\h=hp/\m=vs.length - i/\i<=vs.length/\Row 2 aV (tN (vs.take i) []) v hp) ?_ ?_
 ·(conv=>whnf);exact ⟨_,_,ao.sF (.cons (ag.refl _) (.cons Ar (.cons (ag.refl _) .nil))),_,0,.gZ,[],rfl,rfl,rfl,by omega,.inl ⟨rfl,rfl,rfl⟩⟩
 rintro m r h' ⟨i,v,hp,rfl,rfl,rfl,hi,hr⟩;(conv=>whnf);skip;refine ⟨fun aD=>?_,fun aD=>?_⟩<;>simp at aD
 ·obtain ⟨x,hx⟩:=aL aD;have cj:=dj hx;have bd:=Q3 (vs.take i) x [];rw [<- cj] at bd;have hlen:=UO (vs.take i) [];rw [List.length_take,List.length_nil] at hlen;rcases MR x with ⟨hk,hu⟩|⟨hk,hu⟩|⟨hk,hu⟩|⟨cX,bw,ot,hu⟩
  ·rw [hu,List.foldl_cons,List.foldl_cons,List.foldl_nil] at bd;have sS:=UM (tN (vs.take i) []) ⟨1,x.text⟩;(conv=>whnf);repeat (refine ix (by assumption) ?_;conv=>whnf)
   refine cT (by simp [hk]) ?_;(conv=>whnf);skip;refine aB.mono ?_ (Ia _ ⟨1,x.text⟩ v h' hr (by unfold aU;omega));intro v1 h1 qM;(conv=>whnf);skip;refine aB.mono ?_ (Ia _ ⟨3,x.text⟩ v1 h1 qM (by unfold aU;omega));intro v2 h2 vI;(conv=>whnf);repeat (refine ⟨ah ⟨by omega,by omega⟩,?_⟩;conv=>whnf)
   exact ⟨_,_,ao.refl _ _,_,(by omega),i+1,_,_,rfl,rfl,rfl,by omega,by rw [bd];exact vI⟩
  ·rw [hu,List.foldl_cons,List.foldl_nil] at bd;(conv=>whnf);repeat (refine ix (by assumption) ?_;conv=>whnf)
   refine cF (by simp [hk]) ?_;(conv=>whnf);skip;refine cT (by simp [hk]) ?_;(conv=>whnf);skip;refine aB.mono ?_ (Ia _ ⟨2,x.text⟩ v h' hr (by unfold aU;omega));intro v1 h1 qM;(conv=>whnf);repeat (refine ⟨ah ⟨by omega,by omega⟩,?_⟩;conv=>whnf)
   exact ⟨_,_,ao.refl _ _,_,(by omega),i+1,_,_,rfl,rfl,rfl,by omega,by rw [bd];exact qM⟩
  ·rw [hu,List.foldl_cons,List.foldl_nil] at bd;(conv=>whnf);repeat (refine ix (by assumption) ?_;conv=>whnf)
   refine cF (by simp [hk]) ?_;(conv=>whnf);skip;refine cF (by simp [hk]) ?_;(conv=>whnf);skip;refine cT (by simp [hk]) ?_;(conv=>whnf);skip;refine aB.mono ?_ (Ia _ ⟨4,x.text⟩ v h' hr (by unfold aU;omega));intro v1 h1 qM;(conv=>whnf);repeat (refine ⟨ah ⟨by omega,by omega⟩,?_⟩;conv=>whnf)
   exact ⟨_,_,ao.refl _ _,_,(by omega),i+1,_,_,rfl,rfl,rfl,by omega,by rw [bd];exact qM⟩
  rw [hu,List.foldl_nil] at bd;(conv=>whnf);repeat (refine ix (by assumption) ?_;conv=>whnf)
  refine cF (by simp [cX]) ?_;(conv=>whnf);skip;refine cF (by simp [bw]) ?_;(conv=>whnf);skip;refine cF (by simp [ot]) ?_;(conv=>whnf);repeat (refine ⟨ah ⟨by omega,by omega⟩,?_⟩;conv=>whnf)
  exact ⟨_,_,ao.refl _ _,_,(by omega),i+1,_,_,rfl,rfl,rfl,by omega,by rw [bd];exact hr⟩
 rw [List.take_of_length_le aD] at hr;(conv=>whnf);skip;exact ⟨h',[],by rw [hM];exact hr,(List.append_nil _).symm⟩
theorem UP {u:ay} {v:db} (h:u∈ku v):v.text=u.text/\v.kind=(if u.kind=2 then 2 else if u.kind=4 then 3 else 1):=by
 rcases MR v with ⟨hk,e⟩|⟨hk,e⟩|⟨hk,e⟩|⟨_,_,_,e⟩<;>rw [e] at h<;>simp at h
 ·rcases h with rfl|rfl<;>simp [hk]
 ·subst h;simp [hk]
 subst h;simp [hk]
theorem Q5 (v:db):(ku v).Nodup:=by rcases MR v with ⟨hk,e⟩|⟨hk,e⟩|⟨hk,e⟩|⟨_,_,_,e⟩<;>rw [e]<;>simp
theorem Q6 {p:Int} {v w:db} (hm:nz v w=false) (hv:mi p v=true) (hw:mi p w=true):∀ u∈ku v,u ∉ ku w:=by
 have Q7:¬ (v.kind=w.kind/\v.text=w.text):=by rintro ⟨h1,h2⟩;unfold mi at hv hw;rw [dY] at hv hw;unfold nz at hm;rw [decide_eq_true h1,decide_eq_true h2,decide_eq_true (show v.fr<=w.to by omega),decide_eq_true (show w.fr<=v.to by omega)] at hm;cases hm
 intro u hu js;have h1:=UP hu;have h2:=UP js;exact Q7 ⟨h1.2.trans h2.2.symm,h1.1.trans h2.1.symm⟩
def Ic (p:Int):List db->Prop
 | []=>True
 | v::t=>(∀ w∈t,mi p v=true->mi p w=true->nz w v=false)/\Ic p t
theorem Q8 {l:Lst} {b:List db} {v:db} (h:mI l b v=0):∀ w∈b,nz v w=false:=by
 unfold mI at h;split at h
 ·cases h
 split at h
 ·cases h
 split at h
 ·cases h
 rename_i h3;rw [Bool.not_eq_true,List.any_eq_false] at h3;exact fun w hw=>by simpa using h3 w hw
theorem UQ {l:Lst} {vs:List db}:∀ {t:List db} {i:Nat},vs.drop i=t->ri l vs t i=0->∀ j v,i<=j->vs[j]?=some v->mI l (vs.take j) v=0
 | [],i,hd,h,j,v,hj,hv=>by have:=(List.getElem?_eq_some_iff.1 hv).1;have hl:=congrArg List.length hd;rw [List.length_drop,List.length_nil] at hl;omega
 | a::t,i,hd,h,j,v,hj,hv=>by
   unfold ri at h;split at h
   ·rename_i h1;exact absurd h h1
   rename_i h1;by_cases HA:j=i
   ·subst HA;have:vs[j]?=some a:=by have:=congrArg (fun z=>z[0]?) hd;simpa using this
    rw [hv] at this;cases this
    exact by simpa using h1
   exact UQ (t:=t) (i:=i+1) (by have:=congrArg List.tail hd;simpa [List.tail_drop] using this) h j v (by omega) hv
theorem UR {p:Int}:∀ {vs:List db},(∀ (j k:Nat) v w,j<k->vs[j]?=some v->vs[k]?=some w->nz w v=false)->Ic p vs
 | [],_=>trivial
 | a::t,h=>⟨fun w hw _ _=>by
    obtain ⟨k,hk⟩:=List.mem_iff_getElem?.1 hw;exact h 0 (k+1) a w (by omega) rfl (by simpa using hk),UR fun j k v w hj hv hw=>h (j+1) (k+1) v w (by omega) (by simpa using hv) (by simpa using hw)⟩
theorem Pq {l:Lst} {s:eL} (h:km l s=0) (p:Int):Ic p s.values:=by
 unfold km at h;split at h
 ·cases h
 split at h
 ·cases h
 refine UR fun j k v w hj hv hw=>?_;have:=UQ (i:=0) rfl h k w (by omega) hw;exact Q8 this v (List.mem_of_getElem? (i:=j) (by rw [List.getElem?_take,if_pos hj,hv]))
theorem Gc {p:Int}:∀ {vs:List db},Ic p vs->(ke p vs).Nodup
 | [],_=>.nil
 | v::t,h=>by
   unfold ke;split
   ·rename_i hw;rw [List.nodup_append];refine ⟨Q5 v,Gc h.2,fun u hu u' dA e=>?_⟩;subst e
    have vB:∀ {t:List db},u∈ke p t->∃ w∈t,mi p w=true/\u∈ku w:=by
     intro t;induction t with
     | nil=>intro h;cases h
     | cons a t ih=>
       intro h;unfold ke at h;rcases List.mem_append.1 h with h|h
       ·split at h
        ·rename_i h1;exact ⟨a,by simp,h1,h⟩
        cases h
       obtain ⟨w,h1,h2⟩:=ih h;exact ⟨w,by simp [h1],h2⟩
    obtain ⟨w,h1,h2,h3⟩:=vB dA;exact Q6 (h.1 w h1 hw h2) h2 hw u h3 hu
   rw [List.nil_append];exact Gc h.2
theorem US:∀ {us L:List ay},us.Nodup->(∀ u∈us,u ∉ L)->us.foldl mh L=us.foldl (fw nD) L
 | [],L,_,_=>rfl
 | u::us,L,hn,hd=>by
   rw [List.nodup_cons] at hn;rw [List.foldl_cons,List.foldl_cons,show mh L u=fw nD L u by rw [mh,if_neg (hd u (by simp))]];refine US hn.2 fun x hx hm=>?_;rcases List.mem_cons.1 (MK.mem_iff.1 hm) with rfl|hm
   ·exact hn.1 hx
   exact hd x (by simp [hx]) hm
theorem MS (p:Int):∀ (vs:List db) (L:List ay),tN (vs.filter (mi p)) L=(ke p vs).foldl mh L
 | [],L=>rfl
 | v::t,L=>by
   rw [List.filter_cons];unfold ke;rw [List.foldl_append];by_cases hv:mi p v=true
   ·rw [if_pos hv];have qJ:bI p v.fr v.to=true:=hv;rw [if_pos qJ];exact MS p t _
   rw [if_neg hv];have qJ:¬ bI p v.fr v.to=true:=hv;rw [if_neg qJ];exact MS p t L
theorem Q9 {l:Lst} {s:eL} {p:Int} (h:km l s=0):Ib p s=oR p s:=by unfold Ib oR vC;rw [MS,US (Gc (Pq h p)) (fun u _=>by simp)];exact NQ zU.c.w fun x _ y _=>zU.c.yw x y
theorem Pp {l:Lst} (h:lr l=0):∀ s∈l.aA,km l s=0:=by
 unfold lr at h;split at h
 ·cases h
 split at h
 ·cases h
 have qK:∀ {t:List eL} {seen:List (List UInt8)},sd l t seen=0->∀ s∈t,km l s=0:=by
  intro t;induction t with
  | nil=>intro seen _ s hs;cases hs
  | cons a t ih=>
    intro seen h s hs;unfold sd at h;split at h
    ·cases h
    split at h
    ·rename_i h1;exact absurd h h1
    rename_i h1;rcases List.mem_cons.1 hs with rfl|hs
    ·simpa using h1
    exact ih h s hs
 exact qK h
theorem VJ (H:aj) (n:Int) (hf:dU H) (hH:jg H) (h0:0<=n) (h1:n<H.list.aA.length) :
  ae Tryz.prog 175 [.agg (bu H),.int .i64 n] [] (.sl 2 none ((gn H n).map aV)):=by
 have hs:=vg h0 h1;have:=Row.ok (by decide) pa (Q4 H n _ hf hH h0 hs);rwa [Q9 (Pp hH.nN _ (List.mem_of_getElem? hs))] at this
def uG (H:aj) (n:Int):Int:=if eo H≠0 then eo H else if bI n 0 ((H.list.aA.length:Int) - 1)=false then 23 else 0
def Dx (H:aj) (n:Int):List ay:=if uG H n=0 then gn H n else []
end Go.Abs.Wall
namespace Go.Abs.Wall
open Go Go.Abs Go.Proofs
theorem Yo (H:aj) (n:Int) (hf:dU H):ae Tryz.prog 104 [.agg (bu H),.int .i64 n] [] (.aH [.sl 2 none ((Dx H n).map aV),.int .i64 (uG H n)]):=by
 have gW:=hf.list.aA;unfold aw at gW;refine ae.of ?_;refine aG (F:=Tryz.f104) c104 rfl rfl rfl mixed rfl fun X=>?_;(conv=>whnf);repeat (refine ae.k0 (GD H hf) ?_;conv=>whnf)
 refine ⟨fun hc=>?_,fun hc=>?_⟩<;>simp at hc
 ·have he:uG H n=eo H:=(by rw [uG,if_pos hc]);(conv=>whnf);skip;rw [Dx,he,if_neg hc];exact ag.aH (.cons (ag.nil (by decide)) (.cons (ag.refl _) .nil))
 have hH:=vR hc;(conv=>whnf);repeat ((first|refine ae.k0 (within _ _ _) ?_|(refine ⟨ah ⟨by rw [List.length_map];omega,by rw [List.length_map];omega⟩,?_⟩));conv=>whnf)
 refine ⟨fun hq=>?_,fun hq=>?_⟩
 ·have hq:(!bI n 0 (((H.list.aA.map iX).length:Int) - 1))=true:=hq;rw [List.length_map,Bool.not_eq_true'] at hq;have he:uG H n=23:=(by rw [uG,if_neg (by omega),if_pos hq]);(conv=>whnf);skip;rw [Dx,he,if_neg (by decide)];exact ag.aH (.cons (ag.nil (by decide)) (.cons (ag.refl _) .nil))
 have hq:(!bI n 0 (((H.list.aA.map iX).length:Int) - 1))=false:=hq;rw [List.length_map,Bool.not_eq_false',dY] at hq;have he:uG H n=0:=(by rw [uG,if_neg (by omega),if_neg (by rw [Bool.not_eq_false,dY];omega)]);have hs:=vg (H:=H) (n:=n) hq.1 (by omega);have zz:=((qA hH.nN).each _ (List.mem_of_getElem? hs)).bB;(conv=>whnf);repeat (refine ae.k0 (Mz H n (xn H n) hq.1 hs (by omega)) ?_;conv=>whnf)
 rw [Dx,he,if_pos rfl];exact ag.refl _
end Go.Abs.Wall
namespace Go.Abs.Wall
open Go Go.Abs Go.Proofs Go.Proofs.YtbmcnieifibckaaGreat.Br
def zZ (P:Program) (B:Nat):List TypeId->List (List AV)->Prop
 | [],[]=>True
 | t::ts,p::ps=>Sh P B t p/\zZ P B ts ps
 | _,_=>False
theorem UT {P:Program} {B:Nat}:∀ {ts:List TypeId} {ps:List (List AV)},ps.length=ts.length->(∀ (i:Nat) t p,ts[i]?=some t->ps[i]?=some p->Sh P B t p)->zZ P B ts ps
 | [],[],_,_=>trivial
 | t::ts,p::ps,hl,h=>⟨h 0 t p rfl rfl,UT (by simpa using hl) fun i t' p' h1 h2=>h (i+1) t' p' (by simpa using h1) (by simpa using h2)⟩
 | [],_::_,hl,_=>by simp at hl
 | _::_,[],hl,_=>by simp at hl
theorem tu {P:Program} {B:Nat} {t:TypeId} {fs:Array Field} {xs:List AV} (h:Sh P B t xs) (hu:P.underlying t=some (.struct fs)):∃ ps,xs=ps.flatten/\zZ P B (fs.toList.map (·.type)) ps:=by
 cases h with
 | bool h1=>rw [hu] at h1;cases h1
 | int h1 _=>rw [hu] at h1;cases h1
 | str h1 _=>rw [hu] at h1;cases h1
 | slice h1 _ _=>rw [hu] at h1;cases h1
 | @struct _ fs' ps h1 hl hp=>
   rw [hu] at h1;cases h1
   refine ⟨ps,rfl,UT (by simpa using hl) fun i t p h1 h2=>?_⟩;rw [List.getElem?_map] at h1;cases hf:fs.toList[i]? with
   | none=>rw [hf] at h1;cases h1
   | some f=>rw [hf] at h1;cases h1;exact hp i f p hf h2
 | array h1 hl hp=>rw [hu] at h1;cases h1
theorem R0 {P:Program} {B:Nat} {t:TypeId} {k:IntKind} {xs:List AV} (h:Sh P B t xs) (hu:P.underlying t=some (.int k)):∃ n:Int,xs=[.int k n]/\k.has n:=by
 cases h with
 | bool h1=>rw [hu] at h1;cases h1
 | int h1 h2=>rw [hu] at h1;cases h1;exact ⟨_,rfl,SP h2⟩
 | str h1 _=>rw [hu] at h1;cases h1
 | slice h1 _ _=>rw [hu] at h1;cases h1
 | struct h1 hl hp=>rw [hu] at h1;cases h1
 | array h1 hl hp=>rw [hu] at h1;cases h1
theorem R1 {P:Program} {B:Nat} {t:TypeId} {xs:List AV} (h:Sh P B t xs) (hu:P.underlying t=some .bool):∃ b:Bool,xs=[.bool b]:=by
 cases h with
 | bool h1=>exact ⟨_,rfl⟩
 | int h1 h2=>rw [hu] at h1;cases h1
 | str h1 _=>rw [hu] at h1;cases h1
 | slice h1 _ _=>rw [hu] at h1;cases h1
 | struct h1 hl hp=>rw [hu] at h1;cases h1
 | array h1 hl hp=>rw [hu] at h1;cases h1
theorem xS {P:Program} {B:Nat} {t:TypeId} {xs:List AV} (h:Sh P B t xs) (hu:P.underlying t=some .string):∃ s,xs=[.str s]/\s.length<=B:=by
 cases h with
 | bool h1=>rw [hu] at h1;cases h1
 | int h1 h2=>rw [hu] at h1;cases h1
 | str h1 h2=>exact ⟨_,rfl,h2⟩
 | slice h1 _ _=>rw [hu] at h1;cases h1
 | struct h1 hl hp=>rw [hu] at h1;cases h1
 | array h1 hl hp=>rw [hu] at h1;cases h1
theorem xo {P:Program} {B:Nat} {t e:TypeId} {xs:List AV} {α:Type} {enc:α->List AV} {Fit:α->Prop} (h:Sh P B t xs) (hu:P.underlying t=some (.slice e)) (he:∀ y,Sh P B e y->∃ a,y=enc a/\Fit a) :
  ∃ l:List α,xs=[.sl (P.cellsOf e) none (l.map enc)]/\l.length<=B/\∀ a∈l,Fit a:=by
 cases h with
 | bool h1=>rw [hu] at h1;cases h1
 | int h1 h2=>rw [hu] at h1;cases h1
 | str h1 _=>rw [hu] at h1;cases h1
 | @slice _ e' ys h1 h2 h3=>
   rw [hu] at h1;cases h1
   suffices hk:∃ l:List α,ys=l.map enc/\∀ a∈l,Fit a by
    obtain ⟨l,rfl,hf⟩:=hk;exact ⟨l,rfl,by simpa using h2,hf⟩
   clear h2;induction ys with
   | nil=>exact ⟨[],rfl,by simp⟩
   | cons y ys ih=>
     obtain ⟨l,rfl,hf⟩:=ih fun z hz=>h3 z (by simp [hz]);obtain ⟨a,rfl,ha⟩:=he y (h3 y (by simp));exact ⟨a::l,rfl,fun b hb=>by rcases List.mem_cons.1 hb with rfl|hb;exact ha;exact hf b hb⟩
 | struct h1 hl hp=>rw [hu] at h1;cases h1
 | array h1 hl hp=>rw [hu] at h1;cases h1
theorem R2 {P:Program} {B:Nat} {a b:TypeId} {ps:List (List AV)} (h:zZ P B [a,b] ps):∃ x y,ps=[x,y]/\Sh P B a x/\Sh P B b y:=by
 match ps,h with
 | [x,y],⟨h1,h2,_⟩=>exact ⟨x,y,rfl,h1,h2⟩
theorem GO {P:Program} {B:Nat} {a b c:TypeId} {ps:List (List AV)} (h:zZ P B [a,b,c] ps):∃ x y z,ps=[x,y,z]/\Sh P B a x/\Sh P B b y/\Sh P B c z:=by
 match ps,h with
 | [x,y,z],⟨h1,h2,h3,_⟩=>exact ⟨x,y,z,rfl,h1,h2,h3⟩
theorem Ie {P:Program} {B:Nat} {a b c d:TypeId} {ps:List (List AV)} (h:zZ P B [a,b,c,d] ps):∃ x y z u,ps=[x,y,z,u]/\Sh P B a x/\Sh P B b y/\Sh P B c z/\Sh P B d u:=by
 match ps,h with
 | [x,y,z,u],⟨h1,h2,h3,h4,_⟩=>exact ⟨x,y,z,u,rfl,h1,h2,h3,h4⟩
theorem UU {P:Program} {B:Nat} {a b c d e:TypeId} {ps:List (List AV)} (h:zZ P B [a,b,c,d,e] ps):∃ x y z u v,ps=[x,y,z,u,v]/\Sh P B a x/\Sh P B b y/\Sh P B c z/\Sh P B d u/\Sh P B e v:=by
 match ps,h with
 | [x,y,z,u,v],⟨h1,h2,h3,h4,h5,_⟩=>exact ⟨x,y,z,u,v,rfl,h1,h2,h3,h4,h5⟩
abbrev eC:Nat:=1048576
theorem rl {n:Nat} (h:n<=eC):n<=aw:=by unfold aw;unfold eC at h;omega
theorem kf {xs:List AV} (h:Sh Tryz.prog eC 3 xs):∃ n:Int,xs=[.int .i64 n]/\IntKind.i64.has n:=R0 h rfl
theorem GP {xs:List AV} (h:Sh Tryz.prog eC 34 xs):∃ l:List Int,xs=[.sl 1 none (ints l)]/\l.length<=eC/\∀ a∈l,IntKind.i64.has a:=
 xo (enc:=fun x=>[AV.int .i64 x]) h rfl fun y hy=>kf hy
theorem R3 {xs:List AV} (h:Sh Tryz.prog eC 172 xs):∃ v:db,xs=gh v/\v.text.length<=eC:=by obtain ⟨ps,rfl,hp⟩:=tu h rfl;obtain ⟨x,y,z,u,rfl,h1,h2,h3,h4⟩:=Ie hp;obtain ⟨a,rfl,_⟩:=kf h1;obtain ⟨b,rfl,hb⟩:=xS h2 rfl;obtain ⟨c,rfl,_⟩:=kf h3;obtain ⟨d,rfl,_⟩:=kf h4;exact ⟨⟨a,b,c,d⟩,rfl,hb⟩
theorem R4 {xs:List AV} (h:Sh Tryz.prog eC 169 xs):∃ s:eL,xs=iX s/\Mb s:=by obtain ⟨ps,rfl,hp⟩:=tu h rfl;obtain ⟨x,y,z,u,v,rfl,h1,h2,h3,h4,h5⟩:=UU hp;obtain ⟨a,rfl,ha⟩:=xS h1 rfl;obtain ⟨b,rfl,hb⟩:=kf h2;obtain ⟨c,rfl,_⟩:=kf h3;obtain ⟨d,rfl⟩:=R1 h4 rfl;obtain ⟨e,rfl,he,hf⟩:=xo (enc:=gh) h5 rfl fun y hy=>R3 hy;exact ⟨⟨a,b,c,d,e⟩,rfl,rl ha,rl he,fun v hv=>rl (hf v hv)⟩
theorem R5 {xs:List AV} (h:Sh Tryz.prog eC 24 xs):∃ l:Lst,xs=qf l/\zO l:=by obtain ⟨ps,rfl,hp⟩:=tu h rfl;obtain ⟨y,z,rfl,h1,h2⟩:=R2 hp;obtain ⟨a,rfl,_⟩:=kf h1;obtain ⟨b,rfl,hb,hf⟩:=xo (enc:=iX) h2 rfl fun y hy=>R4 hy;exact ⟨⟨a,b⟩,rfl,rl hb,hf⟩
theorem R6 {xs:List AV} (h:Sh Tryz.prog eC 150 xs):∃ e:kW,xs=fJ e/\TJ e:=by obtain ⟨ps,rfl,hp⟩:=tu h rfl;obtain ⟨x,y,z,u,rfl,h1,h2,h3,h4⟩:=Ie hp;obtain ⟨a,rfl,ha⟩:=xS h1 rfl;obtain ⟨b,rfl,hb⟩:=kf h2;obtain ⟨c,rfl,hc⟩:=xS h3 rfl;obtain ⟨d,rfl,_⟩:=kf h4;exact ⟨⟨a,b,c,d⟩,rfl,rl ha,rl hc⟩
theorem R7 {xs:List AV} (h:Sh Tryz.prog eC 174 xs):∃ e:lF,xs=jk e/\TK e:=by obtain ⟨ps,rfl,hp⟩:=tu h rfl;obtain ⟨x,y,z,u,rfl,h1,h2,h3,h4⟩:=Ie hp;obtain ⟨a,rfl,ha⟩:=kf h1;obtain ⟨b,rfl,hb⟩:=xS h2 rfl;obtain ⟨c,rfl,hc⟩:=xS h3 rfl;obtain ⟨d,rfl,_⟩:=kf h4;exact ⟨⟨a,b,c,d⟩,rfl,rl hb,rl hc⟩
theorem R8 {xs:List AV} (h:Sh Tryz.prog eC 176 xs):∃ e:iT,xs=ib e/\TL e:=by obtain ⟨ps,rfl,hp⟩:=tu h rfl;obtain ⟨x,y,z,rfl,h1,h2,h3⟩:=GO hp;obtain ⟨a,rfl,ha⟩:=xS h1 rfl;obtain ⟨b,rfl,hb⟩:=xS h2 rfl;obtain ⟨c,rfl,hc⟩:=kf h3;exact ⟨⟨a,b,c⟩,rfl,rl ha,rl hb⟩
theorem R9 {xs:List AV} (h:Sh Tryz.prog eC 29 xs):∃ l:Lex,xs=fq l/\rT l:=by obtain ⟨ps,rfl,hp⟩:=tu h rfl;obtain ⟨x,y,z,rfl,h1,h2,h3⟩:=GO hp;obtain ⟨a,rfl,ha,fa⟩:=xo (enc:=fJ) h1 rfl fun y hy=>R6 hy;obtain ⟨b,rfl,hb,fb⟩:=xo (enc:=jk) h2 rfl fun y hy=>R7 hy;obtain ⟨c,rfl,hc,fc⟩:=xo (enc:=ib) h3 rfl fun y hy=>R8 hy;exact ⟨⟨a,b,c⟩,rfl,rl ha,rl hb,rl hc,fa,fb,fc⟩
theorem S0 {xs:List AV} (h:Sh Tryz.prog eC 31 xs):∃ c:zV,xs=TX c:=by obtain ⟨ps,rfl,hp⟩:=tu h rfl;obtain ⟨x,y,z,u,v,rfl,h1,h2,h3,h4,h5⟩:=UU hp;obtain ⟨a,rfl,ha⟩:=kf h1;obtain ⟨b,rfl,hb⟩:=kf h2;obtain ⟨c,rfl,hc⟩:=kf h3;obtain ⟨d,rfl,hd⟩:=kf h4;obtain ⟨e,rfl,he⟩:=kf h5;exact ⟨⟨a,b,c,d,e⟩,rfl⟩
theorem S1 {xs:List AV} (h:Sh Tryz.prog eC 33 xs):∃ H:aj,xs=bu H/\dU H:=by obtain ⟨ps,rfl,hp⟩:=tu h rfl;obtain ⟨x,y,z,u,rfl,h1,h2,h3,h4⟩:=Ie hp;obtain ⟨a,rfl,ha⟩:=R5 h1;obtain ⟨b,rfl,hb⟩:=R9 h2;obtain ⟨c,rfl⟩:=S0 h3;obtain ⟨d,rfl,hd⟩:=kf h4;exact ⟨⟨a,b,c,d⟩,rfl,⟨ha,hb⟩⟩
theorem YA {xs:List AV} (h:Sh Tryz.prog eC 38 xs):∃ f:aZ,xs=eZ f/\f.ar.length<=eC:=by obtain ⟨ps,rfl,hp⟩:=tu h rfl;obtain ⟨x,y,z,rfl,h1,h2,h3⟩:=GO hp;obtain ⟨a,rfl,ha⟩:=kf h1;obtain ⟨b,rfl,hb⟩:=kf h2;obtain ⟨c,rfl,hc,_⟩:=GP h3;exact ⟨⟨a,b,c⟩,rfl,hc⟩
theorem MT {x:AV} (h:qQ Tryz.prog eC 33 x):∃ H:aj,x=.agg (bu H)/\dU H:=by obtain ⟨xs,h,hx⟩:=h;have hx:x=.agg xs:=hx;subst hx;obtain ⟨H,rfl,hf⟩:=S1 h;exact ⟨H,rfl,hf⟩
theorem S2 {x:AV} (h:qQ Tryz.prog eC 34 x):∃ l:List Int,x=.sl 1 none (ints l)/\l.length<=eC/\∀ a∈l,IntKind.i64.has a:=by
 obtain ⟨xs,h,hx⟩:=h;have hx:xs=[x]:=hx;obtain ⟨l,h1,h2⟩:=GP h;rw [hx] at h1;cases h1
 exact ⟨l,rfl,h2⟩
theorem UW {ts:List TypeId} {a b c:TypeId} {xs:List AV} (ht:ts=[a,b,c]) (h:xK Tryz.prog eC ts xs):∃ x y z,xs=[x,y,z]/\qQ Tryz.prog eC a x/\qQ Tryz.prog eC b y/\qQ Tryz.prog eC c z:=by
 subst ht
 match xs,h with
 | [x,y,z],⟨h1,h2,h3,_⟩=>exact ⟨x,y,z,rfl,h1,h2,h3⟩
theorem S3 {ts:List TypeId} {a b:TypeId} {xs:List AV} (ht:ts=[a,b]) (h:xK Tryz.prog eC ts xs):∃ x y,xs=[x,y]/\qQ Tryz.prog eC a x/\qQ Tryz.prog eC b y:=by
 subst ht
 match xs,h with
 | [x,y],⟨h1,h2,_⟩=>exact ⟨x,y,rfl,h1,h2⟩
end Go.Abs.Wall
