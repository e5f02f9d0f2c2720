/- What is proved: small laws for the walks of this seat, and contracts of its functions. No condition but those each theorem names. -/
import Derived.Test.YtbmcnieifibckaaGreatN7
import Derived.Test.YtbmcnieifibckaaGreatN5
import Derived.Test.YtbmcnieifibckaaGreatN4
import Derived.Test.YtbmcnieifibckaaGreatN6
set_option maxRecDepth 100000
set_option maxHeartbeats 2000000
set_option linter.unusedVariables false
set_option linter.unusedSimpArgs false
namespace Go.Abs.Wall
open Go Go.Abs Go.Proofs
section
variable {α:Type} {k:Nat} {enc:α→List AV}
theorem flat_len (hk:∀ a,(enc a).length=k) (L:List α):((L.map enc).flatten).length=L.length*k:=enc_len hk
theorem flat_drop (hk:∀ a,(enc a).length=k):∀ (L:List α) (i:Nat),((L.map enc).flatten).drop (i*k)=((L.drop i).map enc).flatten
 | L,0=>by simp
 | [],i+1=>by simp
 | a::L,i+1=>by
   rw [List.map_cons,List.flatten_cons,List.drop_succ_cons,show (i+1)*k=(enc a).length+i*k by rw [hk,Nat.succ_mul,Nat.add_comm],List.drop_append,List.drop_eq_nil_of_le (Nat.le_add_right _ _),List.nil_append,Nat.add_sub_cancel_left]
   exact flat_drop hk L i
theorem flat_take (hk:∀ a,(enc a).length=k):∀ (L:List α) (i:Nat),((L.map enc).flatten).take (i*k)=((L.take i).map enc).flatten
 | L,0=>by simp
 | [],i+1=>by simp
 | a::L,i+1=>by
   rw [List.map_cons,List.flatten_cons,List.take_succ_cons,List.map_cons,List.flatten_cons,show (i+1)*k=(enc a).length+i*k by rw [hk,Nat.succ_mul,Nat.add_comm],List.take_append,List.take_of_length_le (Nat.le_add_right _ _),Nat.add_sub_cancel_left]
   rw [flat_take hk L i]
theorem ldE {P:Program} {t:TypeId} {b o i:Nat} {h:Heap} {L:List α} {x:α} {K:AV→Prop} (hk:∀ a,(enc a).length=k) (hm:(b,Ob.vec (L.map enc).flatten)∈h) (ho:o=i*k) (hx:L[i]?=some x)
  (hl:loadI P t (enc x++((L.drop (i+1)).map enc).flatten) K):∃ cs l,(b,Ob.vec cs)∈h∧dropN o cs=some l∧loadI P t l K:=by
 obtain ⟨hi,hx'⟩:=List.getElem?_eq_some_iff.1 hx
 refine ⟨_,_,hm,dropN_some ?_,?_⟩
 ·rw [flat_len hk,ho]
  exact Nat.mul_le_mul_right k (by omega)
 ·rw [ho,flat_drop hk,List.drop_eq_getElem_cons hi,hx',List.map_cons,List.flatten_cons]
  exact hl
theorem setC_flat (hk:∀ a,(enc a).length=k) {L:List α} {i:Nat} {y:α} (hi:i<L.length):setC (L.map enc).flatten (i*k) (enc y)=((L.set i y).map enc).flatten:=by
 unfold setC
 rw [hk,flat_take hk,show i*k+k=(i+1)*k by rw [Nat.succ_mul],flat_drop hk,List.set_eq_take_append_cons_drop,if_pos hi]
 simp
theorem stE {b o i:Nat} {h h':Heap} {L:List α} {l:List AV} {K:AV→Heap→Prop} (y:α) (hk0:0<k) (hk:∀ a,(enc a).length=k) (hi:i<L.length) (ho:o=i*k) (hl:l=enc y)
  (hu:Upd b (.vec (L.map enc).flatten) b (.vec ((L.set i y).map enc).flatten) h h') (hK:K .unit h') :
  ∃ cs h',Upd b (.vec cs) b (.vec (setC cs o l)) h h'∧(0<l.length∧o+l.length≤cs.length)∧K .unit h':=by
 subst ho hl
 refine ⟨_,h',by rw [setC_flat hk hi];exact hu,⟨by rw [hk];exact hk0,?_⟩,hK⟩
 rw [hk,flat_len hk,← Nat.succ_mul]
 exact Nat.mul_le_mul_right k hi
end
def bubR {α:Type} (less:α→α→Bool) (u:α):List α→List α
 | []=>[u]
 | b::t=>if less u b=true then b::bubR less u t else u::b::t
def bub {α:Type} (less:α→α→Bool) (L:List α) (u:α):List α:=(bubR less u L.reverse).reverse
theorem bubR_perm {α:Type} {less:α→α→Bool} {u:α}:∀ {l:List α},(bubR less u l).Perm (u::l)
 | []=>.refl _
 | b::t=>by
   unfold bubR
   split
   ·exact (List.Perm.cons _ bubR_perm).trans (.swap _ _ _)
   ·exact .refl _
theorem bub_perm {α:Type} {less:α→α→Bool} {u:α} {l:List α}:(bub less l u).Perm (u::l):=by
 unfold bub
 exact (List.reverse_perm _).trans (bubR_perm.trans (List.Perm.cons _ (List.reverse_perm _)))
theorem bubR_sorted {α:Type} {cmp:α→α→Int} (h:OrdW cmp) {u:α}:∀ {l:List α},l.Pairwise (fun x y=>¬ cmp x y<0)→(bubR (fun a b=>decide (cmp a b<0)) u l).Pairwise fun x y=>¬ cmp x y<0
 | [],_=>by simp [bubR]
 | b::t,hl=>by
   rw [List.pairwise_cons] at hl
   unfold bubR
   split
   ·rename_i hc
    rw [decide_eq_true_eq] at hc
    rw [List.pairwise_cons]
    refine ⟨fun x hx=>?_,bubR_sorted h hl.2⟩
    rcases List.mem_cons.1 (bubR_perm.mem_iff.1 hx) with rfl|hx
    ·exact fun h2=>h.irr _ (h.tr _ _ _ hc h2)
    ·exact hl.1 x hx
   ·rename_i hc
    rw [decide_eq_true_eq] at hc
    rw [List.pairwise_cons,List.pairwise_cons]
    refine ⟨fun x hx=>?_,hl⟩
    rcases List.mem_cons.1 hx with rfl|hx
    ·exact hc
    ·exact h.nt _ _ _ hc (hl.1 x hx)
theorem bub_sorted {α:Type} {cmp:α→α→Int} (h:OrdW cmp) {u:α} {l:List α} (hl:l.Pairwise fun x y=>¬ cmp y x<0):(bub (fun a b=>decide (cmp a b<0)) l u).Pairwise fun x y=>¬ cmp y x<0:=by
 unfold bub
 rw [List.pairwise_reverse]
 exact bubR_sorted h (by rw [List.pairwise_reverse];exact hl)
theorem foldl_bub_perm {α:Type} {less:α→α→Bool}:∀ {l acc:List α},(l.foldl (bub less) acc).Perm (l++acc)
 | [],acc=>.refl _
 | a::t,acc=>by
   rw [List.foldl_cons]
   exact foldl_bub_perm.trans ((List.Perm.append_left t bub_perm).trans List.perm_middle)
theorem foldl_bub_sorted {α:Type} {cmp:α→α→Int} (h:OrdW cmp):∀ {l acc:List α},acc.Pairwise (fun x y=>¬ cmp y x<0)→(l.foldl (bub fun a b=>decide (cmp a b<0)) acc).Pairwise fun x y=>¬ cmp y x<0
 | [],acc,ha=>ha
 | a::t,acc,ha=>by
   rw [List.foldl_cons]
   exact foldl_bub_sorted h (bub_sorted h ha)
theorem foldl_bub {α:Type} {cmp:α→α→Int} (h:OrdW cmp) {l:List α} (ha:∀ x∈l,∀ y∈l,¬ cmp x y<0→¬ cmp y x<0→x=y):l.foldl (bub fun a b=>decide (cmp a b<0)) []=sortL cmp l:=
 h.unique ha (by have:=foldl_bub_perm (less:=fun a b=>decide (cmp a b<0)) (l:=l) (acc:=[]);rwa [List.append_nil] at this) (foldl_bub_sorted h .nil)
theorem bub_pass {α:Type} {less:α→α→Bool} {u b:α} {A B:List α} (h:less u b=true):bub less (A++[b]) u++B=bub less A u++(b::B):=by
 unfold bub
 rw [List.reverse_append,List.reverse_singleton,List.singleton_append,bubR,if_pos h,List.reverse_cons,List.append_assoc]
 rfl
theorem bub_stop {α:Type} {less:α→α→Bool} {u b:α} {A B:List α} (h:less u b=false):bub less (A++[b]) u++B=A++b::u::B:=by
 unfold bub
 rw [List.reverse_append,List.reverse_singleton,List.singleton_append,bubR,if_neg (by rw [h];decide),List.reverse_cons,List.reverse_cons,List.reverse_reverse,List.append_assoc,List.append_assoc]
 rfl
end Go.Abs.Wall
namespace Go.Abs.Wall
open Go Go.Abs Go.Proofs
def c113:Cfg:=⟨[0,1,4],[],[],[],[],[]⟩
def c115:Cfg:=⟨[0,2],[],[],[],[],[]⟩
def c114:Cfg:=⟨[0,2],[],[],[],[],[]⟩
def c116:Cfg:=⟨[0,2],[],[],[],[],[]⟩
def c61:Cfg:=⟨[0,1,2,3,4,5,6,7,8,9,10,11,12,28,33,67,70,96,101,130,133,155,160,183,186,197],[],[4,6,8,11],[],[(24,[0,1,2,3,4,5,6,7,8,9,10,11,12,13,14,15,16,17,18,19],[]),(35,[0,1,2,3,4,5,6,7,8],[])],[]⟩
theorem refSnd (s:List UInt8) (most:Int) (hs:s.length≤LMAX):QCall Tryz.prog 113 [.str s,.int .i64 most] [] (.bool (sndOK s most)):=by
 refine fcalls (F:=Tryz.f113) c113 rfl rfl rfl mixed rfl fun X=>?_
 conv=>whnf
 repeat (refine gcall (refSounds s hs) ?_;conv=>whnf)
 refine ⟨congrArg AV.bool ?_,rfl⟩
 unfold sndOK
 rw [Bool.and_comm (s.all letter)]
 rfl
theorem refName (s:List UInt8) (hs:s.length≤LMAX):QCall Tryz.prog 115 [.str s] [] (.bool (nameOK s)):=by
 refine fcalls (F:=Tryz.f115) c115 rfl rfl rfl mixed rfl fun X=>?_
 conv=>whnf
 repeat (refine gcall (refSmall s hs) ?_;conv=>whnf)
 refine ⟨congrArg AV.bool ?_,rfl⟩
 unfold nameOK
 rw [Bool.and_comm (s.all small)]
theorem refKind (n:Int):QCall Tryz.prog 114 [.int .i64 n] [] (.bool (wthn n 1 9)):=by
 refine fcalls (F:=Tryz.f114) c114 rfl rfl rfl mixed rfl fun X=>?_
 conv=>whnf
 skip
 exact ⟨rfl,rfl⟩
theorem refWeight (n:Int):QCall Tryz.prog 116 [.int .i64 n] [] (.bool (wthn n 0 1000)):=by
 refine fcalls (F:=Tryz.f116) c116 rfl rfl rfl mixed rfl fun X=>?_
 conv=>whnf
 skip
 exact ⟨rfl,rfl⟩
def entB0 (w:Ent):Bool:=!sndOK w.root 8||!wthn w.kind 1 9||(!decide (w.cls=[])&&!nameOK w.cls)||!wthn w.weight 0 1000
def ednB0 (w:Edn):Bool:=!wthn w.kind 1 9||!sndOK w.text 4||!nameOK w.name||!wthn w.weight 0 1000
def cliB0 (w:Cli):Bool:=!sndOK w.text 4||!nameOK w.name||!wthn w.weight 0 1000
theorem Below.none {α:Type} {p:α→Bool} {l:List α} {i:Nat} (h:Below p l i):(l.take i).any p=false:=by
 rw [List.any_eq_false]
 intro y hy
 obtain ⟨j,hj⟩:=List.mem_iff_getElem?.1 hy
 rw [List.getElem?_take] at hj
 split at hj
 ·rename_i h1
  rw [h j y h1 hj];decide
 ·cases hj
theorem any_hit {α:Type} {p:α→Bool} {l:List α} {i k:Nat} {y:α} (hk:k<i) (hy:l[k]?=some y) (hp:p y=true):(l.take i).any p=true:=by
 rw [List.any_eq_true]
 exact ⟨y,List.mem_of_getElem? (i:=k) (by rw [List.getElem?_take,if_pos hk,hy]),hp⟩
set_option maxHeartbeats 2000000 in
theorem refLex (x:Lex) (hx:LexFit x):QCall Tryz.prog 61 [.agg (encLex x)] [] (.int .i64 (lexErr x)):=by
 have hx1:=hx.entries
 have hx2:=hx.endings
 have hx3:=hx.clitics
 unfold LMAX at hx1 hx2 hx3
 refine fcalls (F:=Tryz.f61) c61 rfl rfl rfl mixed rfl fun X=>?_
 conv=>whnf
 skip
 refine ⟨fun hc=>?_,fun hc=>?_⟩
 ·have hc:(decide (200<((x.entries.map encEnt).length:Int))||decide (40<((x.endings.map encEdn).length:Int))||decide (10<((x.clitics.map encCli).length:Int)))=true:=hc
  simp [or_assoc] at hc
  conv=>whnf
  exact ⟨by rw [lexErr,if_pos (by omega)],rfl⟩
 have hc:(decide (200<((x.entries.map encEnt).length:Int))||decide (40<((x.endings.map encEdn).length:Int))||decide (10<((x.clitics.map encCli).length:Int)))=false:=hc
 simp at hc
 have h0:lexErr x=if bads entBad x.entries=true then 45 else if bads ednBad x.endings=true then 46 else if bads cliBad x.clitics=true then 47 else 0:=by rw [lexErr,if_neg (by omega)]
 conv=>whnf
 skip
 refine sloop rfl mixed [1,3] [] (fun m r h=>∃ (i:Nat),r=[(1,[],.iptr (encLex x)),(3,[],.int .i64 i)]∧h=[]∧m=x.entries.length - i∧i≤x.entries.length∧bads entBad x.entries=badGo entBad x.entries (x.entries.drop i) i) ?_ ?_
 ·conv=>whnf
  exact ⟨_,0,rfl,rfl,rfl,by omega,rfl⟩
 ·rintro m r h ⟨i,rfl,rfl,rfl,hi,hb⟩
  conv=>whnf
  skip
  refine ⟨fun he=>?_,fun he=>?_⟩<;>simp at he
  ·obtain ⟨w,hw⟩:=get_lt he
   have hm:=List.mem_of_getElem? hw
   rw [drop_cons hw,badGo] at hb
   conv=>whnf
   repeat ((first|refine ix (by assumption) ?_|refine QCall.k0 (refSnd w.root 8 (hx.ent w hm).root) ?_|refine gcall (refKind _) ?_|refine gcall (refName w.cls (hx.ent w hm).cls) ?_|refine gcall (refWeight _) ?_|refine ⟨_,_,Rem.here _,⟨Nat.le_of_ble_eq_true rfl,rfl⟩,?_⟩|intro (nb:Nat));conv=>whnf)
   refine ⟨fun hd=>?_,fun hd=>?_⟩
   ·have hd:entB0 w=true:=hd
    have hd:entBad (x.entries.take i) w=true:=by show (entB0 w||(x.entries.take i).any (entSame w))=true;rw [hd];rfl
    rw [hd,Bool.true_or] at hb
    conv=>whnf
    exact ⟨by rw [h0,if_pos hb],rfl⟩
   ·have hd:entB0 w=false:=hd
    have hd:entBad (x.entries.take i) w=(x.entries.take i).any (entSame w):=by show (entB0 w||(x.entries.take i).any (entSame w))=_;rw [hd];rfl
    rw [hd] at hb
    conv=>whnf
    skip
    refine sloop rfl mixed [1,3,4,5] [] (fun m r h=>∃ (k:Nat),r=[(1,[],.iptr (encLex x)),(3,[],.int .i64 i),(4,[],.iptr (encEnt w)),(5,[],.int .i64 k)]∧h=[]∧m=i - k∧k≤i∧Below (entSame w) x.entries k) ?_ ?_
    ·conv=>whnf
     exact ⟨_,0,rfl,rfl,rfl,by omega,.zero⟩
    ·rintro m r h ⟨k,rfl,rfl,rfl,hk,hg⟩
     conv=>whnf
     refine ⟨fun hk2=>?_,fun hk2=>?_⟩<;>simp at hk2
     ·obtain ⟨v,hv⟩:=get_lt (l:=x.entries) (i:=k) (by omega)
      conv=>whnf
      repeat ((first|refine ix (by assumption) ?_|refine ⟨_,_,Rem.here _,⟨Nat.le_of_ble_eq_true rfl,rfl⟩,?_⟩|intro (nb:Nat));conv=>whnf)
      refine ⟨fun hq=>?_,fun hq=>?_⟩
      ·have hq:entSame w v=true:=hq
       rw [any_hit hk2 hv hq,Bool.true_or] at hb
       conv=>whnf
       exact ⟨by rw [h0,if_pos hb],rfl⟩
      ·have hq:entSame w v=false:=hq
       conv=>whnf
       repeat (refine ⟨gP_of ⟨by omega,by omega⟩,?_⟩;conv=>whnf)
       exact ⟨_,by omega,k+1,rfl,rfl,rfl,by omega,hg.succ hv hq⟩
     ·have hki:k=i:=by omega
      subst hki
      rw [hg.none,Bool.false_or] at hb
      conv=>whnf
      repeat (refine ⟨gP_of ⟨by omega,by omega⟩,?_⟩;conv=>whnf)
      exact ⟨_,by omega,k+1,rfl,rfl,rfl,by omega,hb⟩
  ·rw [drop_nil he,badGo] at hb
   have h1:lexErr x=if bads ednBad x.endings=true then 46 else if bads cliBad x.clitics=true then 47 else 0:=by rw [h0,if_neg (by rw [hb];decide)]
   conv=>whnf
   skip
   refine sloop rfl mixed [1,7] [] (fun m r h=>∃ (i:Nat),r=[(1,[],.iptr (encLex x)),(7,[],.int .i64 i)]∧h=[]∧m=x.endings.length - i∧i≤x.endings.length∧bads ednBad x.endings=badGo ednBad x.endings (x.endings.drop i) i) ?_ ?_
   ·conv=>whnf
    exact ⟨_,0,rfl,rfl,rfl,by omega,rfl⟩
   ·rintro m r h ⟨i,rfl,rfl,rfl,hi,hb⟩
    conv=>whnf
    skip
    refine ⟨fun he=>?_,fun he=>?_⟩<;>simp at he
    ·obtain ⟨w,hw⟩:=get_lt he
     have hm:=List.mem_of_getElem? hw
     rw [drop_cons hw,badGo] at hb
     conv=>whnf
     repeat ((first|refine ix (by assumption) ?_|refine gcall (refSnd w.text 4 (hx.edn w hm).text) ?_|refine QCall.k0 (refKind _) ?_|refine gcall (refName w.name (hx.edn w hm).name) ?_|refine gcall (refWeight _) ?_|refine ⟨_,_,Rem.here _,⟨Nat.le_of_ble_eq_true rfl,rfl⟩,?_⟩|intro (nb:Nat));conv=>whnf)
     refine ⟨fun hd=>?_,fun hd=>?_⟩
     ·have hd:ednB0 w=true:=hd
      have hd:ednBad (x.endings.take i) w=true:=by show (ednB0 w||(x.endings.take i).any (ednSame w))=true;rw [hd];rfl
      rw [hd,Bool.true_or] at hb
      conv=>whnf
      exact ⟨by rw [h1,if_pos hb],rfl⟩
     ·have hd:ednB0 w=false:=hd
      have hd:ednBad (x.endings.take i) w=(x.endings.take i).any (ednSame w):=by show (ednB0 w||(x.endings.take i).any (ednSame w))=_;rw [hd];rfl
      rw [hd] at hb
      conv=>whnf
      skip
      refine sloop rfl mixed [1,7,8,9] [] (fun m r h=>∃ (k:Nat),r=[(1,[],.iptr (encLex x)),(7,[],.int .i64 i),(8,[],.iptr (encEdn w)),(9,[],.int .i64 k)]∧h=[]∧m=i - k∧k≤i∧Below (ednSame w) x.endings k) ?_ ?_
      ·conv=>whnf
       exact ⟨_,0,rfl,rfl,rfl,by omega,.zero⟩
      ·rintro m r h ⟨k,rfl,rfl,rfl,hk,hg⟩
       conv=>whnf
       refine ⟨fun hk2=>?_,fun hk2=>?_⟩<;>simp at hk2
       ·obtain ⟨v,hv⟩:=get_lt (l:=x.endings) (i:=k) (by omega)
        conv=>whnf
        repeat ((first|refine ix (by assumption) ?_|refine And.intro (by show drawOK (opsAt Tryz.f61 _) _=true;decide +kernel) ?_);conv=>whnf)
        refine ⟨fun hq=>?_,fun hq=>?_⟩
        ·have hq:ednSame w v=true:=hq
         rw [any_hit hk2 hv hq,Bool.true_or] at hb
         conv=>whnf
         exact ⟨by rw [h1,if_pos hb],rfl⟩
        ·have hq:ednSame w v=false:=hq
         conv=>whnf
         repeat (refine ⟨gP_of ⟨by omega,by omega⟩,?_⟩;conv=>whnf)
         exact ⟨_,by omega,k+1,rfl,rfl,rfl,by omega,hg.succ hv hq⟩
       ·have hki:k=i:=by omega
        subst hki
        rw [hg.none,Bool.false_or] at hb
        conv=>whnf
        repeat (refine ⟨gP_of ⟨by omega,by omega⟩,?_⟩;conv=>whnf)
        exact ⟨_,by omega,k+1,rfl,rfl,rfl,by omega,hb⟩
    ·rw [drop_nil he,badGo] at hb
     have h2:lexErr x=if bads cliBad x.clitics=true then 47 else 0:=by rw [h1,if_neg (by rw [hb];decide)]
     conv=>whnf
     skip
     refine sloop rfl mixed [1,10] [] (fun m r h=>∃ (i:Nat),r=[(1,[],.iptr (encLex x)),(10,[],.int .i64 i)]∧h=[]∧m=x.clitics.length - i∧i≤x.clitics.length∧bads cliBad x.clitics=badGo cliBad x.clitics (x.clitics.drop i) i) ?_ ?_
     ·conv=>whnf
      exact ⟨_,0,rfl,rfl,rfl,by omega,rfl⟩
     ·rintro m r h ⟨i,rfl,rfl,rfl,hi,hb⟩
      conv=>whnf
      skip
      refine ⟨fun he=>?_,fun he=>?_⟩<;>simp at he
      ·obtain ⟨w,hw⟩:=get_lt he
       have hm:=List.mem_of_getElem? hw
       rw [drop_cons hw,badGo] at hb
       conv=>whnf
       repeat ((first|refine ix (by assumption) ?_|refine QCall.k0 (refSnd w.text 4 (hx.cli w hm).text) ?_|refine gcall (refName w.name (hx.cli w hm).name) ?_|refine gcall (refWeight _) ?_|refine ⟨_,_,Rem.here _,⟨Nat.le_of_ble_eq_true rfl,rfl⟩,?_⟩|intro (nb:Nat));conv=>whnf)
       refine ⟨fun hd=>?_,fun hd=>?_⟩
       ·have hd:cliB0 w=true:=hd
        have hd:cliBad (x.clitics.take i) w=true:=by show (cliB0 w||(x.clitics.take i).any (cliSame w))=true;rw [hd];rfl
        rw [hd,Bool.true_or] at hb
        conv=>whnf
        exact ⟨by rw [h2,if_pos hb],rfl⟩
       ·have hd:cliB0 w=false:=hd
        have hd:cliBad (x.clitics.take i) w=(x.clitics.take i).any (cliSame w):=by show (cliB0 w||(x.clitics.take i).any (cliSame w))=_;rw [hd];rfl
        rw [hd] at hb
        conv=>whnf
        skip
        refine sloop rfl mixed [1,10,11,12] [] (fun m r h=>∃ (k:Nat),r=[(1,[],.iptr (encLex x)),(10,[],.int .i64 i),(11,[],.iptr (encCli w)),(12,[],.int .i64 k)]∧h=[]∧m=i - k∧k≤i∧Below (cliSame w) x.clitics k) ?_ ?_
        ·conv=>whnf
         exact ⟨_,0,rfl,rfl,rfl,by omega,.zero⟩
        ·rintro m r h ⟨k,rfl,rfl,rfl,hk,hg⟩
         conv=>whnf
         refine ⟨fun hk2=>?_,fun hk2=>?_⟩<;>simp at hk2
         ·obtain ⟨v,hv⟩:=get_lt (l:=x.clitics) (i:=k) (by omega)
          conv=>whnf
          repeat ((first|refine ix (by assumption) ?_|refine And.intro (by show drawOK (opsAt Tryz.f61 _) _=true;decide +kernel) ?_);conv=>whnf)
          refine ⟨fun hq=>?_,fun hq=>?_⟩
          ·have hq:cliSame w v=true:=hq
           rw [any_hit hk2 hv hq,Bool.true_or] at hb
           conv=>whnf
           exact ⟨by rw [h2,if_pos hb],rfl⟩
          ·have hq:cliSame w v=false:=hq
           conv=>whnf
           repeat (refine ⟨gP_of ⟨by omega,by omega⟩,?_⟩;conv=>whnf)
           exact ⟨_,by omega,k+1,rfl,rfl,rfl,by omega,hg.succ hv hq⟩
         ·have hki:k=i:=by omega
          subst hki
          rw [hg.none,Bool.false_or] at hb
          conv=>whnf
          repeat (refine ⟨gP_of ⟨by omega,by omega⟩,?_⟩;conv=>whnf)
          exact ⟨_,by omega,k+1,rfl,rfl,rfl,by omega,hb⟩
      ·rw [drop_nil he,badGo] at hb
       have h3:lexErr x=0:=by rw [h2,if_neg (by rw [hb];decide)]
       conv=>whnf
       exact ⟨by rw [h3],rfl⟩
end Go.Abs.Wall
namespace Go.Abs.Wall
open Go Go.Abs Go.Proofs
def c107:Cfg:=⟨[0,1,2,3,4,5,6,10,22,55,59,64,101],[],[],[],[(6,[0,1,2,3,4,5,6,7,8,9,10,11,12,13,14,15,16,17,18,19,20,21,22,23,24,25,26,27,28,29,30,31,32],[]),(13,[0,1,2,3,4,5,6,7,8,9,10,11,12,13,14,15,16,17,18,19,20,21,22,23,24,25,26,27,28,29,30,31,32,33,34],[])],[]⟩
def c166:Cfg:=⟨[0,1,2,3,4,5,6,16,30],[],[],[],[(7,[0,1,2,3,4,5,6,7,8,9,10,11,12],[])],[]⟩
def c108:Cfg:=⟨[0,1,2,3,4,5,6,11],[],[],[],[],[]⟩
def lastOf (l:List Int) (i:Nat):Int:=if i=0 then -1 else l.getD ((i:Int) - 1).toNat 0
theorem lastOf_succ {l:List Int} {i:Nat} {c:Int} (h:l[i]?=some c):lastOf l (i+1)=c:=by
 unfold lastOf
 rw [if_neg (by omega),show (((i+1:Nat):Int) - 1).toNat=i by omega,List.getD_eq_getElem?_getD,h]
 rfl
theorem refForm (x:Lex) (f:Frm) (hx:LexFit x) (hf:f.clitics.length≤LMAX):QCall Tryz.prog 107 [.agg (encLex x),.agg (encFrm f)] [] (.int .i64 (frmErr x f)):=by
 have hx1:=hx.entries
 have hx2:=hx.endings
 have hx3:=hx.clitics
 unfold LMAX at hx1 hx2 hx3 hf
 refine fcalls (F:=Tryz.f107) c107 rfl rfl rfl mixed rfl fun X=>?_
 conv=>whnf
 repeat (refine QCall.k0 (refLex x hx) ?_;conv=>whnf)
 refine ⟨fun hc=>?_,fun hc=>?_⟩<;>simp at hc
 ·conv=>whnf
  skip
  exact ⟨by rw [frmErr,if_pos hc],rfl⟩
 conv=>whnf
 skip
 refine ⟨fun hd=>?_,fun hd=>?_⟩
 ·have hd:(decide (f.entry<0)||decide (((x.entries.map encEnt).length:Int)≤f.entry))=true:=hd
  rw [List.length_map,Bool.or_eq_true,decide_eq_true_eq,decide_eq_true_eq] at hd
  have hw:wthn f.entry 0 ((x.entries.length:Int) - 1)=false:=by rw [← Bool.not_eq_true,wthn_iff];omega
  conv=>whnf
  exact ⟨by rw [frmErr,if_neg (by omega),if_pos hw],rfl⟩
 have hd:(decide (f.entry<0)||decide (((x.entries.map encEnt).length:Int)≤f.entry))=false:=hd
 rw [List.length_map,Bool.or_eq_false_iff,decide_eq_false_iff_not,decide_eq_false_iff_not] at hd
 have hw:wthn f.entry 0 ((x.entries.length:Int) - 1)=true:=by rw [wthn_iff];omega
 conv=>whnf
 repeat ((first|(refine ixg (⟨0,[],[],0⟩:Edn) ?_ ?_;(focus (conv=>whnf;skip));(focus (intro g0 g1;simp at g0 g1;show 0≤_∧_<_;omega)))|(refine ixg (⟨[],0,[],0⟩:Ent) ?_ ?_;(focus (conv=>whnf;skip));(focus (intro g0 g1;show 0≤_∧_<_;omega)))|refine And.intro (by show drawOK (opsAt Tryz.f107 _) _=true;decide +kernel) ?_);conv=>whnf)
 refine ⟨fun he=>?_,fun he=>?_⟩
 ·have he:(decide (f.ending < -1)||decide (((x.endings.map encEdn).length:Int)≤f.ending)||(decide (0≤f.ending)&&!decide ((ednAt x f.ending).kind=(entAt x f.entry).kind)))=true:=he
  rw [List.length_map] at he
  have hb:badEnd x f=true:=by
   unfold badEnd wthn
   simp only [Bool.or_eq_true,Bool.and_eq_true,Bool.not_eq_true',decide_eq_true_eq,decide_eq_false_iff_not,Bool.and_eq_false_iff] at he ⊢
   rcases he with (he|he)|he
   ·exact ⟨by omega,.inl (.inl (by omega))⟩
   ·exact ⟨by omega,.inl (.inr (by omega))⟩
   ·exact ⟨by omega,.inr he.2⟩
  conv=>whnf
  exact ⟨by rw [frmErr,if_neg (by omega),if_neg (by rw [hw];decide),if_pos hb],rfl⟩
 have he:(decide (f.ending < -1)||decide (((x.endings.map encEdn).length:Int)≤f.ending)||(decide (0≤f.ending)&&!decide ((ednAt x f.ending).kind=(entAt x f.entry).kind)))=false:=he
 rw [List.length_map] at he
 have hb:badEnd x f=false:=by
  unfold badEnd wthn
  simp only [Bool.or_eq_false_iff,Bool.and_eq_false_iff,Bool.not_eq_false',decide_eq_true_eq,decide_eq_false_iff_not,Bool.and_eq_true] at he ⊢
  obtain ⟨⟨h1,h2⟩,h3⟩:=he
  by_cases h4:f.ending = -1
  ·exact .inl h4
  ·exact .inr ⟨⟨by omega,by omega⟩,by rcases h3 with h3|h3;omega;exact h3⟩
 conv=>whnf
 skip
 refine ⟨fun h3=>?_,fun h3=>?_⟩<;>simp at h3
 ·conv=>whnf
  exact ⟨by rw [frmErr,if_neg (by omega),if_neg (by rw [hw];decide),if_neg (by rw [hb];decide),if_pos (by omega)],rfl⟩
 have hg:frmErr x f=if cliOK x.clitics.length f.clitics (-1)=true then 0 else 47:=by rw [frmErr,if_neg (by omega),if_neg (by rw [hw];decide),if_neg (by rw [hb];decide),if_neg (by omega)]
 conv=>whnf
 skip
 refine sloop rfl mixed [2,3,6] [] (fun m r h=>∃ (i:Nat),r=[(2,[],.iptr (encLex x)),(3,[],.iptr (encFrm f)),(6,[],.int .i64 i)]∧h=[]∧m=f.clitics.length - i∧i≤f.clitics.length∧-1≤lastOf f.clitics i∧cliOK x.clitics.length f.clitics (-1)=cliOK x.clitics.length (f.clitics.drop i) (lastOf f.clitics i)) ?_ ?_
 ·conv=>whnf
  exact ⟨_,0,rfl,rfl,rfl,by omega,by simp [lastOf],rfl⟩
 ·rintro m r h ⟨i,rfl,rfl,rfl,hi,hl,hc2⟩
  conv=>whnf
  skip
  refine ⟨fun hi2=>?_,fun hi2=>?_⟩<;>simp at hi2
  ·obtain ⟨c,hc⟩:=get_lt hi2
   rw [drop_cons hc,cliOK] at hc2
   have hls:=lastOf_succ hc
   conv=>whnf
   repeat ((first|refine ⟨gP_of ⟨by omega,by omega⟩,?_⟩|refine ix (by assumption) ?_|(refine ixg (enc:=fun y:Int=>[AV.int .i64 y]) (0:Int) ?_ ?_;(focus (conv=>whnf;skip));(focus (intro g0 g1;simp at g0 g1;show 0≤_∧_<_;omega)))|refine And.intro (by show drawOK (opsAt Tryz.f107 _) _=true;decide +kernel) ?_);conv=>whnf)
   have hz:(decide (c<0)||decide (((x.clitics.map encCli).length:Int)≤c)||(decide (0<(i:Int))&&decide (c≤f.clitics.getD ((i:Int) - 1).toNat 0)))=(decide (c≤lastOf f.clitics i)||decide ((x.clitics.length:Int)≤c)):=by
    rw [List.length_map,Bool.eq_iff_iff]
    simp only [Bool.or_eq_true,Bool.and_eq_true,decide_eq_true_eq]
    unfold lastOf at hl ⊢
    split
    ·rename_i h0
     rw [if_pos h0] at hl
     omega
    ·rename_i h0
     rw [if_neg h0] at hl
     omega
   refine ⟨fun hq=>?_,fun hq=>?_⟩
   ·have hq:=hz.symm.trans hq
    rw [hq] at hc2
    conv=>whnf
    exact ⟨by rw [hg,hc2];rfl,rfl⟩
   ·have hq:=hz.symm.trans hq
    rw [hq] at hc2
    simp only [Bool.or_eq_false_iff,decide_eq_false_iff_not] at hq
    conv=>whnf
    repeat (refine ⟨gP_of ⟨by omega,by omega⟩,?_⟩;conv=>whnf)
    exact ⟨_,by omega,i+1,rfl,rfl,rfl,by omega,by rw [hls];omega,by rw [hls,hc2];rfl⟩
  ·rw [drop_nil hi2,cliOK] at hc2
   conv=>whnf
   skip
   exact ⟨by rw [hg,hc2];rfl,rfl⟩
theorem refHeavy (x:Lex) (f:Frm) (h:FrmOK x f):QCall Tryz.prog 166 [.agg (encLex x),.agg (encFrm f)] [] (.int .i64 (wgtM x f)):=by
 have hfew:=h.few
 have hw1:=(h.lex.entAt h.entry.1 h.entry.2).weight
 refine fcalls (F:=Tryz.f166) c166 rfl rfl rfl mixed rfl fun X=>?_
 conv=>whnf
 repeat ((refine ixn f.entry.toNat (by have:=h.entry;omega) (entAt_get h.entry.1 h.entry.2) ?_);conv=>whnf)
 refine ⟨fun he=>?_,fun he=>?_⟩<;>simp at he
 ·have hel:f.ending<x.endings.length:=by rcases h.ending with h|h<;>omega
  have hw2:=(h.lex.ednAt he hel).weight
  conv=>whnf
  repeat ((first|refine ⟨gP_of ⟨by omega,by omega⟩,?_⟩|(refine ixn f.ending.toNat (by omega) (ednAt_get he hel) ?_));conv=>whnf)
  obtain ⟨n0,hn0⟩:∃ n:Int,n=(entAt x f.entry).weight+(ednAt x f.ending).weight:=⟨_,rfl⟩
  rw [← hn0]
  have hn1:n0=(entAt x f.entry).weight+(if 0≤f.ending then (ednAt x f.ending).weight else 0):=by rw [if_pos he];exact hn0
  replace hn0:=hn1
  refine sloop rfl mixed [2,3,5,6] [] (fun m r h=>∃ (i:Nat) (n:Int),r=[(2,[],.iptr (encLex x)),(3,[],.iptr (encFrm f)),(5,[],.int .i64 n),(6,[],.int .i64 i)]∧h=[]∧m=f.clitics.length - i∧i≤f.clitics.length∧n=n0+cliW x (f.clitics.take i)) ?_ ?_
  ·conv=>whnf
   exact ⟨_,0,n0,rfl,rfl,rfl,by omega,by simp [cliW]⟩
  ·rintro m r h ⟨i,n,rfl,rfl,rfl,hi,hn⟩
   conv=>whnf
   skip
   refine ⟨fun hi2=>?_,fun hi2=>?_⟩<;>simp at hi2
   ·obtain ⟨c,hc⟩:=get_lt hi2
    have hcc:=h.cli c (List.mem_of_getElem? hc)
    have hcw:=(h.lex.cliAt hcc.1 hcc.2).weight
    have hb:=cliW_bound h.lex (l:=f.clitics.take i) fun d hd=>h.cli d (List.mem_of_mem_take hd)
    rw [List.length_take] at hb
    have hs:=take_snoc hc
    conv=>whnf
    repeat ((first|refine ⟨gP_of ⟨by omega,by omega⟩,?_⟩|refine ix (by assumption) ?_|(refine ixn c.toNat (by omega) (cliAt_get hcc.1 hcc.2) ?_)|refine And.intro (by show drawOK (opsAt Tryz.f166 _) _=true;decide +kernel) ?_);conv=>whnf)
    exact ⟨_,by omega,i+1,_,rfl,rfl,rfl,by omega,by rw [hs,cliW_snoc];omega⟩
   ·rw [List.take_of_length_le hi2] at hn
    conv=>whnf
    skip
    refine ⟨congrArg (AV.int .i64) ?_,rfl⟩
    rw [hn,hn0]
    rfl
 ·conv=>whnf
  skip
  obtain ⟨n0,hn0⟩:∃ n:Int,n=(entAt x f.entry).weight:=⟨_,rfl⟩
  rw [← hn0]
  have hn1:n0=(entAt x f.entry).weight+(if 0≤f.ending then (ednAt x f.ending).weight else 0):=by rw [if_neg (by omega)];omega
  replace hn0:=hn1
  refine sloop rfl mixed [2,3,5,6] [] (fun m r h=>∃ (i:Nat) (n:Int),r=[(2,[],.iptr (encLex x)),(3,[],.iptr (encFrm f)),(5,[],.int .i64 n),(6,[],.int .i64 i)]∧h=[]∧m=f.clitics.length - i∧i≤f.clitics.length∧n=n0+cliW x (f.clitics.take i)) ?_ ?_
  ·conv=>whnf
   exact ⟨_,0,n0,rfl,rfl,rfl,by omega,by simp [cliW]⟩
  ·rintro m r h ⟨i,n,rfl,rfl,rfl,hi,hn⟩
   conv=>whnf
   skip
   refine ⟨fun hi2=>?_,fun hi2=>?_⟩<;>simp at hi2
   ·obtain ⟨c,hc⟩:=get_lt hi2
    have hcc:=h.cli c (List.mem_of_getElem? hc)
    have hcw:=(h.lex.cliAt hcc.1 hcc.2).weight
    have hb:=cliW_bound h.lex (l:=f.clitics.take i) fun d hd=>h.cli d (List.mem_of_mem_take hd)
    rw [List.length_take] at hb
    have hs:=take_snoc hc
    conv=>whnf
    repeat ((first|refine ⟨gP_of ⟨by omega,by omega⟩,?_⟩|refine ix (by assumption) ?_|(refine ixn c.toNat (by omega) (cliAt_get hcc.1 hcc.2) ?_)|refine And.intro (by show drawOK (opsAt Tryz.f166 _) _=true;decide +kernel) ?_);conv=>whnf)
    exact ⟨_,by omega,i+1,_,rfl,rfl,rfl,by omega,by rw [hs,cliW_snoc];omega⟩
   ·rw [List.take_of_length_le hi2] at hn
    conv=>whnf
    skip
    refine ⟨congrArg (AV.int .i64) ?_,rfl⟩
    rw [hn,hn0]
    rfl
theorem refWgt (x:Lex) (f:Frm) (hx:LexFit x) (hf:f.clitics.length≤LMAX):QCall Tryz.prog 108 [.agg (encLex x),.agg (encFrm f)] [] (.tup [.int .i64 (if frmErr x f=0 then wgtM x f else 0),.int .i64 (frmErr x f)]):=by
 refine fcalls (F:=Tryz.f108) c108 rfl rfl rfl mixed rfl fun X=>?_
 conv=>whnf
 repeat (refine QCall.k0 (refForm x f hx hf) ?_;conv=>whnf)
 refine ⟨fun hc=>?_,fun hc=>?_⟩<;>simp at hc
 ·conv=>whnf
  skip
  exact ⟨by rw [if_neg hc],rfl⟩
 ·conv=>whnf
  repeat (refine QCall.k0 (refHeavy x f (frmOK hc)) ?_;conv=>whnf)
  exact ⟨by rw [if_pos hc,hc],rfl⟩
end Go.Abs.Wall
namespace Go.Abs.Wall
open Go Go.Abs Go.Proofs
def c25:Cfg:=⟨[0,1,2,3,4,5,7,12,18,32,33,34,35,43,55],[],[5],[],[],[]⟩
def c130:Cfg:=⟨[0,1,2,4,5,8,12,29],[],[],[],[(6,[0,1,2,3,4,5,6,7,8,9,10,11,12,13,14],[])],[]⟩
def c250:Cfg:=⟨[0,1,2,3,4,9],[],[],[],[],[]⟩
def c232:Cfg:=⟨[0,1,3,4,5,6,10,18,40],[],[],[],[(4,[0,1,2,3,4,5],[]),(8,[0,1,2,3,4,5,6,7,8,9,10,11,12,13],[]),(10,[0,1,2,3,4,5,6,7,8,9,10,11,12,13,14,15,16,17],[])],[]⟩
def c260:Cfg:=⟨[0,1,2,4,5,6,11,31],[],[],[],[],[]⟩
def c231:Cfg:=⟨[0,1,2,3,6,7,8,12,22,30],[],[],[],[],[]⟩
def c175:Cfg:=⟨[0,1,2,4,5,7,8,9,22,34,35,44,50],[],[],[],[],[]⟩
theorem refHouse (H:Hou) (hh:HouFit H):QCall Tryz.prog 25 [.agg (encHou H)] [] (.int .i64 (houErr H)):=by
 refine fcalls (F:=Tryz.f25) c25 rfl rfl rfl mixed rfl fun X=>?_
 conv=>whnf
 repeat (refine QCall.k0 (refCheck H.list hh.list) ?_;conv=>whnf)
 refine ⟨fun hc=>?_,fun hc=>?_⟩<;>simp at hc
 ·conv=>whnf
  skip
  exact ⟨by rw [houErr,if_pos hc],rfl⟩
 conv=>whnf
 repeat (refine QCall.k0 (refLex H.lex hh.lex) ?_;conv=>whnf)
 refine ⟨fun hd=>?_,fun hd=>?_⟩<;>simp at hd
 ·conv=>whnf
  skip
  exact ⟨by rw [houErr,if_neg (by omega),if_pos hd],rfl⟩
 have h0:houErr H=if (costL H.costs).all (wthn · 0 1000)=false then 50 else if wthn H.period 1 H.list.periods=false then 13 else 0:=by rw [houErr,if_neg (by omega),if_neg (by omega)]
 conv=>whnf
 repeat ((first|refine ⟨_,_,Rem.here _,⟨Nat.le_of_ble_eq_true rfl,rfl⟩,?_⟩|intro (nb:Nat));conv=>whnf)
 refine sloop rfl mixed [1,32,33,34] [] (fun m r h=>∃ (i:Nat),r=[(1,[],.iptr (encHou H)),(32,[],.sl 1 none (ints (costL H.costs))),(33,[],.int .i64 5),(34,[],.int .i64 i)]∧h=[]∧m=5 - i∧i≤5∧(costL H.costs).all (wthn · 0 1000)=((costL H.costs).drop i).all (wthn · 0 1000)) ?_ ?_
 ·conv=>whnf
  exact ⟨_,0,rfl,rfl,rfl,by omega,rfl⟩
 ·rintro m r h ⟨i,rfl,rfl,rfl,hi,ha⟩
  conv=>whnf
  refine ⟨fun he=>?_,fun he=>?_⟩<;>simp at he
  ·obtain ⟨c,hc⟩:=get_lt (l:=costL H.costs) (i:=i) (by simp [costL];omega)
   rw [drop_cons hc,List.all_cons] at ha
   conv=>whnf
   repeat (refine ix (by assumption) ?_;conv=>whnf)
   refine ⟨fun hq=>?_,fun hq=>?_⟩
   ·have hq:(decide (c<0)||decide (1000<c))=true:=hq
    have hw:wthn c 0 1000=false:=by rw [← Bool.not_eq_true,wthn_iff];simp at hq;omega
    rw [hw,Bool.false_and] at ha
    conv=>whnf
    skip
    exact ⟨by rw [h0,if_pos ha],rfl⟩
   ·have hq:(decide (c<0)||decide (1000<c))=false:=hq
    have hw:wthn c 0 1000=true:=by rw [wthn_iff];simp at hq;omega
    rw [hw,Bool.true_and] at ha
    conv=>whnf
    repeat (refine ⟨gP_of ⟨by omega,by omega⟩,?_⟩;conv=>whnf)
    exact ⟨_,by omega,i+1,rfl,rfl,rfl,by omega,ha⟩
  ·rw [drop_nil (by simp [costL];omega)] at ha
   have h1:houErr H=if wthn H.period 1 H.list.periods=false then 13 else 0:=by rw [h0,if_neg (by rw [ha];decide)]
   conv=>whnf
   skip
   refine ⟨fun hq=>?_,fun hq=>?_⟩
   ·have hq:(decide (H.period<1)||decide (H.list.periods<H.period))=true:=hq
    have hw:wthn H.period 1 H.list.periods=false:=by rw [← Bool.not_eq_true,wthn_iff];simp at hq;omega
    conv=>whnf
    exact ⟨by rw [h1,if_pos hw],rfl⟩
   ·have hq:(decide (H.period<1)||decide (H.list.periods<H.period))=false:=hq
    have hw:wthn H.period 1 H.list.periods=true:=by rw [wthn_iff];simp at hq;omega
    conv=>whnf
    exact ⟨by rw [h1,if_neg (by rw [hw];decide)],rfl⟩
def lineE (l:Lst) (line:List Int):Int:=if 60<line.length then 2 else if line.any (fun s=>!wthn s 0 ((l.signs.length:Int) - 1))=true then 23 else 0
theorem refLine (l:Lst) (line:List Int) (hh:LstFit l) (hl:line.length≤LMAX):QCall Tryz.prog 130 [.agg (encLst l),.sl 1 none (ints line)] [] (.int .i64 (lineE l line)):=by
 unfold LMAX at hl
 refine fcalls (F:=Tryz.f130) c130 rfl rfl rfl mixed rfl fun X=>?_
 conv=>whnf
 skip
 refine ⟨fun hc=>?_,fun hc=>?_⟩<;>simp at hc
 ·conv=>whnf
  exact ⟨by rw [lineE,if_pos (by omega)],rfl⟩
 have h0:lineE l line=if line.any (fun s=>!wthn s 0 ((l.signs.length:Int) - 1))=true then 23 else 0:=by rw [lineE,if_neg (by omega)]
 conv=>whnf
 skip
 refine sloop rfl mixed [1,2,5] [] (fun m r h=>∃ (i:Nat),r=[(1,[],.sl 1 none (ints line)),(2,[],.iptr (encLst l)),(5,[],.int .i64 i)]∧h=[]∧m=line.length - i∧i≤line.length∧line.any (fun s=>!wthn s 0 ((l.signs.length:Int) - 1))=(line.drop i).any (fun s=>!wthn s 0 ((l.signs.length:Int) - 1))) ?_ ?_
 ·conv=>whnf
  exact ⟨_,0,rfl,rfl,rfl,by omega,rfl⟩
 ·rintro m r h ⟨i,rfl,rfl,rfl,hi,ha⟩
  conv=>whnf
  skip
  refine ⟨fun he=>?_,fun he=>?_⟩<;>simp at he
  ·obtain ⟨c,hc⟩:=get_lt he
   rw [drop_cons hc,List.any_cons] at ha
   conv=>whnf
   repeat ((first|refine ix (by assumption) ?_|refine And.intro (by show drawOK (opsAt Tryz.f130 _) _=true;decide +kernel) ?_);conv=>whnf)
   refine ⟨fun hq=>?_,fun hq=>?_⟩
   ·have hq:(decide (c<0)||decide (((l.signs.map encSgn).length:Int)≤c))=true:=hq
    rw [List.length_map] at hq
    have hw:wthn c 0 ((l.signs.length:Int) - 1)=false:=by rw [← Bool.not_eq_true,wthn_iff];simp at hq;omega
    rw [hw,Bool.not_false,Bool.true_or] at ha
    conv=>whnf
    skip
    exact ⟨by rw [h0,if_pos ha],rfl⟩
   ·have hq:(decide (c<0)||decide (((l.signs.map encSgn).length:Int)≤c))=false:=hq
    rw [List.length_map] at hq
    have hw:wthn c 0 ((l.signs.length:Int) - 1)=true:=by rw [wthn_iff];simp at hq;omega
    rw [hw,Bool.not_true,Bool.false_or] at ha
    conv=>whnf
    repeat (refine ⟨gP_of ⟨by omega,by omega⟩,?_⟩;conv=>whnf)
    exact ⟨_,by omega,i+1,rfl,rfl,rfl,by omega,ha⟩
  ·rw [drop_nil he,List.any_nil] at ha
   conv=>whnf
   skip
   exact ⟨by rw [h0,if_neg (by rw [ha];decide)],rfl⟩
def lessU (a b:Use):Bool:=decide (useCmp a b<0)
theorem refLessU (a b:Use):QCall Tryz.prog 250 [.agg (encUse a),.agg (encUse b)] [] (.bool (lessU a b)):=by
 refine fcalls (F:=Tryz.f250) c250 rfl rfl rfl mixed rfl fun X=>?_
 conv=>whnf
 skip
 have hu:useCmp a b=if cmpI a.kind b.kind≠0 then cmpI a.kind b.kind else cmpS a.text b.text:=by unfold useCmp;rw [orI2]
 refine ⟨fun hq=>?_,fun hq=>?_⟩<;>simp at hq
 ·conv=>whnf
  skip
  refine ⟨congrArg AV.bool ?_,rfl⟩
  unfold lessU
  rw [hu,if_pos (by rw [ne_eq,cmpI_zero];exact hq),decide_eq_decide,cmpI_lt]
 ·conv=>whnf
  skip
  refine ⟨congrArg AV.bool ?_,rfl⟩
  unfold lessU
  rw [hu,if_neg (by rw [ne_eq,cmpI_zero];simpa using hq),bytesLess_eq,decide_eq_decide,cmpS_lt]
def putM (L:List Use) (u:Use):List Use:=if u∈L then L else bub lessU L u
theorem encU_len:∀ a:Use,(encUse a).length=2:=fun _=>rfl
theorem mid_get {α:Type} {A B:List α} {u:α} {n:Nat} (h:A.length=n):(A++u::B)[n]?=some u:=by subst h;simp
theorem row_ofL {α:Type} {k:Nat} {enc:α→List AV} {L:List α} {b n:Nat} (hn:L.length=n) (hne:L≠[]):Row k enc L (.osl b 0 n k) [(b,.vec (L.map enc).flatten)]:=by
 subst hn
 exact .inr ⟨hne,b,rfl,rfl⟩
theorem split_at {α:Type} {L:List α} {m:Nat} (h0:0<m) (hm:m≤L.length):∃ b,L[m - 1]?=some b∧L.take m=L.take (m - 1)++[b]∧L.drop (m - 1)=b::L.drop m:=by
 obtain ⟨b,hb⟩:=get_lt (l:=L) (i:=m - 1) (by omega)
 refine ⟨b,hb,?_,?_⟩
 ·have:=take_snoc hb
  rwa [show m - 1+1=m by omega] at this
 ·have:=drop_cons hb
  rwa [show m - 1+1=m by omega] at this
theorem swap_mid {α:Type} {A B:List α} {b u:α} {m:Nat} (hA:A.length=m - 1) (h0:0<m):(((A++[b])++u::B).set m b).set (m - 1) u=A++u::b::B:=by
 rw [List.append_assoc]
 rw [List.set_append_right _ _ (by omega),List.set_append_right _ _ (by omega)]
 rw [hA,show m - (m - 1)=1 by omega,show m - 1 - (m - 1)=0 by omega]
 rfl
theorem refPut (L:List Use) (u:Use) (v:AV) (hp:Heap) (hL:Row 2 encUse L v hp) (hl:L.length+1≤AMAX) :
  ACalls Tryz.prog 232 [v,.agg (encUse u)] hp (fun v' h'=>Row 2 encUse (putM L u) v' h'):=by
 have hl':=hl
 unfold AMAX at hl'
 rcases hL with ⟨hLe,rfl,rfl⟩|⟨hne,b,rfl,rfl⟩
 ·refine fcalls (F:=Tryz.f232) c232 rfl rfl rfl mixed rfl fun X=>?_
  conv=>whnf
  refine uloop 60 rfl mixed ?_
  conv=>whnf
  refine .inr ?_
  conv=>whnf
  skip
  refine cF rfl ?_
  conv=>whnf
  repeat ((first|(refine ⟨⟨Nat.le_of_ble_eq_true rfl,Nat.le_of_ble_eq_true rfl⟩,fun bb=>?_⟩)|(refine ⟨gP_of ⟨by simp,by simp⟩,?_⟩));conv=>whnf)
  have hpm:putM L u=bub lessU L u:=by rw [putM,hLe,if_neg (by simp)]
  have hL1:(L++[u]).length=L.length+1:=by simp
  refine sloop rfl mixed [0,6] [] (fun m r h=>∃ (i:Nat) (R:List Use),r=[(0,[],.osl bb 0 (L.length+1) 2),(6,[],.int .i64 i)]∧h=[(bb,.vec (R.map encUse).flatten)]∧m=i∧i≤L.length∧R=L.take i++u::L.drop i∧bub lessU L u=bub lessU (L.take i) u++L.drop i) ?_ ?_
  ·conv=>whnf
   exact ⟨_,L.length,L++[u],by first|(rw [hLe];rfl)|simp,by first|(rw [hLe];rfl)|(rw [List.map_append,List.flatten_append];rfl),rfl,by omega,by simp,by simp⟩
  ·rintro m r h ⟨i,R,rfl,rfl,rfl,hi,hR,hb⟩
   have hRl:R.length=L.length+1:=by rw [hR];simp;omega
   have hRi:R[m]?=some u:=by rw [hR];exact mid_get (by rw [List.length_take];omega)
   obtain ⟨pv,hpv⟩:=get_lt (l:=R) (i:=((m:Int) - 1).toNat) (by omega)
   conv=>whnf
   repeat ((first|refine ⟨gP_of ⟨by omega,by omega⟩,?_⟩|(refine ixo (i:=m) (by omega) ?_)|(refine ixog ?_ ?_;(focus (conv=>whnf;skip));(focus (intro g0;simp at g0;show 0≤_∧_<_;omega)))|(refine ldE encU_len (.head _) (Nat.zero_add _) hRi ?_)|(refine ldE encU_len (.head _) (Nat.zero_add _) hpv ?_)|refine gcall (refLessU u pv) ?_|refine And.intro (by show drawOK (opsAt Tryz.f232 _) _=true;decide +kernel) ?_);conv=>whnf)
   refine ⟨fun hq=>?_,fun hq=>?_⟩
   ·have hq:(decide (0<(m:Int))&&lessU u pv)=true:=hq
    rw [Bool.and_eq_true,decide_eq_true_eq] at hq
    obtain ⟨c,hc,h1,h2⟩:=split_at (L:=L) (m:=m) (by omega) hi
    have hpc:pv=c:=by
     rw [show ((m:Int) - 1).toNat=m - 1 by omega,hR,h1,List.append_assoc,List.getElem?_append_right (by rw [List.length_take];omega),List.length_take,show m - 1 - min (m - 1) L.length=0 by omega] at hpv
     exact (Option.some.inj hpv).symm
    subst hpc
    have hpv':R[m - 1]?=some pv:=by rw [← hpv,show ((m:Int) - 1).toNat=m - 1 by omega]
    have hRs:(R.set m pv).set (m - 1) u=L.take (m - 1)++u::L.drop (m - 1):=by
     rw [hR,h1,h2]
     exact swap_mid (by rw [List.length_take];omega) (by omega)
    conv=>whnf
    repeat ((first|refine ⟨gP_of ⟨by omega,by omega⟩,?_⟩|(refine ixo (i:=m) (by omega) ?_)|(refine ⟨m - 1,gP_of ⟨by omega,by omega⟩,?_⟩)|(refine ldE encU_len (.head _) (Nat.zero_add _) hRi ?_)|(refine ldE encU_len (.head _) (Nat.zero_add _) hpv' ?_)|(refine stE pv (by decide) encU_len (i:=m) (by omega) (Nat.zero_add _) rfl (.here _) ?_)|(refine stE u (by decide) encU_len (i:=m - 1) (by simp;omega) (Nat.zero_add _) rfl (.here _) ?_)|refine And.intro (by show drawOK (opsAt Tryz.f232 _) _=true;decide +kernel) ?_);conv=>whnf)
    exact ⟨m - 1,by omega,m - 1,_,by rw [show (m:Int) - 1=((m - 1:Nat):Int) by omega],rfl,rfl,by omega,hRs,by rw [hb,h1,bub_pass hq.2,h2]⟩
   ·have hq:(decide (0<(m:Int))&&lessU u pv)=false:=hq
    have hfin:R=putM L u:=by
     rw [hpm,hb,hR]
     by_cases h0:m=0
     ·subst h0;rfl
     ·obtain ⟨c,hc,h1,h2⟩:=split_at (L:=L) (m:=m) (by omega) hi
      have hpc:pv=c:=by
       rw [show ((m:Int) - 1).toNat=m - 1 by omega,hR,h1,List.append_assoc,List.getElem?_append_right (by rw [List.length_take];omega),List.length_take,show m - 1 - min (m - 1) L.length=0 by omega] at hpv
       exact (Option.some.inj hpv).symm
      subst hpc
      rw [h1,bub_stop (by rw [Bool.and_eq_false_iff,decide_eq_false_iff_not] at hq;rcases hq with hq|hq;omega;exact hq),List.append_assoc]
      rfl
    conv=>whnf
    skip
    rw [← hfin]
    exact row_ofL hRl (by intro h;rw [h] at hRl;simp at hRl)
 ·refine fcalls (F:=Tryz.f232) c232 rfl rfl rfl mixed rfl fun X=>?_
  conv=>whnf
  refine sloop rfl mixed [0,3,5] [] (fun m r h=>∃ (i:Nat),r=[(0,[],.osl b 0 L.length 2),(3,[],.iptr (encUse u)),(5,[],.int .i64 i)]∧h=[(b,.vec (L.map encUse).flatten)]∧m=L.length - i∧i≤L.length∧∀ j x,j<i→L[j]?=some x→x≠u) ?_ ?_
  ·conv=>whnf
   exact ⟨_,0,rfl,rfl,rfl,by omega,fun j x h=>by omega⟩
  ·rintro m r h ⟨i,rfl,rfl,rfl,hi,hg⟩
   conv=>whnf
   skip
   refine ⟨fun he=>?_,fun he=>?_⟩<;>simp only [decide_eq_true_eq,decide_eq_false_iff_not] at he
   ·obtain ⟨x,hx⟩:=get_lt (l:=L) (i:=i) (by omega)
    conv=>whnf
    repeat ((first|(refine ixo (i:=i) (by omega) ?_)|(refine ldE encU_len (.head _) (Nat.zero_add _) hx ?_)|(refine ⟨plainUse,?_⟩)|refine And.intro (by show drawOK (opsAt Tryz.f232 _) _=true;decide +kernel) ?_);conv=>whnf)
    refine ⟨fun hq=>?_,fun hq=>?_⟩
    ·have hq:useEq x u=true:=hq
     rw [useEq_iff,decide_eq_true_eq] at hq
     subst hq
     conv=>whnf
     skip
     rw [putM,if_pos (List.mem_of_getElem? hx)]
     exact row_ofL rfl hne
    ·have hq:useEq x u=false:=hq
     rw [useEq_iff,decide_eq_false_iff_not] at hq
     conv=>whnf
     repeat (refine ⟨gP_of ⟨by omega,by omega⟩,?_⟩;conv=>whnf)
     refine ⟨_,by omega,i+1,rfl,rfl,rfl,by omega,fun j y hj hy=>?_⟩
     by_cases h1:j=i
     ·subst h1
      rw [hx] at hy
      cases hy
      exact hq
     ·exact hg j y (by omega) hy
   ·have hpm:putM L u=bub lessU L u:=by
     rw [putM,if_neg]
     intro hm
     obtain ⟨j,hj⟩:=List.mem_iff_getElem?.1 hm
     exact hg j u (by have:=(List.getElem?_eq_some_iff.1 hj).1;omega) hj rfl
    conv=>whnf
    repeat ((first|(refine ⟨_,.head _,⟨enc_len encU_len,hl⟩,fun bb=>⟨_,.here _,?_⟩⟩)|(refine ⟨gP_of ⟨by simp<;>omega,by simp<;>omega⟩,?_⟩));conv=>whnf)
    have hL1:(L++[u]).length=L.length+1:=by simp
    refine sloop rfl mixed [0,6] [] (fun m r h=>∃ (i:Nat) (R:List Use),r=[(0,[],.osl bb 0 (L.length+1) 2),(6,[],.int .i64 i)]∧h=[(bb,.vec (R.map encUse).flatten)]∧m=i∧i≤L.length∧R=L.take i++u::L.drop i∧bub lessU L u=bub lessU (L.take i) u++L.drop i) ?_ ?_
    ·conv=>whnf
     exact ⟨_,L.length,L++[u],by first|(rw [hLe];rfl)|simp,by first|(rw [hLe];rfl)|(rw [List.map_append,List.flatten_append];rfl),rfl,by omega,by simp,by simp⟩
    ·rintro m r h ⟨i,R,rfl,rfl,rfl,hi,hR,hb⟩
     have hRl:R.length=L.length+1:=by rw [hR];simp;omega
     have hRi:R[m]?=some u:=by rw [hR];exact mid_get (by rw [List.length_take];omega)
     obtain ⟨pv,hpv⟩:=get_lt (l:=R) (i:=((m:Int) - 1).toNat) (by omega)
     conv=>whnf
     repeat ((first|refine ⟨gP_of ⟨by omega,by omega⟩,?_⟩|(refine ixo (i:=m) (by omega) ?_)|(refine ixog ?_ ?_;(focus (conv=>whnf;skip));(focus (intro g0;simp at g0;show 0≤_∧_<_;omega)))|(refine ldE encU_len (.head _) (Nat.zero_add _) hRi ?_)|(refine ldE encU_len (.head _) (Nat.zero_add _) hpv ?_)|refine gcall (refLessU u pv) ?_|refine And.intro (by show drawOK (opsAt Tryz.f232 _) _=true;decide +kernel) ?_);conv=>whnf)
     refine ⟨fun hq=>?_,fun hq=>?_⟩
     ·have hq:(decide (0<(m:Int))&&lessU u pv)=true:=hq
      rw [Bool.and_eq_true,decide_eq_true_eq] at hq
      obtain ⟨c,hc,h1,h2⟩:=split_at (L:=L) (m:=m) (by omega) hi
      have hpc:pv=c:=by
       rw [show ((m:Int) - 1).toNat=m - 1 by omega,hR,h1,List.append_assoc,List.getElem?_append_right (by rw [List.length_take];omega),List.length_take,show m - 1 - min (m - 1) L.length=0 by omega] at hpv
       exact (Option.some.inj hpv).symm
      subst hpc
      have hpv':R[m - 1]?=some pv:=by rw [← hpv,show ((m:Int) - 1).toNat=m - 1 by omega]
      have hRs:(R.set m pv).set (m - 1) u=L.take (m - 1)++u::L.drop (m - 1):=by
       rw [hR,h1,h2]
       exact swap_mid (by rw [List.length_take];omega) (by omega)
      conv=>whnf
      repeat ((first|refine ⟨gP_of ⟨by omega,by omega⟩,?_⟩|(refine ixo (i:=m) (by omega) ?_)|(refine ⟨m - 1,gP_of ⟨by omega,by omega⟩,?_⟩)|(refine ldE encU_len (.head _) (Nat.zero_add _) hRi ?_)|(refine ldE encU_len (.head _) (Nat.zero_add _) hpv' ?_)|(refine stE pv (by decide) encU_len (i:=m) (by omega) (Nat.zero_add _) rfl (.here _) ?_)|(refine stE u (by decide) encU_len (i:=m - 1) (by simp;omega) (Nat.zero_add _) rfl (.here _) ?_)|refine And.intro (by show drawOK (opsAt Tryz.f232 _) _=true;decide +kernel) ?_);conv=>whnf)
      exact ⟨m - 1,by omega,m - 1,_,by rw [show (m:Int) - 1=((m - 1:Nat):Int) by omega],rfl,rfl,by omega,hRs,by rw [hb,h1,bub_pass hq.2,h2]⟩
     ·have hq:(decide (0<(m:Int))&&lessU u pv)=false:=hq
      have hfin:R=putM L u:=by
       rw [hpm,hb,hR]
       by_cases h0:m=0
       ·subst h0;rfl
       ·obtain ⟨c,hc,h1,h2⟩:=split_at (L:=L) (m:=m) (by omega) hi
        have hpc:pv=c:=by
         rw [show ((m:Int) - 1).toNat=m - 1 by omega,hR,h1,List.append_assoc,List.getElem?_append_right (by rw [List.length_take];omega),List.length_take,show m - 1 - min (m - 1) L.length=0 by omega] at hpv
         exact (Option.some.inj hpv).symm
        subst hpc
        rw [h1,bub_stop (by rw [Bool.and_eq_false_iff,decide_eq_false_iff_not] at hq;rcases hq with hq|hq;omega;exact hq),List.append_assoc]
        rfl
      conv=>whnf
      skip
      rw [← hfin]
      exact row_ofL hRl (by intro h;rw [h] at hRl;simp at hRl)
def inUse (p:Int) (v:Val):Bool:=wthn p v.fr v.to
theorem take_snocF {α:Type} {l:List α} {i:Nat} {x:α} {f:α→Bool} (h:l[i]?=some x):(l.take (i+1)).filter f=(l.take i).filter f++(if f x=true then [x] else []):=by
 rw [take_snoc h,List.filter_append]
 congr 1
 by_cases hf:f x=true<;>simp [hf]
theorem refInUse (s:Sgn) (p:Int) (hs:s.values.length≤1048576):QCall Tryz.prog 260 [.agg (encSgn s),.int .i64 p] [] (.sl 4 none ((s.values.filter (inUse p)).map encVal)):=by
 refine QCall.of (fcalls (F:=Tryz.f260) c260 rfl rfl rfl mixed rfl fun X=>?_)
 conv=>whnf
 skip
 refine tloop rfl mixed [1,2,5,6] [] (fun m r h=>∃ (i:Nat) (v:AV) (hp:Heap),r=[(1,[],.int .i64 p),(2,[],.iptr (encSgn s)),(5,[],v),(6,[],.int .i64 i)]∧h=hp∧m=s.values.length - i∧i≤s.values.length∧Out 4 encVal ((s.values.take i).filter (inUse p)) v hp) ?_ ?_
 ·conv=>whnf
  exact ⟨_,_,Turn.refl _ _,_,0,_,_,rfl,rfl,rfl,by omega,.inl ⟨rfl,rfl,rfl⟩⟩
 ·rintro m r h' ⟨i,v,hp,rfl,rfl,rfl,hi,ho⟩
  conv=>whnf
  skip
  refine ⟨fun hi2=>?_,fun hi2=>?_⟩<;>simp at hi2
  ·obtain ⟨x,hx⟩:=get_lt hi2
   have htk:=take_snocF (f:=inUse p) hx
   have hlen:((s.values.take i).filter (inUse p)).length≤i:=by
    have:=List.length_filter_le (inUse p) (s.values.take i)
    rw [List.length_take] at this;omega
   conv=>whnf
   repeat (refine ix (by assumption) ?_;conv=>whnf)
   refine ⟨fun hq=>?_,fun hq=>?_⟩
   ·have hq:inUse p x=true:=hq
    rw [hq,if_pos rfl] at htk
    rcases ho with ⟨he,rfl,rfl⟩|⟨q,rfl,rfl⟩
    all_goals
     conv=>whnf
     repeat ((first|refine ⟨gP_of ⟨by omega,by omega⟩,?_⟩|refine ix (by assumption) ?_|(refine ⟨Nat.le_of_ble_eq_true rfl,fun q'=>?_⟩)|(refine ⟨(by simp;unfold AMAX;omega),fun q'=>⟨_,.here _,?_⟩⟩));conv=>whnf)
     refine ⟨_,_,Turn.refl _ _,_,(by omega),i+1,_,_,rfl,rfl,rfl,by omega,.inr ⟨q',?_,rfl⟩⟩
     rw [htk,List.map_append]
     first|rfl|(rw [he];rfl)
   ·have hq:inUse p x=false:=hq
    rw [if_neg (by rw [hq];decide),List.append_nil] at htk
    conv=>whnf
    repeat (refine ⟨gP_of ⟨by omega,by omega⟩,?_⟩;conv=>whnf)
    exact ⟨_,_,Turn.refl _ _,_,(by omega),i+1,_,_,rfl,rfl,rfl,by omega,by rw [htk];exact ho⟩
  ·rw [List.take_of_length_le hi2] at ho
   conv=>whnf
   skip
   exact ho.le (by decide)
theorem refValues (l:Lst) (n p:Int) (s:Sgn) (hl:LstFit l) (h0:0≤n) (hs:l.signs[n.toNat]?=some s) (hv:s.values.length≤1048576) (he:lstErr l=0) (hp:1≤p∧p≤l.periods) :
  QCall Tryz.prog 231 [.agg (encLst l),.int .i64 n,.int .i64 p] [] (.tup [.sl 4 none ((s.values.filter (inUse p)).map encVal),.int .i64 0]):=by
 have hlt:=(List.getElem?_eq_some_iff.1 hs).1
 refine fcalls (F:=Tryz.f231) c231 rfl rfl rfl mixed rfl fun X=>?_
 conv=>whnf
 repeat (refine QCall.k0 (refCheck l hl) ?_;conv=>whnf)
 rw [he]
 refine cF rfl ?_
 conv=>whnf
 skip
 refine cF (by rw [List.length_map];simp;omega) ?_
 conv=>whnf
 skip
 refine cF (by simp;omega) ?_
 conv=>whnf
 repeat ((first|(refine ixn n.toNat (by omega) hs ?_)|refine QCall.k0 (refInUse s p hv) ?_);conv=>whnf)
 exact ⟨rfl,rfl⟩
def usesF (vs:List Val) (L:List Use):List Use:=vs.foldl (fun L v=>(useOf v).foldl putM L) L
theorem putM_len (L:List Use) (u:Use):(putM L u).length≤L.length+1:=by
 unfold putM
 split
 ·omega
 ·rw [bub_perm.length_eq];simp
theorem foldl_put_len:∀ (us:List Use) (L:List Use),(us.foldl putM L).length≤L.length+us.length
 | [],L=>by simp
 | u::us,L=>by
   have h1:=putM_len L u
   have h2:=foldl_put_len us (putM L u)
   rw [List.foldl_cons,List.length_cons]
   omega
theorem usesF_len:∀ (vs:List Val) (L:List Use),(usesF vs L).length≤L.length+2*vs.length
 | [],L=>by simp [usesF]
 | v::vs,L=>by
   have h1:=foldl_put_len (useOf v) L
   have h2:=useOf_len v
   have h3:=usesF_len vs ((useOf v).foldl putM L)
   unfold usesF at h3 ⊢
   rw [List.foldl_cons,List.length_cons]
   omega
theorem usesF_snoc (vs:List Val) (v:Val) (L:List Use):usesF (vs++[v]) L=(useOf v).foldl putM (usesF vs L):=by
 unfold usesF
 rw [List.foldl_append];rfl
def refUsesM (p:Int) (s:Sgn):List Use:=usesF (s.values.filter (inUse p)) []
end Go.Abs.Wall
namespace Go.Abs.Wall
open Go Go.Abs Go.Proofs
theorem useOf_kind (v:Val):(v.kind=1∧useOf v=[⟨1,v.text⟩,⟨3,v.text⟩])∨(v.kind=2∧useOf v=[⟨2,v.text⟩])∨(v.kind=3∧useOf v=[⟨4,v.text⟩])∨(v.kind≠1∧v.kind≠2∧v.kind≠3∧useOf v=[]):=by
 unfold useOf
 by_cases h1:v.kind=1
 ·exact .inl ⟨h1,by rw [if_pos h1]⟩
 by_cases h2:v.kind=2
 ·exact .inr (.inl ⟨h2,by rw [if_neg h1,if_pos h2]⟩)
 by_cases h3:v.kind=3
 ·exact .inr (.inr (.inl ⟨h3,by rw [if_neg h1,if_neg h2,if_pos h3]⟩))
 ·exact .inr (.inr (.inr ⟨h1,h2,h3,by rw [if_neg h1,if_neg h2,if_neg h3]⟩))
theorem refUsesA (H:Hou) (n:Int) (s:Sgn) (hf:HouFit H) (hH:HouOK H) (h0:0≤n) (hs:H.list.signs[n.toNat]?=some s) :
  ACalls Tryz.prog 175 [.agg (encHou H),.int .i64 n] [] (fun v h'=>∃ hp Z,Row 2 encUse (refUsesM H.period s) v hp∧h'=hp++Z):=by
 have hsv:=((lstOK hH.lst).each _ (List.mem_of_getElem? hs)).few
 obtain ⟨vs,hvs⟩:∃ vs,vs=s.values.filter (inUse H.period):=⟨_,rfl⟩
 have hvl:vs.length≤12:=by have:=List.length_filter_le (inUse H.period) s.values;rw [hvs];omega
 have hM:refUsesM H.period s=usesF vs []:=by rw [hvs];rfl
 refine fcalls (F:=Tryz.f175) c175 rfl rfl rfl mixed rfl fun X=>?_
 conv=>whnf
 repeat (refine QCall.k0 (refValues H.list n H.period s hf.list h0 hs (by omega) hH.lst hH.period) ?_;conv=>whnf)
 rw [← hvs]
 refine tloop rfl mixed [5,7,8] [] (fun m r h=>∃ (i:Nat) (v:AV) (hp:Heap),r=[(5,[],.sl 4 none (vs.map encVal)),(7,[],v),(8,[],.int .i64 i)]∧h=hp∧m=vs.length - i∧i≤vs.length∧Row 2 encUse (usesF (vs.take i) []) v hp) ?_ ?_
 ·conv=>whnf
  exact ⟨_,_,Turn.weak (.cons (VLe.refl _) (.cons nil_le_nilO (.cons (VLe.refl _) .nil))),_,0,.nilO,[],rfl,rfl,rfl,by omega,.inl ⟨rfl,rfl,rfl⟩⟩
 ·rintro m r h' ⟨i,v,hp,rfl,rfl,rfl,hi,hr⟩
  conv=>whnf
  skip
  refine ⟨fun hi2=>?_,fun hi2=>?_⟩<;>simp at hi2
  ·obtain ⟨x,hx⟩:=get_lt hi2
   have htk:=take_snoc hx
   have hus:=usesF_snoc (vs.take i) x []
   rw [← htk] at hus
   have hlen:=usesF_len (vs.take i) []
   rw [List.length_take,List.length_nil] at hlen
   rcases useOf_kind x with ⟨hk,hu⟩|⟨hk,hu⟩|⟨hk,hu⟩|⟨hk1,hk2,hk3,hu⟩
   ·rw [hu,List.foldl_cons,List.foldl_cons,List.foldl_nil] at hus
    have hp1:=putM_len (usesF (vs.take i) []) ⟨1,x.text⟩
    conv=>whnf
    repeat (refine ix (by assumption) ?_;conv=>whnf)
    refine cT (by simp [hk]) ?_
    conv=>whnf
    skip
    refine ACalls.mono ?_ (refPut _ ⟨1,x.text⟩ v h' hr (by unfold AMAX;omega))
    intro v1 h1 hr1
    conv=>whnf
    skip
    refine ACalls.mono ?_ (refPut _ ⟨3,x.text⟩ v1 h1 hr1 (by unfold AMAX;omega))
    intro v2 h2 hr2
    conv=>whnf
    repeat (refine ⟨gP_of ⟨by omega,by omega⟩,?_⟩;conv=>whnf)
    exact ⟨_,_,Turn.refl _ _,_,(by omega),i+1,_,_,rfl,rfl,rfl,by omega,by rw [hus];exact hr2⟩
   ·rw [hu,List.foldl_cons,List.foldl_nil] at hus
    conv=>whnf
    repeat (refine ix (by assumption) ?_;conv=>whnf)
    refine cF (by simp [hk]) ?_
    conv=>whnf
    skip
    refine cT (by simp [hk]) ?_
    conv=>whnf
    skip
    refine ACalls.mono ?_ (refPut _ ⟨2,x.text⟩ v h' hr (by unfold AMAX;omega))
    intro v1 h1 hr1
    conv=>whnf
    repeat (refine ⟨gP_of ⟨by omega,by omega⟩,?_⟩;conv=>whnf)
    exact ⟨_,_,Turn.refl _ _,_,(by omega),i+1,_,_,rfl,rfl,rfl,by omega,by rw [hus];exact hr1⟩
   ·rw [hu,List.foldl_cons,List.foldl_nil] at hus
    conv=>whnf
    repeat (refine ix (by assumption) ?_;conv=>whnf)
    refine cF (by simp [hk]) ?_
    conv=>whnf
    skip
    refine cF (by simp [hk]) ?_
    conv=>whnf
    skip
    refine cT (by simp [hk]) ?_
    conv=>whnf
    skip
    refine ACalls.mono ?_ (refPut _ ⟨4,x.text⟩ v h' hr (by unfold AMAX;omega))
    intro v1 h1 hr1
    conv=>whnf
    repeat (refine ⟨gP_of ⟨by omega,by omega⟩,?_⟩;conv=>whnf)
    exact ⟨_,_,Turn.refl _ _,_,(by omega),i+1,_,_,rfl,rfl,rfl,by omega,by rw [hus];exact hr1⟩
   ·rw [hu,List.foldl_nil] at hus
    conv=>whnf
    repeat (refine ix (by assumption) ?_;conv=>whnf)
    refine cF (by simp [hk1]) ?_
    conv=>whnf
    skip
    refine cF (by simp [hk2]) ?_
    conv=>whnf
    skip
    refine cF (by simp [hk3]) ?_
    conv=>whnf
    repeat (refine ⟨gP_of ⟨by omega,by omega⟩,?_⟩;conv=>whnf)
    exact ⟨_,_,Turn.refl _ _,_,(by omega),i+1,_,_,rfl,rfl,rfl,by omega,by rw [hus];exact hr⟩
  ·rw [List.take_of_length_le hi2] at hr
   conv=>whnf
   skip
   exact ⟨h',[],by rw [hM];exact hr,(List.append_nil _).symm⟩
theorem useOf_key {u:Use} {v:Val} (h:u∈useOf v):v.text=u.text∧v.kind=(if u.kind=2 then 2 else if u.kind=4 then 3 else 1):=by
 rcases useOf_kind v with ⟨hk,e⟩|⟨hk,e⟩|⟨hk,e⟩|⟨_,_,_,e⟩<;>rw [e] at h<;>simp at h
 ·rcases h with rfl|rfl<;>simp [hk]
 ·subst h;simp [hk]
 ·subst h;simp [hk]
theorem useOf_nodup (v:Val):(useOf v).Nodup:=by
 rcases useOf_kind v with ⟨hk,e⟩|⟨hk,e⟩|⟨hk,e⟩|⟨_,_,_,e⟩<;>rw [e]<;>simp
theorem useOf_fresh {p:Int} {v w:Val} (hm:meetB v w=false) (hv:inUse p v=true) (hw:inUse p w=true):∀ u∈useOf v,u ∉ useOf w:=by
 have hov:¬ (v.kind=w.kind∧v.text=w.text):=by
  rintro ⟨h1,h2⟩
  unfold inUse at hv hw
  rw [wthn_iff] at hv hw
  unfold meetB at hm
  rw [decide_eq_true h1,decide_eq_true h2,decide_eq_true (show v.fr≤w.to by omega),decide_eq_true (show w.fr≤v.to by omega)] at hm
  cases hm
 intro u hu hu2
 have h1:=useOf_key hu
 have h2:=useOf_key hu2
 exact hov ⟨h1.2.trans h2.2.symm,h1.1.trans h2.1.symm⟩
def Apart (p:Int):List Val→Prop
 | []=>True
 | v::t=>(∀ w∈t,inUse p v=true→inUse p w=true→meetB w v=false)∧Apart p t
theorem valErr_apart {l:Lst} {b:List Val} {v:Val} (h:valErr l b v=0):∀ w∈b,meetB v w=false:=by
 unfold valErr at h
 split at h
 ·cases h
 split at h
 ·cases h
 split at h
 ·cases h
 ·rename_i h3
  rw [Bool.not_eq_true,List.any_eq_false] at h3
  exact fun w hw=>by simpa using h3 w hw
theorem valsErr_get {l:Lst} {vs:List Val}:∀ {t:List Val} {i:Nat},vs.drop i=t→valsErr l vs t i=0→∀ j v,i≤j→vs[j]?=some v→valErr l (vs.take j) v=0
 | [],i,hd,h,j,v,hj,hv=>by
   have:=(List.getElem?_eq_some_iff.1 hv).1
   have hl:=congrArg List.length hd
   rw [List.length_drop,List.length_nil] at hl
   omega
 | a::t,i,hd,h,j,v,hj,hv=>by
   unfold valsErr at h
   split at h
   ·rename_i h1;exact absurd h h1
   ·rename_i h1
    by_cases hij:j=i
    ·subst hij
     have:vs[j]?=some a:=by
      have:=congrArg (fun z=>z[0]?) hd
      simpa using this
     rw [hv] at this
     cases this
     exact by simpa using h1
    ·exact valsErr_get (t:=t) (i:=i+1) (by have:=congrArg List.tail hd;simpa [List.tail_drop] using this) h j v (by omega) hv
theorem apart_of {p:Int}:∀ {vs:List Val},(∀ (j k:Nat) v w,j<k→vs[j]?=some v→vs[k]?=some w→meetB w v=false)→Apart p vs
 | [],_=>trivial
 | a::t,h=>⟨fun w hw _ _=>by
    obtain ⟨k,hk⟩:=List.mem_iff_getElem?.1 hw
    exact h 0 (k+1) a w (by omega) rfl (by simpa using hk),apart_of fun j k v w hj hv hw=>h (j+1) (k+1) v w (by omega) (by simpa using hv) (by simpa using hw)⟩
theorem sgn_apart {l:Lst} {s:Sgn} (h:sgnErr l s=0) (p:Int):Apart p s.values:=by
 unfold sgnErr at h
 split at h
 ·cases h
 split at h
 ·cases h
 ·refine apart_of fun j k v w hj hv hw=>?_
  have:=valsErr_get (i:=0) rfl h k w (by omega) hw
  exact valErr_apart this v (List.mem_of_getElem? (i:=j) (by rw [List.getElem?_take,if_pos hj,hv]))
theorem useGo_nodup {p:Int}:∀ {vs:List Val},Apart p vs→(useGo p vs).Nodup
 | [],_=>.nil
 | v::t,h=>by
   unfold useGo
   split
   ·rename_i hw
    rw [List.nodup_append]
    refine ⟨useOf_nodup v,useGo_nodup h.2,fun u hu u' hu' e=>?_⟩
    subst e
    have hmem:∀ {t:List Val},u∈useGo p t→∃ w∈t,inUse p w=true∧u∈useOf w:=by
     intro t
     induction t with
     | nil=>intro h;cases h
     | cons a t ih=>
       intro h
       unfold useGo at h
       rcases List.mem_append.1 h with h|h
       ·split at h
        ·rename_i h1;exact ⟨a,by simp,h1,h⟩
        ·cases h
       ·obtain ⟨w,h1,h2⟩:=ih h
        exact ⟨w,by simp [h1],h2⟩
    obtain ⟨w,h1,h2,h3⟩:=hmem hu'
    exact useOf_fresh (h.1 w h1 hw h2) h2 hw u h3 hu
   ·rw [List.nil_append];exact useGo_nodup h.2
theorem foldl_put_bub:∀ {us L:List Use},us.Nodup→(∀ u∈us,u ∉ L)→us.foldl putM L=us.foldl (bub lessU) L
 | [],L,_,_=>rfl
 | u::us,L,hn,hd=>by
   rw [List.nodup_cons] at hn
   rw [List.foldl_cons,List.foldl_cons,show putM L u=bub lessU L u by rw [putM,if_neg (hd u (by simp))]]
   refine foldl_put_bub hn.2 fun x hx hm=>?_
   rcases List.mem_cons.1 (bub_perm.mem_iff.1 hm) with rfl|hm
   ·exact hn.1 hx
   ·exact hd x (by simp [hx]) hm
theorem usesF_go (p:Int):∀ (vs:List Val) (L:List Use),usesF (vs.filter (inUse p)) L=(useGo p vs).foldl putM L
 | [],L=>rfl
 | v::t,L=>by
   rw [List.filter_cons]
   unfold useGo
   rw [List.foldl_append]
   by_cases hv:inUse p v=true
   ·rw [if_pos hv]
    have hv2:wthn p v.fr v.to=true:=hv
    rw [if_pos hv2]
    exact usesF_go p t _
   ·rw [if_neg hv]
    have hv2:¬ wthn p v.fr v.to=true:=hv
    rw [if_neg hv2]
    exact usesF_go p t L
theorem refUses_eq {l:Lst} {s:Sgn} {p:Int} (h:sgnErr l s=0):refUsesM p s=usesM p s:=by
 unfold refUsesM usesM sortU
 rw [usesF_go,foldl_put_bub (useGo_nodup (sgn_apart h p)) (fun u _=>by simp)]
 exact foldl_bub zU.c.w fun x _ y _=>zU.c.anti x y
theorem lst_sgn {l:Lst} (h:lstErr l=0):∀ s∈l.signs,sgnErr l s=0:=by
 unfold lstErr at h
 split at h
 ·cases h
 split at h
 ·cases h
 ·have hgo:∀ {t:List Sgn} {seen:List (List UInt8)},lstGo l t seen=0→∀ s∈t,sgnErr l s=0:=by
   intro t
   induction t with
   | nil=>intro seen _ s hs;cases hs
   | cons a t ih=>
     intro seen h s hs
     unfold lstGo at h
     split at h
     ·cases h
     split at h
     ·rename_i h1;exact absurd h h1
     ·rename_i h1
      rcases List.mem_cons.1 hs with rfl|hs
      ·simpa using h1
      ·exact ih h s hs
  exact hgo h
theorem refUsesW (H:Hou) (n:Int) (hf:HouFit H) (hH:HouOK H) (h0:0≤n) (h1:n<H.list.signs.length) :
  QCall Tryz.prog 175 [.agg (encHou H),.int .i64 n] [] (.sl 2 none ((usesAt H n).map encUse)):=by
 have hs:=sgnAt_get h0 h1
 have:=Row.ok (by decide) encU_len (refUsesA H n _ hf hH h0 hs)
 rwa [refUses_eq (lst_sgn hH.lst _ (List.mem_of_getElem? hs))] at this
def usesE (H:Hou) (n:Int):Int:=if houErr H≠0 then houErr H else if wthn n 0 ((H.list.signs.length:Int) - 1)=false then 23 else 0
def usesL (H:Hou) (n:Int):List Use:=if usesE H n=0 then usesAt H n else []
end Go.Abs.Wall
namespace Go.Abs.Wall
open Go Go.Abs Go.Proofs
theorem UsesW (H:Hou) (n:Int) (hf:HouFit H):QCall Tryz.prog 104 [.agg (encHou H),.int .i64 n] [] (.tup [.sl 2 none ((usesL H n).map encUse),.int .i64 (usesE H n)]):=by
 have hls:=hf.list.signs
 unfold LMAX at hls
 refine QCall.of ?_
 refine fcalls (F:=Tryz.f104) c104 rfl rfl rfl mixed rfl fun X=>?_
 conv=>whnf
 repeat (refine QCall.k0 (checkHouse H hf) ?_;conv=>whnf)
 refine ⟨fun hc=>?_,fun hc=>?_⟩<;>simp at hc
 ·have he:usesE H n=houErr H:=by rw [usesE,if_pos hc]
  conv=>whnf
  skip
  rw [usesL,he,if_neg hc]
  exact VLe.tup (.cons (VLe.nil (by decide)) (.cons (VLe.refl _) .nil))
 have hH:=houOK hc
 conv=>whnf
 repeat ((first|refine QCall.k0 (within _ _ _) ?_|(refine ⟨gP_of ⟨by rw [List.length_map];omega,by rw [List.length_map];omega⟩,?_⟩));conv=>whnf)
 refine ⟨fun hq=>?_,fun hq=>?_⟩
 ·have hq:(!wthn n 0 (((H.list.signs.map encSgn).length:Int) - 1))=true:=hq
  rw [List.length_map,Bool.not_eq_true'] at hq
  have he:usesE H n=23:=by rw [usesE,if_neg (by omega),if_pos hq]
  conv=>whnf
  skip
  rw [usesL,he,if_neg (by decide)]
  exact VLe.tup (.cons (VLe.nil (by decide)) (.cons (VLe.refl _) .nil))
 ·have hq:(!wthn n 0 (((H.list.signs.map encSgn).length:Int) - 1))=false:=hq
  rw [List.length_map,Bool.not_eq_false',wthn_iff] at hq
  have he:usesE H n=0:=by rw [usesE,if_neg (by omega),if_neg (by rw [Bool.not_eq_false,wthn_iff];omega)]
  have hs:=sgnAt_get (H:=H) (n:=n) hq.1 (by omega)
  have hsv:=((lstOK hH.lst).each _ (List.mem_of_getElem? hs)).few
  conv=>whnf
  repeat (refine QCall.k0 (usesW H n (sgnAt H n) hq.1 hs (by omega)) ?_;conv=>whnf)
  rw [usesL,he,if_pos rfl]
  exact VLe.refl _
end Go.Abs.Wall
namespace Go.Abs.Wall
open Go Go.Abs Go.Proofs Go.Proofs.YtbmcnieifibckaaGreat.Br
def ShParts (P:Program) (B:Nat):List TypeId→List (List AV)→Prop
 | [],[]=>True
 | t::ts,p::ps=>Sh P B t p∧ShParts P B ts ps
 | _,_=>False
theorem sh_parts {P:Program} {B:Nat}:∀ {ts:List TypeId} {ps:List (List AV)},ps.length=ts.length→(∀ (i:Nat) t p,ts[i]?=some t→ps[i]?=some p→Sh P B t p)→ShParts P B ts ps
 | [],[],_,_=>trivial
 | t::ts,p::ps,hl,h=>⟨h 0 t p rfl rfl,sh_parts (by simpa using hl) fun i t' p' h1 h2=>h (i+1) t' p' (by simpa using h1) (by simpa using h2)⟩
 | [],_::_,hl,_=>by simp at hl
 | _::_,[],hl,_=>by simp at hl
theorem sh_struct {P:Program} {B:Nat} {t:TypeId} {fs:Array Field} {xs:List AV} (h:Sh P B t xs) (hu:P.underlying t=some (.struct fs)):∃ ps,xs=ps.flatten∧ShParts P B (fs.toList.map (·.type)) ps:=by
 cases h with
 | bool h1=>rw [hu] at h1;cases h1
 | int h1 _=>rw [hu] at h1;cases h1
 | str h1 _=>rw [hu] at h1;cases h1
 | slice h1 _ _=>rw [hu] at h1;cases h1
 | @struct _ fs' ps h1 hl hp=>
   rw [hu] at h1;cases h1
   refine ⟨ps,rfl,sh_parts (by simpa using hl) fun i t p h1 h2=>?_⟩
   rw [List.getElem?_map] at h1
   cases hf:fs.toList[i]? with
   | none=>rw [hf] at h1;cases h1
   | some f=>rw [hf] at h1;cases h1;exact hp i f p hf h2
 | array h1 hl hp=>rw [hu] at h1;cases h1
theorem sh_int {P:Program} {B:Nat} {t:TypeId} {k:IntKind} {xs:List AV} (h:Sh P B t xs) (hu:P.underlying t=some (.int k)):∃ n:Int,xs=[.int k n]∧k.has n:=by
 cases h with
 | bool h1=>rw [hu] at h1;cases h1
 | int h1 h2=>rw [hu] at h1;cases h1;exact ⟨_,rfl,wf_has h2⟩
 | str h1 _=>rw [hu] at h1;cases h1
 | slice h1 _ _=>rw [hu] at h1;cases h1
 | struct h1 hl hp=>rw [hu] at h1;cases h1
 | array h1 hl hp=>rw [hu] at h1;cases h1
theorem sh_bool {P:Program} {B:Nat} {t:TypeId} {xs:List AV} (h:Sh P B t xs) (hu:P.underlying t=some .bool):∃ b:Bool,xs=[.bool b]:=by
 cases h with
 | bool h1=>exact ⟨_,rfl⟩
 | int h1 h2=>rw [hu] at h1;cases h1
 | str h1 _=>rw [hu] at h1;cases h1
 | slice h1 _ _=>rw [hu] at h1;cases h1
 | struct h1 hl hp=>rw [hu] at h1;cases h1
 | array h1 hl hp=>rw [hu] at h1;cases h1
theorem sh_str {P:Program} {B:Nat} {t:TypeId} {xs:List AV} (h:Sh P B t xs) (hu:P.underlying t=some .string):∃ s,xs=[.str s]∧s.length≤B:=by
 cases h with
 | bool h1=>rw [hu] at h1;cases h1
 | int h1 h2=>rw [hu] at h1;cases h1
 | str h1 h2=>exact ⟨_,rfl,h2⟩
 | slice h1 _ _=>rw [hu] at h1;cases h1
 | struct h1 hl hp=>rw [hu] at h1;cases h1
 | array h1 hl hp=>rw [hu] at h1;cases h1
theorem sh_list {P:Program} {B:Nat} {t e:TypeId} {xs:List AV} {α:Type} {enc:α→List AV} {Fit:α→Prop} (h:Sh P B t xs) (hu:P.underlying t=some (.slice e)) (he:∀ y,Sh P B e y→∃ a,y=enc a∧Fit a) :
  ∃ l:List α,xs=[.sl (P.cellsOf e) none (l.map enc)]∧l.length≤B∧∀ a∈l,Fit a:=by
 cases h with
 | bool h1=>rw [hu] at h1;cases h1
 | int h1 h2=>rw [hu] at h1;cases h1
 | str h1 _=>rw [hu] at h1;cases h1
 | @slice _ e' ys h1 h2 h3=>
   rw [hu] at h1;cases h1
   suffices hk:∃ l:List α,ys=l.map enc∧∀ a∈l,Fit a by
    obtain ⟨l,rfl,hf⟩:=hk
    exact ⟨l,rfl,by simpa using h2,hf⟩
   clear h2
   induction ys with
   | nil=>exact ⟨[],rfl,by simp⟩
   | cons y ys ih=>
     obtain ⟨l,rfl,hf⟩:=ih fun z hz=>h3 z (by simp [hz])
     obtain ⟨a,rfl,ha⟩:=he y (h3 y (by simp))
     exact ⟨a::l,rfl,fun b hb=>by rcases List.mem_cons.1 hb with rfl|hb;exact ha;exact hf b hb⟩
 | struct h1 hl hp=>rw [hu] at h1;cases h1
 | array h1 hl hp=>rw [hu] at h1;cases h1
theorem sh2 {P:Program} {B:Nat} {a b:TypeId} {ps:List (List AV)} (h:ShParts P B [a,b] ps):∃ x y,ps=[x,y]∧Sh P B a x∧Sh P B b y:=by
 match ps,h with
 | [x,y],⟨h1,h2,_⟩=>exact ⟨x,y,rfl,h1,h2⟩
theorem sh3 {P:Program} {B:Nat} {a b c:TypeId} {ps:List (List AV)} (h:ShParts P B [a,b,c] ps):∃ x y z,ps=[x,y,z]∧Sh P B a x∧Sh P B b y∧Sh P B c z:=by
 match ps,h with
 | [x,y,z],⟨h1,h2,h3,_⟩=>exact ⟨x,y,z,rfl,h1,h2,h3⟩
theorem sh4 {P:Program} {B:Nat} {a b c d:TypeId} {ps:List (List AV)} (h:ShParts P B [a,b,c,d] ps):∃ x y z u,ps=[x,y,z,u]∧Sh P B a x∧Sh P B b y∧Sh P B c z∧Sh P B d u:=by
 match ps,h with
 | [x,y,z,u],⟨h1,h2,h3,h4,_⟩=>exact ⟨x,y,z,u,rfl,h1,h2,h3,h4⟩
theorem sh5 {P:Program} {B:Nat} {a b c d e:TypeId} {ps:List (List AV)} (h:ShParts P B [a,b,c,d,e] ps):∃ x y z u v,ps=[x,y,z,u,v]∧Sh P B a x∧Sh P B b y∧Sh P B c z∧Sh P B d u∧Sh P B e v:=by
 match ps,h with
 | [x,y,z,u,v],⟨h1,h2,h3,h4,h5,_⟩=>exact ⟨x,y,z,u,v,rfl,h1,h2,h3,h4,h5⟩
abbrev B20:Nat:=1048576
theorem b20 {n:Nat} (h:n≤B20):n≤LMAX:=by unfold LMAX;unfold B20 at h;omega
theorem shInt {xs:List AV} (h:Sh Tryz.prog B20 3 xs):∃ n:Int,xs=[.int .i64 n]∧IntKind.i64.has n:=sh_int h rfl
theorem shInts {xs:List AV} (h:Sh Tryz.prog B20 34 xs):∃ l:List Int,xs=[.sl 1 none (ints l)]∧l.length≤B20∧∀ a∈l,IntKind.i64.has a:=
 sh_list (enc:=fun x=>[AV.int .i64 x]) h rfl fun y hy=>shInt hy
theorem shVal {xs:List AV} (h:Sh Tryz.prog B20 172 xs):∃ v:Val,xs=encVal v∧v.text.length≤B20:=by
 obtain ⟨ps,rfl,hp⟩:=sh_struct h rfl
 obtain ⟨x,y,z,u,rfl,h1,h2,h3,h4⟩:=sh4 hp
 obtain ⟨a,rfl,_⟩:=shInt h1
 obtain ⟨b,rfl,hb⟩:=sh_str h2 rfl
 obtain ⟨c,rfl,_⟩:=shInt h3
 obtain ⟨d,rfl,_⟩:=shInt h4
 exact ⟨⟨a,b,c,d⟩,rfl,hb⟩
theorem shSgn {xs:List AV} (h:Sh Tryz.prog B20 169 xs):∃ s:Sgn,xs=encSgn s∧SgnFit s:=by
 obtain ⟨ps,rfl,hp⟩:=sh_struct h rfl
 obtain ⟨x,y,z,u,v,rfl,h1,h2,h3,h4,h5⟩:=sh5 hp
 obtain ⟨a,rfl,ha⟩:=sh_str h1 rfl
 obtain ⟨b,rfl,hb⟩:=shInt h2
 obtain ⟨c,rfl,_⟩:=shInt h3
 obtain ⟨d,rfl⟩:=sh_bool h4 rfl
 obtain ⟨e,rfl,he,hf⟩:=sh_list (enc:=encVal) h5 rfl fun y hy=>shVal hy
 exact ⟨⟨a,b,c,d,e⟩,rfl,b20 ha,b20 he,fun v hv=>b20 (hf v hv)⟩
theorem shLst {xs:List AV} (h:Sh Tryz.prog B20 24 xs):∃ l:Lst,xs=encLst l∧LstFit l:=by
 obtain ⟨ps,rfl,hp⟩:=sh_struct h rfl
 obtain ⟨y,z,rfl,h1,h2⟩:=sh2 hp
 obtain ⟨a,rfl,_⟩:=shInt h1
 obtain ⟨b,rfl,hb,hf⟩:=sh_list (enc:=encSgn) h2 rfl fun y hy=>shSgn hy
 exact ⟨⟨a,b⟩,rfl,b20 hb,hf⟩
theorem shEnt {xs:List AV} (h:Sh Tryz.prog B20 150 xs):∃ e:Ent,xs=encEnt e∧EntFit e:=by
 obtain ⟨ps,rfl,hp⟩:=sh_struct h rfl
 obtain ⟨x,y,z,u,rfl,h1,h2,h3,h4⟩:=sh4 hp
 obtain ⟨a,rfl,ha⟩:=sh_str h1 rfl
 obtain ⟨b,rfl,hb⟩:=shInt h2
 obtain ⟨c,rfl,hc⟩:=sh_str h3 rfl
 obtain ⟨d,rfl,_⟩:=shInt h4
 exact ⟨⟨a,b,c,d⟩,rfl,b20 ha,b20 hc⟩
theorem shEdn {xs:List AV} (h:Sh Tryz.prog B20 174 xs):∃ e:Edn,xs=encEdn e∧EdnFit e:=by
 obtain ⟨ps,rfl,hp⟩:=sh_struct h rfl
 obtain ⟨x,y,z,u,rfl,h1,h2,h3,h4⟩:=sh4 hp
 obtain ⟨a,rfl,ha⟩:=shInt h1
 obtain ⟨b,rfl,hb⟩:=sh_str h2 rfl
 obtain ⟨c,rfl,hc⟩:=sh_str h3 rfl
 obtain ⟨d,rfl,_⟩:=shInt h4
 exact ⟨⟨a,b,c,d⟩,rfl,b20 hb,b20 hc⟩
theorem shCli {xs:List AV} (h:Sh Tryz.prog B20 176 xs):∃ e:Cli,xs=encCli e∧CliFit e:=by
 obtain ⟨ps,rfl,hp⟩:=sh_struct h rfl
 obtain ⟨x,y,z,rfl,h1,h2,h3⟩:=sh3 hp
 obtain ⟨a,rfl,ha⟩:=sh_str h1 rfl
 obtain ⟨b,rfl,hb⟩:=sh_str h2 rfl
 obtain ⟨c,rfl,hc⟩:=shInt h3
 exact ⟨⟨a,b,c⟩,rfl,b20 ha,b20 hb⟩
theorem shLex {xs:List AV} (h:Sh Tryz.prog B20 29 xs):∃ l:Lex,xs=encLex l∧LexFit l:=by
 obtain ⟨ps,rfl,hp⟩:=sh_struct h rfl
 obtain ⟨x,y,z,rfl,h1,h2,h3⟩:=sh3 hp
 obtain ⟨a,rfl,ha,fa⟩:=sh_list (enc:=encEnt) h1 rfl fun y hy=>shEnt hy
 obtain ⟨b,rfl,hb,fb⟩:=sh_list (enc:=encEdn) h2 rfl fun y hy=>shEdn hy
 obtain ⟨c,rfl,hc,fc⟩:=sh_list (enc:=encCli) h3 rfl fun y hy=>shCli hy
 exact ⟨⟨a,b,c⟩,rfl,b20 ha,b20 hb,b20 hc,fa,fb,fc⟩
theorem shCos {xs:List AV} (h:Sh Tryz.prog B20 31 xs):∃ c:Cos,xs=encCos c:=by
 obtain ⟨ps,rfl,hp⟩:=sh_struct h rfl
 obtain ⟨x,y,z,u,v,rfl,h1,h2,h3,h4,h5⟩:=sh5 hp
 obtain ⟨a,rfl,ha⟩:=shInt h1
 obtain ⟨b,rfl,hb⟩:=shInt h2
 obtain ⟨c,rfl,hc⟩:=shInt h3
 obtain ⟨d,rfl,hd⟩:=shInt h4
 obtain ⟨e,rfl,he⟩:=shInt h5
 exact ⟨⟨a,b,c,d,e⟩,rfl⟩
theorem shHou {xs:List AV} (h:Sh Tryz.prog B20 33 xs):∃ H:Hou,xs=encHou H∧HouFit H:=by
 obtain ⟨ps,rfl,hp⟩:=sh_struct h rfl
 obtain ⟨x,y,z,u,rfl,h1,h2,h3,h4⟩:=sh4 hp
 obtain ⟨a,rfl,ha⟩:=shLst h1
 obtain ⟨b,rfl,hb⟩:=shLex h2
 obtain ⟨c,rfl⟩:=shCos h3
 obtain ⟨d,rfl,hd⟩:=shInt h4
 exact ⟨⟨a,b,c,d⟩,rfl,⟨ha,hb⟩⟩
theorem shFrm {xs:List AV} (h:Sh Tryz.prog B20 38 xs):∃ f:Frm,xs=encFrm f∧f.clitics.length≤B20:=by
 obtain ⟨ps,rfl,hp⟩:=sh_struct h rfl
 obtain ⟨x,y,z,rfl,h1,h2,h3⟩:=sh3 hp
 obtain ⟨a,rfl,ha⟩:=shInt h1
 obtain ⟨b,rfl,hb⟩:=shInt h2
 obtain ⟨c,rfl,hc,_⟩:=shInts h3
 exact ⟨⟨a,b,c⟩,rfl,hc⟩
theorem argHou {x:AV} (h:ArgSh Tryz.prog B20 33 x):∃ H:Hou,x=.agg (encHou H)∧HouFit H:=by
 obtain ⟨xs,h,hx⟩:=h
 have hx:x=.agg xs:=hx
 subst hx
 obtain ⟨H,rfl,hf⟩:=shHou h
 exact ⟨H,rfl,hf⟩
theorem args3 {ts:List TypeId} {a b c:TypeId} {xs:List AV} (ht:ts=[a,b,c]) (h:ArgShs Tryz.prog B20 ts xs):∃ x y z,xs=[x,y,z]∧ArgSh Tryz.prog B20 a x∧ArgSh Tryz.prog B20 b y∧ArgSh Tryz.prog B20 c z:=by
 subst ht
 match xs,h with
 | [x,y,z],⟨h1,h2,h3,_⟩=>exact ⟨x,y,z,rfl,h1,h2,h3⟩
end Go.Abs.Wall
