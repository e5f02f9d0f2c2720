/- What is proved: small laws for the walks of this seat, and contracts of its functions. No condition but those each theorem names. -/
import Derived.Test.YtmkmflcemegikaaGreatN7
import Derived.Test.YtmkmflcemegikaaGreatN5
import Derived.Test.YtmkmflcemegikaaGreatN4
import Derived.Test.YtmkmflcemegikaaGreatN6
set_option maxRecDepth 100000
set_option maxHeartbeats 2000000
set_option linter.unusedVariables false
set_option linter.unusedSimpArgs false
namespace Go.Abs.Wall
open Go Go.Abs Go.Proofs
section
variable {α:Type} {k:Nat} {enc:α→List AV}
theorem flat_len (hk:∀ a,(enc a).length=k) (L:List α):((L.map enc).flatten).length=L.length*k:=enc_len hk
theorem flat_drop (hk:∀ a,(enc a).length=k):∀ (L:List α) (i:Nat),((L.map enc).flatten).drop (i*k)=((L.drop i).map enc).flatten
 | L,0=>by simp
 | [],i+1=>by simp
 | a::L,i+1=>by
   rw [List.map_cons,List.flatten_cons,List.drop_succ_cons,show (i+1)*k=(enc a).length+i*k by rw [hk,Nat.succ_mul,Nat.add_comm],List.drop_append,List.drop_eq_nil_of_le (Nat.le_add_right _ _),List.nil_append,Nat.add_sub_cancel_left]
   exact flat_drop hk L i
theorem flat_take (hk:∀ a,(enc a).length=k):∀ (L:List α) (i:Nat),((L.map enc).flatten).take (i*k)=((L.take i).map enc).flatten
 | L,0=>by simp
 | [],i+1=>by simp
 | a::L,i+1=>by
   rw [List.map_cons,List.flatten_cons,List.take_succ_cons,List.map_cons,List.flatten_cons,show (i+1)*k=(enc a).length+i*k by rw [hk,Nat.succ_mul,Nat.add_comm],List.take_append,List.take_of_length_le (Nat.le_add_right _ _),Nat.add_sub_cancel_left]
   rw [flat_take hk L i]
theorem ldE {P:Program} {t:TypeId} {b o i:Nat} {h:Heap} {L:List α} {x:α} {K:AV→Prop} (hk:∀ a,(enc a).length=k) (hm:(b,Ob.vec (L.map enc).flatten)∈h) (ho:o=i*k) (hx:L[i]?=some x)
  (hl:loadI P t (enc x++((L.drop (i+1)).map enc).flatten) K):∃ cs l,(b,Ob.vec cs)∈h∧dropN o cs=some l∧loadI P t l K:=by
 obtain ⟨hi,hx'⟩:=List.getElem?_eq_some_iff.1 hx
 refine ⟨_,_,hm,dropN_some ?_,?_⟩
 ·rw [flat_len hk,ho]
  exact Nat.mul_le_mul_right k (by omega)
 ·rw [ho,flat_drop hk,List.drop_eq_getElem_cons hi,hx',List.map_cons,List.flatten_cons]
  exact hl
theorem setC_flat (hk:∀ a,(enc a).length=k) {L:List α} {i:Nat} {y:α} (hi:i<L.length):setC (L.map enc).flatten (i*k) (enc y)=((L.set i y).map enc).flatten:=by
 unfold setC
 rw [hk,flat_take hk,show i*k+k=(i+1)*k by rw [Nat.succ_mul],flat_drop hk,List.set_eq_take_append_cons_drop,if_pos hi]
 simp
theorem stE {b o i:Nat} {h h':Heap} {L:List α} {l:List AV} {K:AV→Heap→Prop} (y:α) (hk0:0<k) (hk:∀ a,(enc a).length=k) (hi:i<L.length) (ho:o=i*k) (hl:l=enc y)
  (hu:Upd b (.vec (L.map enc).flatten) b (.vec ((L.set i y).map enc).flatten) h h') (hK:K .unit h') :
  ∃ cs h',Upd b (.vec cs) b (.vec (setC cs o l)) h h'∧(0<l.length∧o+l.length≤cs.length)∧K .unit h':=by
 subst ho hl
 refine ⟨_,h',by rw [setC_flat hk hi];exact hu,⟨by rw [hk];exact hk0,?_⟩,hK⟩
 rw [hk,flat_len hk,← Nat.succ_mul]
 exact Nat.mul_le_mul_right k hi
end
end Go.Abs.Wall
namespace Go.Abs.Wall
open Go Go.Abs Go.Proofs
def c84:Cfg:=⟨[0,1,4],[],[],[],[],[]⟩
def c86:Cfg:=⟨[0,2],[],[],[],[],[]⟩
def c85:Cfg:=⟨[0,2],[],[],[],[],[]⟩
def c87:Cfg:=⟨[0,2],[],[],[],[],[]⟩
def c49:Cfg:=⟨[0,1,2,3,4,5,6,7,8,9,10,11,12,28,33,67,70,96,101,130,133,155,160,183,186,197],[],[4,6,8,11],[],[(24,[0,1,2,3,4,5,6,7,8,9,10,11,12,13,14,15,16,17,18,19],[]),(35,[0,1,2,3,4,5,6,7,8],[])],[]⟩
theorem refSnd (s:List UInt8) (most:Int) (hs:s.length≤LMAX):QCall Tryz.prog 84 [.str s,.int .i64 most] [] (.bool (sndOK s most)):=by
 refine fcalls (F:=Tryz.f84) c84 rfl rfl rfl mixed rfl fun X=>?_
 conv=>whnf
 repeat (refine gcall (refSounds s hs) ?_;conv=>whnf)
 refine ⟨congrArg AV.bool ?_,rfl⟩
 unfold sndOK
 rw [Bool.and_comm (s.all letter)]
 rfl
theorem refName (s:List UInt8) (hs:s.length≤LMAX):QCall Tryz.prog 86 [.str s] [] (.bool (nameOK s)):=by
 refine fcalls (F:=Tryz.f86) c86 rfl rfl rfl mixed rfl fun X=>?_
 conv=>whnf
 repeat (refine gcall (refSmall s hs) ?_;conv=>whnf)
 refine ⟨congrArg AV.bool ?_,rfl⟩
 unfold nameOK
 rw [Bool.and_comm (s.all small)]
theorem refKind (n:Int):QCall Tryz.prog 85 [.int .i64 n] [] (.bool (wthn n 1 9)):=by
 refine fcalls (F:=Tryz.f85) c85 rfl rfl rfl mixed rfl fun X=>?_
 conv=>whnf
 skip
 exact ⟨rfl,rfl⟩
theorem refWeight (n:Int):QCall Tryz.prog 87 [.int .i64 n] [] (.bool (wthn n 0 1000)):=by
 refine fcalls (F:=Tryz.f87) c87 rfl rfl rfl mixed rfl fun X=>?_
 conv=>whnf
 skip
 exact ⟨rfl,rfl⟩
def entB0 (w:Ent):Bool:=!sndOK w.root 8||!wthn w.kind 1 9||(!decide (w.cls=[])&&!nameOK w.cls)||!wthn w.weight 0 1000
def ednB0 (w:Edn):Bool:=!wthn w.kind 1 9||!sndOK w.text 4||!nameOK w.name||!wthn w.weight 0 1000
def cliB0 (w:Cli):Bool:=!sndOK w.text 4||!nameOK w.name||!wthn w.weight 0 1000
theorem Below.none {α:Type} {p:α→Bool} {l:List α} {i:Nat} (h:Below p l i):(l.take i).any p=false:=by
 rw [List.any_eq_false]
 intro y hy
 obtain ⟨j,hj⟩:=List.mem_iff_getElem?.1 hy
 rw [List.getElem?_take] at hj
 split at hj
 ·rename_i h1
  rw [h j y h1 hj];decide
 ·cases hj
theorem any_hit {α:Type} {p:α→Bool} {l:List α} {i k:Nat} {y:α} (hk:k<i) (hy:l[k]?=some y) (hp:p y=true):(l.take i).any p=true:=by
 rw [List.any_eq_true]
 exact ⟨y,List.mem_of_getElem? (i:=k) (by rw [List.getElem?_take,if_pos hk,hy]),hp⟩
set_option maxHeartbeats 2000000 in
theorem refLex (x:Lex) (hx:LexFit x):QCall Tryz.prog 49 [.agg (encLex x)] [] (.int .i64 (lexErr x)):=by
 have hx1:=hx.entries
 have hx2:=hx.endings
 have hx3:=hx.clitics
 unfold LMAX at hx1 hx2 hx3
 refine fcalls (F:=Tryz.f49) c49 rfl rfl rfl mixed rfl fun X=>?_
 conv=>whnf
 skip
 refine ⟨fun hc=>?_,fun hc=>?_⟩
 ·have hc:(decide (200<((x.entries.map encEnt).length:Int))||decide (40<((x.endings.map encEdn).length:Int))||decide (10<((x.clitics.map encCli).length:Int)))=true:=hc
  simp [or_assoc] at hc
  conv=>whnf
  exact ⟨by rw [lexErr,if_pos (by omega)],rfl⟩
 have hc:(decide (200<((x.entries.map encEnt).length:Int))||decide (40<((x.endings.map encEdn).length:Int))||decide (10<((x.clitics.map encCli).length:Int)))=false:=hc
 simp at hc
 have h0:lexErr x=if bads entBad x.entries=true then 45 else if bads ednBad x.endings=true then 46 else if bads cliBad x.clitics=true then 47 else 0:=by rw [lexErr,if_neg (by omega)]
 conv=>whnf
 skip
 refine sloop rfl mixed [1,3] [] (fun m r h=>∃ (i:Nat),r=[(1,[],.iptr (encLex x)),(3,[],.int .i64 i)]∧h=[]∧m=x.entries.length - i∧i≤x.entries.length∧bads entBad x.entries=badGo entBad x.entries (x.entries.drop i) i) ?_ ?_
 ·conv=>whnf
  exact ⟨_,0,rfl,rfl,rfl,by omega,rfl⟩
 ·rintro m r h ⟨i,rfl,rfl,rfl,hi,hb⟩
  conv=>whnf
  skip
  refine ⟨fun he=>?_,fun he=>?_⟩<;>simp at he
  ·obtain ⟨w,hw⟩:=get_lt he
   have hm:=List.mem_of_getElem? hw
   rw [drop_cons hw,badGo] at hb
   conv=>whnf
   repeat ((first|refine ix (by assumption) ?_|refine QCall.k0 (refSnd w.root 8 (hx.ent w hm).root) ?_|refine gcall (refKind _) ?_|refine gcall (refName w.cls (hx.ent w hm).cls) ?_|refine gcall (refWeight _) ?_|refine ⟨_,_,Rem.here _,⟨Nat.le_of_ble_eq_true rfl,rfl⟩,?_⟩|intro (nb:Nat));conv=>whnf)
   refine ⟨fun hd=>?_,fun hd=>?_⟩
   ·have hd:entB0 w=true:=hd
    have hd:entBad (x.entries.take i) w=true:=by show (entB0 w||(x.entries.take i).any (entSame w))=true;rw [hd];rfl
    rw [hd,Bool.true_or] at hb
    conv=>whnf
    exact ⟨by rw [h0,if_pos hb],rfl⟩
   ·have hd:entB0 w=false:=hd
    have hd:entBad (x.entries.take i) w=(x.entries.take i).any (entSame w):=by show (entB0 w||(x.entries.take i).any (entSame w))=_;rw [hd];rfl
    rw [hd] at hb
    conv=>whnf
    skip
    refine sloop rfl mixed [1,3,4,5] [] (fun m r h=>∃ (k:Nat),r=[(1,[],.iptr (encLex x)),(3,[],.int .i64 i),(4,[],.iptr (encEnt w)),(5,[],.int .i64 k)]∧h=[]∧m=i - k∧k≤i∧Below (entSame w) x.entries k) ?_ ?_
    ·conv=>whnf
     exact ⟨_,0,rfl,rfl,rfl,by omega,.zero⟩
    ·rintro m r h ⟨k,rfl,rfl,rfl,hk,hg⟩
     conv=>whnf
     refine ⟨fun hk2=>?_,fun hk2=>?_⟩<;>simp at hk2
     ·obtain ⟨v,hv⟩:=get_lt (l:=x.entries) (i:=k) (by omega)
      conv=>whnf
      repeat ((first|refine ix (by assumption) ?_|refine ⟨_,_,Rem.here _,⟨Nat.le_of_ble_eq_true rfl,rfl⟩,?_⟩|intro (nb:Nat));conv=>whnf)
      refine ⟨fun hq=>?_,fun hq=>?_⟩
      ·have hq:entSame w v=true:=hq
       rw [any_hit hk2 hv hq,Bool.true_or] at hb
       conv=>whnf
       exact ⟨by rw [h0,if_pos hb],rfl⟩
      ·have hq:entSame w v=false:=hq
       conv=>whnf
       repeat (refine ⟨gP_of ⟨by omega,by omega⟩,?_⟩;conv=>whnf)
       exact ⟨_,by omega,k+1,rfl,rfl,rfl,by omega,hg.succ hv hq⟩
     ·have hki:k=i:=by omega
      subst hki
      rw [hg.none,Bool.false_or] at hb
      conv=>whnf
      repeat (refine ⟨gP_of ⟨by omega,by omega⟩,?_⟩;conv=>whnf)
      exact ⟨_,by omega,k+1,rfl,rfl,rfl,by omega,hb⟩
  ·rw [drop_nil he,badGo] at hb
   have h1:lexErr x=if bads ednBad x.endings=true then 46 else if bads cliBad x.clitics=true then 47 else 0:=by rw [h0,if_neg (by rw [hb];decide)]
   conv=>whnf
   skip
   refine sloop rfl mixed [1,7] [] (fun m r h=>∃ (i:Nat),r=[(1,[],.iptr (encLex x)),(7,[],.int .i64 i)]∧h=[]∧m=x.endings.length - i∧i≤x.endings.length∧bads ednBad x.endings=badGo ednBad x.endings (x.endings.drop i) i) ?_ ?_
   ·conv=>whnf
    exact ⟨_,0,rfl,rfl,rfl,by omega,rfl⟩
   ·rintro m r h ⟨i,rfl,rfl,rfl,hi,hb⟩
    conv=>whnf
    skip
    refine ⟨fun he=>?_,fun he=>?_⟩<;>simp at he
    ·obtain ⟨w,hw⟩:=get_lt he
     have hm:=List.mem_of_getElem? hw
     rw [drop_cons hw,badGo] at hb
     conv=>whnf
     repeat ((first|refine ix (by assumption) ?_|refine gcall (refSnd w.text 4 (hx.edn w hm).text) ?_|refine QCall.k0 (refKind _) ?_|refine gcall (refName w.name (hx.edn w hm).name) ?_|refine gcall (refWeight _) ?_|refine ⟨_,_,Rem.here _,⟨Nat.le_of_ble_eq_true rfl,rfl⟩,?_⟩|intro (nb:Nat));conv=>whnf)
     refine ⟨fun hd=>?_,fun hd=>?_⟩
     ·have hd:ednB0 w=true:=hd
      have hd:ednBad (x.endings.take i) w=true:=by show (ednB0 w||(x.endings.take i).any (ednSame w))=true;rw [hd];rfl
      rw [hd,Bool.true_or] at hb
      conv=>whnf
      exact ⟨by rw [h1,if_pos hb],rfl⟩
     ·have hd:ednB0 w=false:=hd
      have hd:ednBad (x.endings.take i) w=(x.endings.take i).any (ednSame w):=by show (ednB0 w||(x.endings.take i).any (ednSame w))=_;rw [hd];rfl
      rw [hd] at hb
      conv=>whnf
      skip
      refine sloop rfl mixed [1,7,8,9] [] (fun m r h=>∃ (k:Nat),r=[(1,[],.iptr (encLex x)),(7,[],.int .i64 i),(8,[],.iptr (encEdn w)),(9,[],.int .i64 k)]∧h=[]∧m=i - k∧k≤i∧Below (ednSame w) x.endings k) ?_ ?_
      ·conv=>whnf
       exact ⟨_,0,rfl,rfl,rfl,by omega,.zero⟩
      ·rintro m r h ⟨k,rfl,rfl,rfl,hk,hg⟩
       conv=>whnf
       refine ⟨fun hk2=>?_,fun hk2=>?_⟩<;>simp at hk2
       ·obtain ⟨v,hv⟩:=get_lt (l:=x.endings) (i:=k) (by omega)
        conv=>whnf
        repeat ((first|refine ix (by assumption) ?_|refine And.intro (by show drawOK (opsAt Tryz.f49 _) _=true;decide +kernel) ?_);conv=>whnf)
        refine ⟨fun hq=>?_,fun hq=>?_⟩
        ·have hq:ednSame w v=true:=hq
         rw [any_hit hk2 hv hq,Bool.true_or] at hb
         conv=>whnf
         exact ⟨by rw [h1,if_pos hb],rfl⟩
        ·have hq:ednSame w v=false:=hq
         conv=>whnf
         repeat (refine ⟨gP_of ⟨by omega,by omega⟩,?_⟩;conv=>whnf)
         exact ⟨_,by omega,k+1,rfl,rfl,rfl,by omega,hg.succ hv hq⟩
       ·have hki:k=i:=by omega
        subst hki
        rw [hg.none,Bool.false_or] at hb
        conv=>whnf
        repeat (refine ⟨gP_of ⟨by omega,by omega⟩,?_⟩;conv=>whnf)
        exact ⟨_,by omega,k+1,rfl,rfl,rfl,by omega,hb⟩
    ·rw [drop_nil he,badGo] at hb
     have h2:lexErr x=if bads cliBad x.clitics=true then 47 else 0:=by rw [h1,if_neg (by rw [hb];decide)]
     conv=>whnf
     skip
     refine sloop rfl mixed [1,10] [] (fun m r h=>∃ (i:Nat),r=[(1,[],.iptr (encLex x)),(10,[],.int .i64 i)]∧h=[]∧m=x.clitics.length - i∧i≤x.clitics.length∧bads cliBad x.clitics=badGo cliBad x.clitics (x.clitics.drop i) i) ?_ ?_
     ·conv=>whnf
      exact ⟨_,0,rfl,rfl,rfl,by omega,rfl⟩
     ·rintro m r h ⟨i,rfl,rfl,rfl,hi,hb⟩
      conv=>whnf
      skip
      refine ⟨fun he=>?_,fun he=>?_⟩<;>simp at he
      ·obtain ⟨w,hw⟩:=get_lt he
       have hm:=List.mem_of_getElem? hw
       rw [drop_cons hw,badGo] at hb
       conv=>whnf
       repeat ((first|refine ix (by assumption) ?_|refine QCall.k0 (refSnd w.text 4 (hx.cli w hm).text) ?_|refine gcall (refName w.name (hx.cli w hm).name) ?_|refine gcall (refWeight _) ?_|refine ⟨_,_,Rem.here _,⟨Nat.le_of_ble_eq_true rfl,rfl⟩,?_⟩|intro (nb:Nat));conv=>whnf)
       refine ⟨fun hd=>?_,fun hd=>?_⟩
       ·have hd:cliB0 w=true:=hd
        have hd:cliBad (x.clitics.take i) w=true:=by show (cliB0 w||(x.clitics.take i).any (cliSame w))=true;rw [hd];rfl
        rw [hd,Bool.true_or] at hb
        conv=>whnf
        exact ⟨by rw [h2,if_pos hb],rfl⟩
       ·have hd:cliB0 w=false:=hd
        have hd:cliBad (x.clitics.take i) w=(x.clitics.take i).any (cliSame w):=by show (cliB0 w||(x.clitics.take i).any (cliSame w))=_;rw [hd];rfl
        rw [hd] at hb
        conv=>whnf
        skip
        refine sloop rfl mixed [1,10,11,12] [] (fun m r h=>∃ (k:Nat),r=[(1,[],.iptr (encLex x)),(10,[],.int .i64 i),(11,[],.iptr (encCli w)),(12,[],.int .i64 k)]∧h=[]∧m=i - k∧k≤i∧Below (cliSame w) x.clitics k) ?_ ?_
        ·conv=>whnf
         exact ⟨_,0,rfl,rfl,rfl,by omega,.zero⟩
        ·rintro m r h ⟨k,rfl,rfl,rfl,hk,hg⟩
         conv=>whnf
         refine ⟨fun hk2=>?_,fun hk2=>?_⟩<;>simp at hk2
         ·obtain ⟨v,hv⟩:=get_lt (l:=x.clitics) (i:=k) (by omega)
          conv=>whnf
          repeat ((first|refine ix (by assumption) ?_|refine And.intro (by show drawOK (opsAt Tryz.f49 _) _=true;decide +kernel) ?_);conv=>whnf)
          refine ⟨fun hq=>?_,fun hq=>?_⟩
          ·have hq:cliSame w v=true:=hq
           rw [any_hit hk2 hv hq,Bool.true_or] at hb
           conv=>whnf
           exact ⟨by rw [h2,if_pos hb],rfl⟩
          ·have hq:cliSame w v=false:=hq
           conv=>whnf
           repeat (refine ⟨gP_of ⟨by omega,by omega⟩,?_⟩;conv=>whnf)
           exact ⟨_,by omega,k+1,rfl,rfl,rfl,by omega,hg.succ hv hq⟩
         ·have hki:k=i:=by omega
          subst hki
          rw [hg.none,Bool.false_or] at hb
          conv=>whnf
          repeat (refine ⟨gP_of ⟨by omega,by omega⟩,?_⟩;conv=>whnf)
          exact ⟨_,by omega,k+1,rfl,rfl,rfl,by omega,hb⟩
      ·rw [drop_nil he,badGo] at hb
       have h3:lexErr x=0:=by rw [h2,if_neg (by rw [hb];decide)]
       conv=>whnf
       exact ⟨by rw [h3],rfl⟩
end Go.Abs.Wall
namespace Go.Abs.Wall
open Go Go.Abs Go.Proofs
def c34:Cfg:=⟨[0,1,2,3,4,5,6,10,22,55,59,64,101],[],[],[],[(6,[0,1,2,3,4,5,6,7,8,9,10,11,12,13,14,15,16,17,18,19,20,21,22,23,24,25,26,27,28,29,30,31,32],[]),(13,[0,1,2,3,4,5,6,7,8,9,10,11,12,13,14,15,16,17,18,19,20,21,22,23,24,25,26,27,28,29,30,31,32,33,34],[])],[]⟩
def c50:Cfg:=⟨[0,1,2,3,4,5,15],[],[],[],[],[]⟩
def c35:Cfg:=⟨[0,1,2,3,4,5,6,14],[],[],[],[(5,[0,1,2,3,4,5,6,7,8,9,10,11,12],[])],[]⟩
def c21:Cfg:=⟨[0,1,2,3,4,5,6,11],[],[],[],[],[]⟩
def lastOf (l:List Int) (i:Nat):Int:=if i=0 then -1 else l.getD ((i:Int) - 1).toNat 0
theorem lastOf_succ {l:List Int} {i:Nat} {c:Int} (h:l[i]?=some c):lastOf l (i+1)=c:=by
 unfold lastOf
 rw [if_neg (by omega),show (((i+1:Nat):Int) - 1).toNat=i by omega,List.getD_eq_getElem?_getD,h]
 rfl
theorem refForm (x:Lex) (f:Frm) (hx:LexFit x) (hf:f.clitics.length≤LMAX):QCall Tryz.prog 34 [.agg (encLex x),.agg (encFrm f)] [] (.int .i64 (frmErr x f)):=by
 have hx1:=hx.entries
 have hx2:=hx.endings
 have hx3:=hx.clitics
 unfold LMAX at hx1 hx2 hx3 hf
 refine fcalls (F:=Tryz.f34) c34 rfl rfl rfl mixed rfl fun X=>?_
 conv=>whnf
 repeat (refine QCall.k0 (refLex x hx) ?_;conv=>whnf)
 refine ⟨fun hc=>?_,fun hc=>?_⟩<;>simp at hc
 ·conv=>whnf
  skip
  exact ⟨by rw [frmErr,if_pos hc],rfl⟩
 conv=>whnf
 skip
 refine ⟨fun hd=>?_,fun hd=>?_⟩
 ·have hd:(decide (f.entry<0)||decide (((x.entries.map encEnt).length:Int)≤f.entry))=true:=hd
  rw [List.length_map,Bool.or_eq_true,decide_eq_true_eq,decide_eq_true_eq] at hd
  have hw:wthn f.entry 0 ((x.entries.length:Int) - 1)=false:=by rw [← Bool.not_eq_true,wthn_iff];omega
  conv=>whnf
  exact ⟨by rw [frmErr,if_neg (by omega),if_pos hw],rfl⟩
 have hd:(decide (f.entry<0)||decide (((x.entries.map encEnt).length:Int)≤f.entry))=false:=hd
 rw [List.length_map,Bool.or_eq_false_iff,decide_eq_false_iff_not,decide_eq_false_iff_not] at hd
 have hw:wthn f.entry 0 ((x.entries.length:Int) - 1)=true:=by rw [wthn_iff];omega
 conv=>whnf
 repeat ((first|(refine ixg (⟨0,[],[],0⟩:Edn) ?_ ?_;(focus (conv=>whnf;skip));(focus (intro g0 g1;simp at g0 g1;show 0≤_∧_<_;omega)))|(refine ixg (⟨[],0,[],0⟩:Ent) ?_ ?_;(focus (conv=>whnf;skip));(focus (intro g0 g1;show 0≤_∧_<_;omega)))|refine And.intro (by show drawOK (opsAt Tryz.f34 _) _=true;decide +kernel) ?_);conv=>whnf)
 refine ⟨fun he=>?_,fun he=>?_⟩
 ·have he:(decide (f.ending < -1)||decide (((x.endings.map encEdn).length:Int)≤f.ending)||(decide (0≤f.ending)&&!decide ((ednAt x f.ending).kind=(entAt x f.entry).kind)))=true:=he
  rw [List.length_map] at he
  have hb:badEnd x f=true:=by
   unfold badEnd wthn
   simp only [Bool.or_eq_true,Bool.and_eq_true,Bool.not_eq_true',decide_eq_true_eq,decide_eq_false_iff_not,Bool.and_eq_false_iff] at he ⊢
   rcases he with (he|he)|he
   ·exact ⟨by omega,.inl (.inl (by omega))⟩
   ·exact ⟨by omega,.inl (.inr (by omega))⟩
   ·exact ⟨by omega,.inr he.2⟩
  conv=>whnf
  exact ⟨by rw [frmErr,if_neg (by omega),if_neg (by rw [hw];decide),if_pos hb],rfl⟩
 have he:(decide (f.ending < -1)||decide (((x.endings.map encEdn).length:Int)≤f.ending)||(decide (0≤f.ending)&&!decide ((ednAt x f.ending).kind=(entAt x f.entry).kind)))=false:=he
 rw [List.length_map] at he
 have hb:badEnd x f=false:=by
  unfold badEnd wthn
  simp only [Bool.or_eq_false_iff,Bool.and_eq_false_iff,Bool.not_eq_false',decide_eq_true_eq,decide_eq_false_iff_not,Bool.and_eq_true] at he ⊢
  obtain ⟨⟨h1,h2⟩,h3⟩:=he
  by_cases h4:f.ending = -1
  ·exact .inl h4
  ·exact .inr ⟨⟨by omega,by omega⟩,by rcases h3 with h3|h3;omega;exact h3⟩
 conv=>whnf
 skip
 refine ⟨fun h3=>?_,fun h3=>?_⟩<;>simp at h3
 ·conv=>whnf
  exact ⟨by rw [frmErr,if_neg (by omega),if_neg (by rw [hw];decide),if_neg (by rw [hb];decide),if_pos (by omega)],rfl⟩
 have hg:frmErr x f=if cliOK x.clitics.length f.clitics (-1)=true then 0 else 47:=by rw [frmErr,if_neg (by omega),if_neg (by rw [hw];decide),if_neg (by rw [hb];decide),if_neg (by omega)]
 conv=>whnf
 skip
 refine sloop rfl mixed [2,3,6] [] (fun m r h=>∃ (i:Nat),r=[(2,[],.iptr (encLex x)),(3,[],.iptr (encFrm f)),(6,[],.int .i64 i)]∧h=[]∧m=f.clitics.length - i∧i≤f.clitics.length∧-1≤lastOf f.clitics i∧cliOK x.clitics.length f.clitics (-1)=cliOK x.clitics.length (f.clitics.drop i) (lastOf f.clitics i)) ?_ ?_
 ·conv=>whnf
  exact ⟨_,0,rfl,rfl,rfl,by omega,by simp [lastOf],rfl⟩
 ·rintro m r h ⟨i,rfl,rfl,rfl,hi,hl,hc2⟩
  conv=>whnf
  skip
  refine ⟨fun hi2=>?_,fun hi2=>?_⟩<;>simp at hi2
  ·obtain ⟨c,hc⟩:=get_lt hi2
   rw [drop_cons hc,cliOK] at hc2
   have hls:=lastOf_succ hc
   conv=>whnf
   repeat ((first|refine ⟨gP_of ⟨by omega,by omega⟩,?_⟩|refine ix (by assumption) ?_|(refine ixg (enc:=fun y:Int=>[AV.int .i64 y]) (0:Int) ?_ ?_;(focus (conv=>whnf;skip));(focus (intro g0 g1;simp at g0 g1;show 0≤_∧_<_;omega)))|refine And.intro (by show drawOK (opsAt Tryz.f34 _) _=true;decide +kernel) ?_);conv=>whnf)
   have hz:(decide (c<0)||decide (((x.clitics.map encCli).length:Int)≤c)||(decide (0<(i:Int))&&decide (c≤f.clitics.getD ((i:Int) - 1).toNat 0)))=(decide (c≤lastOf f.clitics i)||decide ((x.clitics.length:Int)≤c)):=by
    rw [List.length_map,Bool.eq_iff_iff]
    simp only [Bool.or_eq_true,Bool.and_eq_true,decide_eq_true_eq]
    unfold lastOf at hl ⊢
    split
    ·rename_i h0
     rw [if_pos h0] at hl
     omega
    ·rename_i h0
     rw [if_neg h0] at hl
     omega
   refine ⟨fun hq=>?_,fun hq=>?_⟩
   ·have hq:=hz.symm.trans hq
    rw [hq] at hc2
    conv=>whnf
    exact ⟨by rw [hg,hc2];rfl,rfl⟩
   ·have hq:=hz.symm.trans hq
    rw [hq] at hc2
    simp only [Bool.or_eq_false_iff,decide_eq_false_iff_not] at hq
    conv=>whnf
    repeat (refine ⟨gP_of ⟨by omega,by omega⟩,?_⟩;conv=>whnf)
    exact ⟨_,by omega,i+1,rfl,rfl,rfl,by omega,by rw [hls];omega,by rw [hls,hc2];rfl⟩
  ·rw [drop_nil hi2,cliOK] at hc2
   conv=>whnf
   skip
   exact ⟨by rw [hg,hc2];rfl,rfl⟩
theorem refStem (x:Lex) (f:Frm) (h:FrmOK x f):QCall Tryz.prog 50 [.agg (encLex x),.agg (encFrm f)] [] (.str (stemM x f)):=by
 have hst:=h.stem
 refine fcalls (F:=Tryz.f50) c50 rfl rfl rfl mixed rfl fun X=>?_
 conv=>whnf
 repeat ((refine ixn f.entry.toNat (by have:=h.entry;omega) (entAt_get h.entry.1 h.entry.2) ?_);conv=>whnf)
 refine ⟨fun he=>?_,fun he=>?_⟩<;>simp at he
 ·have hel:f.ending<x.endings.length:=by rcases h.ending with h|h<;>omega
  have hs:stemM x f=(entAt x f.entry).root++(ednAt x f.ending).text:=by rw [stemM,if_pos he]
  rw [hs] at hst ⊢
  conv=>whnf
  repeat ((first|(refine ixn f.ending.toNat (by omega) (ednAt_get he hel) ?_)|(refine ⟨gP_of (by unfold LMAX;omega),?_⟩));conv=>whnf)
  exact ⟨rfl,rfl⟩
 ·have hs:stemM x f=(entAt x f.entry).root:=by rw [stemM,if_neg (by omega),List.append_nil]
  rw [hs]
  conv=>whnf
  skip
  exact ⟨rfl,rfl⟩
theorem refSaid (x:Lex) (f:Frm) (h:FrmOK x f):QCall Tryz.prog 35 [.agg (encLex x),.agg (encFrm f)] [] (.str (sndM x f)):=by
 have hfew:=h.few
 have hst:=h.stem
 refine fcalls (F:=Tryz.f35) c35 rfl rfl rfl mixed rfl fun X=>?_
 conv=>whnf
 repeat (refine QCall.k0 (refStem x f h) ?_;conv=>whnf)
 refine sloop rfl mixed [2,3,5,6] [] (fun m r h=>∃ (i:Nat) (t:List UInt8),r=[(2,[],.iptr (encLex x)),(3,[],.iptr (encFrm f)),(5,[],.str t),(6,[],.int .i64 i)]∧h=[]∧m=f.clitics.length - i∧i≤f.clitics.length∧t=stemM x f++cliT x (f.clitics.take i)) ?_ ?_
 ·conv=>whnf
  exact ⟨_,0,_,rfl,rfl,rfl,by omega,by simp [cliT]⟩
 ·rintro m r h' ⟨i,t,rfl,rfl,rfl,hi,hn⟩
  conv=>whnf
  skip
  refine ⟨fun hi2=>?_,fun hi2=>?_⟩<;>simp at hi2
  ·obtain ⟨c,hc⟩:=get_lt hi2
   have hcc:=h.cli c (List.mem_of_getElem? hc)
   have hcw:=sndOK_len (h.lex.cliAt hcc.1 hcc.2).text
   have hb:=cliT_bound h.lex (l:=f.clitics.take i) fun d hd=>h.cli d (List.mem_of_mem_take hd)
   rw [List.length_take] at hb
   have hs:=take_snoc hc
   have hl:(t++(cliAt x c).text).length≤LMAX:=by rw [hn];simp [LMAX];omega
   conv=>whnf
   repeat ((first|refine ⟨gP_of ⟨by omega,by omega⟩,?_⟩|refine ix (by assumption) ?_|(refine ixn c.toNat (by omega) (cliAt_get hcc.1 hcc.2) ?_)|(refine ⟨gP_of hl,?_⟩)|refine And.intro (by show drawOK (opsAt Tryz.f35 _) _=true;decide +kernel) ?_);conv=>whnf)
   exact ⟨_,by omega,i+1,_,rfl,rfl,rfl,by omega,by rw [hs,cliT_snoc,hn,List.append_assoc]⟩
  ·rw [List.take_of_length_le hi2] at hn
   conv=>whnf
   skip
   rw [hn]
   exact ⟨rfl,rfl⟩
theorem refSoundsF (x:Lex) (f:Frm) (hx:LexFit x) (hf:f.clitics.length≤LMAX):QCall Tryz.prog 21 [.agg (encLex x),.agg (encFrm f)] [] (.tup [.str (if frmErr x f=0 then sndM x f else []),.int .i64 (frmErr x f)]):=by
 refine fcalls (F:=Tryz.f21) c21 rfl rfl rfl mixed rfl fun X=>?_
 conv=>whnf
 repeat (refine QCall.k0 (refForm x f hx hf) ?_;conv=>whnf)
 refine ⟨fun hc=>?_,fun hc=>?_⟩<;>simp at hc
 ·conv=>whnf
  skip
  exact ⟨by rw [if_neg hc],rfl⟩
 ·conv=>whnf
  repeat (refine QCall.k0 (refSaid x f (frmOK hc)) ?_;conv=>whnf)
  exact ⟨by rw [if_pos hc,hc],rfl⟩
end Go.Abs.Wall
namespace Go.Abs.Wall
open Go Go.Abs Go.Proofs
def c33:Cfg:=⟨[0,1,2,3,4,5,7,12,18,32,33,34,35,43,55],[],[5],[],[],[]⟩
theorem refHouse (H:Hou) (hh:HouFit H):QCall Tryz.prog 33 [.agg (encHou H)] [] (.int .i64 (houErr H)):=by
 refine fcalls (F:=Tryz.f33) c33 rfl rfl rfl mixed rfl fun X=>?_
 conv=>whnf
 repeat (refine QCall.k0 (refCheck H.list hh.list) ?_;conv=>whnf)
 refine ⟨fun hc=>?_,fun hc=>?_⟩<;>simp at hc
 ·conv=>whnf
  skip
  exact ⟨by rw [houErr,if_pos hc],rfl⟩
 conv=>whnf
 repeat (refine QCall.k0 (refLex H.lex hh.lex) ?_;conv=>whnf)
 refine ⟨fun hd=>?_,fun hd=>?_⟩<;>simp at hd
 ·conv=>whnf
  skip
  exact ⟨by rw [houErr,if_neg (by omega),if_pos hd],rfl⟩
 have h0:houErr H=if (costL H.costs).all (wthn · 0 1000)=false then 50 else if wthn H.period 1 H.list.periods=false then 13 else 0:=by rw [houErr,if_neg (by omega),if_neg (by omega)]
 conv=>whnf
 repeat ((first|refine ⟨_,_,Rem.here _,⟨Nat.le_of_ble_eq_true rfl,rfl⟩,?_⟩|intro (nb:Nat));conv=>whnf)
 refine sloop rfl mixed [1,32,33,34] [] (fun m r h=>∃ (i:Nat),r=[(1,[],.iptr (encHou H)),(32,[],.sl 1 none (ints (costL H.costs))),(33,[],.int .i64 5),(34,[],.int .i64 i)]∧h=[]∧m=5 - i∧i≤5∧(costL H.costs).all (wthn · 0 1000)=((costL H.costs).drop i).all (wthn · 0 1000)) ?_ ?_
 ·conv=>whnf
  exact ⟨_,0,rfl,rfl,rfl,by omega,rfl⟩
 ·rintro m r h ⟨i,rfl,rfl,rfl,hi,ha⟩
  conv=>whnf
  refine ⟨fun he=>?_,fun he=>?_⟩<;>simp at he
  ·obtain ⟨c,hc⟩:=get_lt (l:=costL H.costs) (i:=i) (by simp [costL];omega)
   rw [drop_cons hc,List.all_cons] at ha
   conv=>whnf
   repeat (refine ix (by assumption) ?_;conv=>whnf)
   refine ⟨fun hq=>?_,fun hq=>?_⟩
   ·have hq:(decide (c<0)||decide (1000<c))=true:=hq
    have hw:wthn c 0 1000=false:=by rw [← Bool.not_eq_true,wthn_iff];simp at hq;omega
    rw [hw,Bool.false_and] at ha
    conv=>whnf
    skip
    exact ⟨by rw [h0,if_pos ha],rfl⟩
   ·have hq:(decide (c<0)||decide (1000<c))=false:=hq
    have hw:wthn c 0 1000=true:=by rw [wthn_iff];simp at hq;omega
    rw [hw,Bool.true_and] at ha
    conv=>whnf
    repeat (refine ⟨gP_of ⟨by omega,by omega⟩,?_⟩;conv=>whnf)
    exact ⟨_,by omega,i+1,rfl,rfl,rfl,by omega,ha⟩
  ·rw [drop_nil (by simp [costL];omega)] at ha
   have h1:houErr H=if wthn H.period 1 H.list.periods=false then 13 else 0:=by rw [h0,if_neg (by rw [ha];decide)]
   conv=>whnf
   skip
   refine ⟨fun hq=>?_,fun hq=>?_⟩
   ·have hq:(decide (H.period<1)||decide (H.list.periods<H.period))=true:=hq
    have hw:wthn H.period 1 H.list.periods=false:=by rw [← Bool.not_eq_true,wthn_iff];simp at hq;omega
    conv=>whnf
    exact ⟨by rw [h1,if_pos hw],rfl⟩
   ·have hq:(decide (H.period<1)||decide (H.list.periods<H.period))=false:=hq
    have hw:wthn H.period 1 H.list.periods=true:=by rw [wthn_iff];simp at hq;omega
    conv=>whnf
    exact ⟨by rw [h1,if_neg (by rw [hw];decide)],rfl⟩
def inUse (p:Int) (v:Val):Bool:=wthn p v.fr v.to
end Go.Abs.Wall
namespace Go.Abs.Wall
open Go Go.Abs Go.Proofs
theorem useOf_kind (v:Val):(v.kind=1∧useOf v=[⟨1,v.text⟩,⟨3,v.text⟩])∨(v.kind=2∧useOf v=[⟨2,v.text⟩])∨(v.kind=3∧useOf v=[⟨4,v.text⟩])∨(v.kind≠1∧v.kind≠2∧v.kind≠3∧useOf v=[]):=by
 unfold useOf
 by_cases h1:v.kind=1
 ·exact .inl ⟨h1,by rw [if_pos h1]⟩
 by_cases h2:v.kind=2
 ·exact .inr (.inl ⟨h2,by rw [if_neg h1,if_pos h2]⟩)
 by_cases h3:v.kind=3
 ·exact .inr (.inr (.inl ⟨h3,by rw [if_neg h1,if_neg h2,if_pos h3]⟩))
 ·exact .inr (.inr (.inr ⟨h1,h2,h3,by rw [if_neg h1,if_neg h2,if_neg h3]⟩))
theorem useOf_key {u:Use} {v:Val} (h:u∈useOf v):v.text=u.text∧v.kind=(if u.kind=2 then 2 else if u.kind=4 then 3 else 1):=by
 rcases useOf_kind v with ⟨hk,e⟩|⟨hk,e⟩|⟨hk,e⟩|⟨_,_,_,e⟩<;>rw [e] at h<;>simp at h
 ·rcases h with rfl|rfl<;>simp [hk]
 ·subst h;simp [hk]
 ·subst h;simp [hk]
theorem useOf_nodup (v:Val):(useOf v).Nodup:=by
 rcases useOf_kind v with ⟨hk,e⟩|⟨hk,e⟩|⟨hk,e⟩|⟨_,_,_,e⟩<;>rw [e]<;>simp
theorem useOf_fresh {p:Int} {v w:Val} (hm:meetB v w=false) (hv:inUse p v=true) (hw:inUse p w=true):∀ u∈useOf v,u ∉ useOf w:=by
 have hov:¬ (v.kind=w.kind∧v.text=w.text):=by
  rintro ⟨h1,h2⟩
  unfold inUse at hv hw
  rw [wthn_iff] at hv hw
  unfold meetB at hm
  rw [decide_eq_true h1,decide_eq_true h2,decide_eq_true (show v.fr≤w.to by omega),decide_eq_true (show w.fr≤v.to by omega)] at hm
  cases hm
 intro u hu hu2
 have h1:=useOf_key hu
 have h2:=useOf_key hu2
 exact hov ⟨h1.2.trans h2.2.symm,h1.1.trans h2.1.symm⟩
def Apart (p:Int):List Val→Prop
 | []=>True
 | v::t=>(∀ w∈t,inUse p v=true→inUse p w=true→meetB w v=false)∧Apart p t
theorem valErr_apart {l:Lst} {b:List Val} {v:Val} (h:valErr l b v=0):∀ w∈b,meetB v w=false:=by
 unfold valErr at h
 split at h
 ·cases h
 split at h
 ·cases h
 split at h
 ·cases h
 ·rename_i h3
  rw [Bool.not_eq_true,List.any_eq_false] at h3
  exact fun w hw=>by simpa using h3 w hw
theorem valsErr_get {l:Lst} {vs:List Val}:∀ {t:List Val} {i:Nat},vs.drop i=t→valsErr l vs t i=0→∀ j v,i≤j→vs[j]?=some v→valErr l (vs.take j) v=0
 | [],i,hd,h,j,v,hj,hv=>by
   have:=(List.getElem?_eq_some_iff.1 hv).1
   have hl:=congrArg List.length hd
   rw [List.length_drop,List.length_nil] at hl
   omega
 | a::t,i,hd,h,j,v,hj,hv=>by
   unfold valsErr at h
   split at h
   ·rename_i h1;exact absurd h h1
   ·rename_i h1
    by_cases hij:j=i
    ·subst hij
     have:vs[j]?=some a:=by
      have:=congrArg (fun z=>z[0]?) hd
      simpa using this
     rw [hv] at this
     cases this
     exact by simpa using h1
    ·exact valsErr_get (t:=t) (i:=i+1) (by have:=congrArg List.tail hd;simpa [List.tail_drop] using this) h j v (by omega) hv
theorem apart_of {p:Int}:∀ {vs:List Val},(∀ (j k:Nat) v w,j<k→vs[j]?=some v→vs[k]?=some w→meetB w v=false)→Apart p vs
 | [],_=>trivial
 | a::t,h=>⟨fun w hw _ _=>by
    obtain ⟨k,hk⟩:=List.mem_iff_getElem?.1 hw
    exact h 0 (k+1) a w (by omega) rfl (by simpa using hk),apart_of fun j k v w hj hv hw=>h (j+1) (k+1) v w (by omega) (by simpa using hv) (by simpa using hw)⟩
theorem sgn_apart {l:Lst} {s:Sgn} (h:sgnErr l s=0) (p:Int):Apart p s.values:=by
 unfold sgnErr at h
 split at h
 ·cases h
 split at h
 ·cases h
 ·refine apart_of fun j k v w hj hv hw=>?_
  have:=valsErr_get (i:=0) rfl h k w (by omega) hw
  exact valErr_apart this v (List.mem_of_getElem? (i:=j) (by rw [List.getElem?_take,if_pos hj,hv]))
theorem useGo_nodup {p:Int}:∀ {vs:List Val},Apart p vs→(useGo p vs).Nodup
 | [],_=>.nil
 | v::t,h=>by
   unfold useGo
   split
   ·rename_i hw
    rw [List.nodup_append]
    refine ⟨useOf_nodup v,useGo_nodup h.2,fun u hu u' hu' e=>?_⟩
    subst e
    have hmem:∀ {t:List Val},u∈useGo p t→∃ w∈t,inUse p w=true∧u∈useOf w:=by
     intro t
     induction t with
     | nil=>intro h;cases h
     | cons a t ih=>
       intro h
       unfold useGo at h
       rcases List.mem_append.1 h with h|h
       ·split at h
        ·rename_i h1;exact ⟨a,by simp,h1,h⟩
        ·cases h
       ·obtain ⟨w,h1,h2⟩:=ih h
        exact ⟨w,by simp [h1],h2⟩
    obtain ⟨w,h1,h2,h3⟩:=hmem hu'
    exact useOf_fresh (h.1 w h1 hw h2) h2 hw u h3 hu
   ·rw [List.nil_append];exact useGo_nodup h.2
theorem lst_sgn {l:Lst} (h:lstErr l=0):∀ s∈l.signs,sgnErr l s=0:=by
 unfold lstErr at h
 split at h
 ·cases h
 split at h
 ·cases h
 ·have hgo:∀ {t:List Sgn} {seen:List (List UInt8)},lstGo l t seen=0→∀ s∈t,sgnErr l s=0:=by
   intro t
   induction t with
   | nil=>intro seen _ s hs;cases hs
   | cons a t ih=>
     intro seen h s hs
     unfold lstGo at h
     split at h
     ·cases h
     split at h
     ·rename_i h1;exact absurd h h1
     ·rename_i h1
      rcases List.mem_cons.1 hs with rfl|hs
      ·simpa using h1
      ·exact ih h s hs
  exact hgo h
end Go.Abs.Wall
namespace Go.Abs.Wall
open Go Go.Abs Go.Proofs
end Go.Abs.Wall
namespace Go.Abs.Wall
open Go Go.Abs Go.Proofs Go.Proofs.YtmkmflcemegikaaGreat.Br
def ShParts (P:Program) (B:Nat):List TypeId→List (List AV)→Prop
 | [],[]=>True
 | t::ts,p::ps=>Sh P B t p∧ShParts P B ts ps
 | _,_=>False
theorem sh_parts {P:Program} {B:Nat}:∀ {ts:List TypeId} {ps:List (List AV)},ps.length=ts.length→(∀ (i:Nat) t p,ts[i]?=some t→ps[i]?=some p→Sh P B t p)→ShParts P B ts ps
 | [],[],_,_=>trivial
 | t::ts,p::ps,hl,h=>⟨h 0 t p rfl rfl,sh_parts (by simpa using hl) fun i t' p' h1 h2=>h (i+1) t' p' (by simpa using h1) (by simpa using h2)⟩
 | [],_::_,hl,_=>by simp at hl
 | _::_,[],hl,_=>by simp at hl
theorem sh_struct {P:Program} {B:Nat} {t:TypeId} {fs:Array Field} {xs:List AV} (h:Sh P B t xs) (hu:P.underlying t=some (.struct fs)):∃ ps,xs=ps.flatten∧ShParts P B (fs.toList.map (·.type)) ps:=by
 cases h with
 | bool h1=>rw [hu] at h1;cases h1
 | int h1 _=>rw [hu] at h1;cases h1
 | str h1 _=>rw [hu] at h1;cases h1
 | slice h1 _ _=>rw [hu] at h1;cases h1
 | @struct _ fs' ps h1 hl hp=>
   rw [hu] at h1;cases h1
   refine ⟨ps,rfl,sh_parts (by simpa using hl) fun i t p h1 h2=>?_⟩
   rw [List.getElem?_map] at h1
   cases hf:fs.toList[i]? with
   | none=>rw [hf] at h1;cases h1
   | some f=>rw [hf] at h1;cases h1;exact hp i f p hf h2
 | array h1 hl hp=>rw [hu] at h1;cases h1
theorem sh_int {P:Program} {B:Nat} {t:TypeId} {k:IntKind} {xs:List AV} (h:Sh P B t xs) (hu:P.underlying t=some (.int k)):∃ n:Int,xs=[.int k n]∧k.has n:=by
 cases h with
 | bool h1=>rw [hu] at h1;cases h1
 | int h1 h2=>rw [hu] at h1;cases h1;exact ⟨_,rfl,wf_has h2⟩
 | str h1 _=>rw [hu] at h1;cases h1
 | slice h1 _ _=>rw [hu] at h1;cases h1
 | struct h1 hl hp=>rw [hu] at h1;cases h1
 | array h1 hl hp=>rw [hu] at h1;cases h1
theorem sh_bool {P:Program} {B:Nat} {t:TypeId} {xs:List AV} (h:Sh P B t xs) (hu:P.underlying t=some .bool):∃ b:Bool,xs=[.bool b]:=by
 cases h with
 | bool h1=>exact ⟨_,rfl⟩
 | int h1 h2=>rw [hu] at h1;cases h1
 | str h1 _=>rw [hu] at h1;cases h1
 | slice h1 _ _=>rw [hu] at h1;cases h1
 | struct h1 hl hp=>rw [hu] at h1;cases h1
 | array h1 hl hp=>rw [hu] at h1;cases h1
theorem sh_str {P:Program} {B:Nat} {t:TypeId} {xs:List AV} (h:Sh P B t xs) (hu:P.underlying t=some .string):∃ s,xs=[.str s]∧s.length≤B:=by
 cases h with
 | bool h1=>rw [hu] at h1;cases h1
 | int h1 h2=>rw [hu] at h1;cases h1
 | str h1 h2=>exact ⟨_,rfl,h2⟩
 | slice h1 _ _=>rw [hu] at h1;cases h1
 | struct h1 hl hp=>rw [hu] at h1;cases h1
 | array h1 hl hp=>rw [hu] at h1;cases h1
theorem sh_list {P:Program} {B:Nat} {t e:TypeId} {xs:List AV} {α:Type} {enc:α→List AV} {Fit:α→Prop} (h:Sh P B t xs) (hu:P.underlying t=some (.slice e)) (he:∀ y,Sh P B e y→∃ a,y=enc a∧Fit a) :
  ∃ l:List α,xs=[.sl (P.cellsOf e) none (l.map enc)]∧l.length≤B∧∀ a∈l,Fit a:=by
 cases h with
 | bool h1=>rw [hu] at h1;cases h1
 | int h1 h2=>rw [hu] at h1;cases h1
 | str h1 _=>rw [hu] at h1;cases h1
 | @slice _ e' ys h1 h2 h3=>
   rw [hu] at h1;cases h1
   suffices hk:∃ l:List α,ys=l.map enc∧∀ a∈l,Fit a by
    obtain ⟨l,rfl,hf⟩:=hk
    exact ⟨l,rfl,by simpa using h2,hf⟩
   clear h2
   induction ys with
   | nil=>exact ⟨[],rfl,by simp⟩
   | cons y ys ih=>
     obtain ⟨l,rfl,hf⟩:=ih fun z hz=>h3 z (by simp [hz])
     obtain ⟨a,rfl,ha⟩:=he y (h3 y (by simp))
     exact ⟨a::l,rfl,fun b hb=>by rcases List.mem_cons.1 hb with rfl|hb;exact ha;exact hf b hb⟩
 | struct h1 hl hp=>rw [hu] at h1;cases h1
 | array h1 hl hp=>rw [hu] at h1;cases h1
theorem sh2 {P:Program} {B:Nat} {a b:TypeId} {ps:List (List AV)} (h:ShParts P B [a,b] ps):∃ x y,ps=[x,y]∧Sh P B a x∧Sh P B b y:=by
 match ps,h with
 | [x,y],⟨h1,h2,_⟩=>exact ⟨x,y,rfl,h1,h2⟩
theorem sh3 {P:Program} {B:Nat} {a b c:TypeId} {ps:List (List AV)} (h:ShParts P B [a,b,c] ps):∃ x y z,ps=[x,y,z]∧Sh P B a x∧Sh P B b y∧Sh P B c z:=by
 match ps,h with
 | [x,y,z],⟨h1,h2,h3,_⟩=>exact ⟨x,y,z,rfl,h1,h2,h3⟩
theorem sh4 {P:Program} {B:Nat} {a b c d:TypeId} {ps:List (List AV)} (h:ShParts P B [a,b,c,d] ps):∃ x y z u,ps=[x,y,z,u]∧Sh P B a x∧Sh P B b y∧Sh P B c z∧Sh P B d u:=by
 match ps,h with
 | [x,y,z,u],⟨h1,h2,h3,h4,_⟩=>exact ⟨x,y,z,u,rfl,h1,h2,h3,h4⟩
theorem sh5 {P:Program} {B:Nat} {a b c d e:TypeId} {ps:List (List AV)} (h:ShParts P B [a,b,c,d,e] ps):∃ x y z u v,ps=[x,y,z,u,v]∧Sh P B a x∧Sh P B b y∧Sh P B c z∧Sh P B d u∧Sh P B e v:=by
 match ps,h with
 | [x,y,z,u,v],⟨h1,h2,h3,h4,h5,_⟩=>exact ⟨x,y,z,u,v,rfl,h1,h2,h3,h4,h5⟩
abbrev B20:Nat:=1048576
theorem b20 {n:Nat} (h:n≤B20):n≤LMAX:=by unfold LMAX;unfold B20 at h;omega
theorem shInt {xs:List AV} (h:Sh Tryz.prog B20 3 xs):∃ n:Int,xs=[.int .i64 n]∧IntKind.i64.has n:=sh_int h rfl
theorem shInts {xs:List AV} (h:Sh Tryz.prog B20 40 xs):∃ l:List Int,xs=[.sl 1 none (ints l)]∧l.length≤B20∧∀ a∈l,IntKind.i64.has a:=
 sh_list (enc:=fun x=>[AV.int .i64 x]) h rfl fun y hy=>shInt hy
theorem shVal {xs:List AV} (h:Sh Tryz.prog B20 87 xs):∃ v:Val,xs=encVal v∧v.text.length≤B20:=by
 obtain ⟨ps,rfl,hp⟩:=sh_struct h rfl
 obtain ⟨x,y,z,u,rfl,h1,h2,h3,h4⟩:=sh4 hp
 obtain ⟨a,rfl,_⟩:=shInt h1
 obtain ⟨b,rfl,hb⟩:=sh_str h2 rfl
 obtain ⟨c,rfl,_⟩:=shInt h3
 obtain ⟨d,rfl,_⟩:=shInt h4
 exact ⟨⟨a,b,c,d⟩,rfl,hb⟩
theorem shSgn {xs:List AV} (h:Sh Tryz.prog B20 84 xs):∃ s:Sgn,xs=encSgn s∧SgnFit s:=by
 obtain ⟨ps,rfl,hp⟩:=sh_struct h rfl
 obtain ⟨x,y,z,u,v,rfl,h1,h2,h3,h4,h5⟩:=sh5 hp
 obtain ⟨a,rfl,ha⟩:=sh_str h1 rfl
 obtain ⟨b,rfl,hb⟩:=shInt h2
 obtain ⟨c,rfl,_⟩:=shInt h3
 obtain ⟨d,rfl⟩:=sh_bool h4 rfl
 obtain ⟨e,rfl,he,hf⟩:=sh_list (enc:=encVal) h5 rfl fun y hy=>shVal hy
 exact ⟨⟨a,b,c,d,e⟩,rfl,b20 ha,b20 he,fun v hv=>b20 (hf v hv)⟩
theorem shLst {xs:List AV} (h:Sh Tryz.prog B20 24 xs):∃ l:Lst,xs=encLst l∧LstFit l:=by
 obtain ⟨ps,rfl,hp⟩:=sh_struct h rfl
 obtain ⟨y,z,rfl,h1,h2⟩:=sh2 hp
 obtain ⟨a,rfl,_⟩:=shInt h1
 obtain ⟨b,rfl,hb,hf⟩:=sh_list (enc:=encSgn) h2 rfl fun y hy=>shSgn hy
 exact ⟨⟨a,b⟩,rfl,b20 hb,hf⟩
theorem shEnt {xs:List AV} (h:Sh Tryz.prog B20 68 xs):∃ e:Ent,xs=encEnt e∧EntFit e:=by
 obtain ⟨ps,rfl,hp⟩:=sh_struct h rfl
 obtain ⟨x,y,z,u,rfl,h1,h2,h3,h4⟩:=sh4 hp
 obtain ⟨a,rfl,ha⟩:=sh_str h1 rfl
 obtain ⟨b,rfl,hb⟩:=shInt h2
 obtain ⟨c,rfl,hc⟩:=sh_str h3 rfl
 obtain ⟨d,rfl,_⟩:=shInt h4
 exact ⟨⟨a,b,c,d⟩,rfl,b20 ha,b20 hc⟩
theorem shEdn {xs:List AV} (h:Sh Tryz.prog B20 70 xs):∃ e:Edn,xs=encEdn e∧EdnFit e:=by
 obtain ⟨ps,rfl,hp⟩:=sh_struct h rfl
 obtain ⟨x,y,z,u,rfl,h1,h2,h3,h4⟩:=sh4 hp
 obtain ⟨a,rfl,ha⟩:=shInt h1
 obtain ⟨b,rfl,hb⟩:=sh_str h2 rfl
 obtain ⟨c,rfl,hc⟩:=sh_str h3 rfl
 obtain ⟨d,rfl,_⟩:=shInt h4
 exact ⟨⟨a,b,c,d⟩,rfl,b20 hb,b20 hc⟩
theorem shCli {xs:List AV} (h:Sh Tryz.prog B20 72 xs):∃ e:Cli,xs=encCli e∧CliFit e:=by
 obtain ⟨ps,rfl,hp⟩:=sh_struct h rfl
 obtain ⟨x,y,z,rfl,h1,h2,h3⟩:=sh3 hp
 obtain ⟨a,rfl,ha⟩:=sh_str h1 rfl
 obtain ⟨b,rfl,hb⟩:=sh_str h2 rfl
 obtain ⟨c,rfl,hc⟩:=shInt h3
 exact ⟨⟨a,b,c⟩,rfl,b20 ha,b20 hb⟩
theorem shLex {xs:List AV} (h:Sh Tryz.prog B20 29 xs):∃ l:Lex,xs=encLex l∧LexFit l:=by
 obtain ⟨ps,rfl,hp⟩:=sh_struct h rfl
 obtain ⟨x,y,z,rfl,h1,h2,h3⟩:=sh3 hp
 obtain ⟨a,rfl,ha,fa⟩:=sh_list (enc:=encEnt) h1 rfl fun y hy=>shEnt hy
 obtain ⟨b,rfl,hb,fb⟩:=sh_list (enc:=encEdn) h2 rfl fun y hy=>shEdn hy
 obtain ⟨c,rfl,hc,fc⟩:=sh_list (enc:=encCli) h3 rfl fun y hy=>shCli hy
 exact ⟨⟨a,b,c⟩,rfl,b20 ha,b20 hb,b20 hc,fa,fb,fc⟩
theorem shCos {xs:List AV} (h:Sh Tryz.prog B20 31 xs):∃ c:Cos,xs=encCos c:=by
 obtain ⟨ps,rfl,hp⟩:=sh_struct h rfl
 obtain ⟨x,y,z,u,v,rfl,h1,h2,h3,h4,h5⟩:=sh5 hp
 obtain ⟨a,rfl,ha⟩:=shInt h1
 obtain ⟨b,rfl,hb⟩:=shInt h2
 obtain ⟨c,rfl,hc⟩:=shInt h3
 obtain ⟨d,rfl,hd⟩:=shInt h4
 obtain ⟨e,rfl,he⟩:=shInt h5
 exact ⟨⟨a,b,c,d,e⟩,rfl⟩
theorem shHou {xs:List AV} (h:Sh Tryz.prog B20 33 xs):∃ H:Hou,xs=encHou H∧HouFit H:=by
 obtain ⟨ps,rfl,hp⟩:=sh_struct h rfl
 obtain ⟨x,y,z,u,rfl,h1,h2,h3,h4⟩:=sh4 hp
 obtain ⟨a,rfl,ha⟩:=shLst h1
 obtain ⟨b,rfl,hb⟩:=shLex h2
 obtain ⟨c,rfl⟩:=shCos h3
 obtain ⟨d,rfl,hd⟩:=shInt h4
 exact ⟨⟨a,b,c,d⟩,rfl,⟨ha,hb⟩⟩
theorem shUse {xs:List AV} (h:Sh Tryz.prog B20 59 xs):∃ u:Use,xs=encUse u∧u.text.length≤B20:=by
 obtain ⟨ps,rfl,hp⟩:=sh_struct h rfl
 obtain ⟨x,y,rfl,h1,h2⟩:=sh2 hp
 obtain ⟨a,rfl,ha⟩:=shInt h1
 obtain ⟨b,rfl,hb⟩:=sh_str h2 rfl
 exact ⟨⟨a,b⟩,rfl,hb⟩
theorem shFrm {xs:List AV} (h:Sh Tryz.prog B20 52 xs):∃ f:Frm,xs=encFrm f∧f.clitics.length≤B20:=by
 obtain ⟨ps,rfl,hp⟩:=sh_struct h rfl
 obtain ⟨x,y,z,rfl,h1,h2,h3⟩:=sh3 hp
 obtain ⟨a,rfl,ha⟩:=shInt h1
 obtain ⟨b,rfl,hb⟩:=shInt h2
 obtain ⟨c,rfl,hc,_⟩:=shInts h3
 exact ⟨⟨a,b,c⟩,rfl,hc⟩
structure WrdArg (w:Wrd):Prop where
 cl:w.form.clitics.length≤B20
 us:w.uses.length≤B20
 text:∀ u∈w.uses,u.text.length≤B20
theorem shWrd {xs:List AV} (h:Sh Tryz.prog B20 55 xs):∃ w:Wrd,xs=encWrd w∧WrdArg w:=by
 obtain ⟨ps,rfl,hp⟩:=sh_struct h rfl
 obtain ⟨x,y,rfl,h1,h2⟩:=sh2 hp
 obtain ⟨a,rfl,ha⟩:=shFrm h1
 obtain ⟨b,rfl,hb,hf⟩:=sh_list (enc:=encUse) h2 rfl fun y hy=>shUse hy
 exact ⟨⟨a,b⟩,rfl,ha,hb,hf⟩
theorem argInt {x:AV} (h:ArgSh Tryz.prog B20 3 x):∃ n:Int,x=.int .i64 n∧IntKind.i64.has n:=by
 obtain ⟨xs,h,hx⟩:=h
 have hx:xs=[x]:=hx
 obtain ⟨n,h1,h2⟩:=shInt h
 rw [hx] at h1
 cases h1
 exact ⟨n,rfl,h2⟩
theorem argHou {x:AV} (h:ArgSh Tryz.prog B20 33 x):∃ H:Hou,x=.agg (encHou H)∧HouFit H:=by
 obtain ⟨xs,h,hx⟩:=h
 have hx:x=.agg xs:=hx
 subst hx
 obtain ⟨H,rfl,hf⟩:=shHou h
 exact ⟨H,rfl,hf⟩
theorem argWrds {x:AV} (h:ArgSh Tryz.prog B20 34 x):∃ l:List Wrd,x=.sl 4 none (l.map encWrd)∧l.length≤B20∧∀ w∈l,WrdArg w:=by
 obtain ⟨xs,h,hx⟩:=h
 have hx:xs=[x]:=hx
 obtain ⟨l,h1,h2⟩:=sh_list (enc:=encWrd) h rfl fun y hy=>shWrd hy
 rw [hx] at h1
 cases h1
 exact ⟨l,rfl,h2⟩
theorem args2 {ts:List TypeId} {a b:TypeId} {xs:List AV} (ht:ts=[a,b]) (h:ArgShs Tryz.prog B20 ts xs):∃ x y,xs=[x,y]∧ArgSh Tryz.prog B20 a x∧ArgSh Tryz.prog B20 b y:=by
 subst ht
 match xs,h with
 | [x,y],⟨h1,h2,_⟩=>exact ⟨x,y,rfl,h1,h2⟩
structure Cas where
 house:Hou
 line:List Int
def encCas (c:Cas):List AV:=encHou c.house++[.sl 1 none (ints c.line)]
theorem argCas {x:AV} (h:ArgSh Tryz.prog B20 42 x):∃ c:Cas,x=.agg (encCas c)∧HouFit c.house∧c.line.length≤B20:=by
 obtain ⟨xs,h,hx⟩:=h
 have hx:x=.agg xs:=hx
 subst hx
 obtain ⟨ps,rfl,hp⟩:=sh_struct h rfl
 obtain ⟨x,y,rfl,h1,h2⟩:=sh2 hp
 obtain ⟨a,rfl,ha⟩:=shHou h1
 obtain ⟨b,rfl,hb,_⟩:=shInts h2
 exact ⟨⟨a,b⟩,by simp [encCas],ha,hb⟩
end Go.Abs.Wall
