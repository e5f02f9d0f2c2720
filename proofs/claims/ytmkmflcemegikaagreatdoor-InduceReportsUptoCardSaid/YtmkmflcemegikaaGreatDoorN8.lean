/- What is proved: small laws for the walks of this seat, and contracts of its functions. No condition but those each theorem names. -/
import Derived.Test.YtmkmflcemegikaaGreatDoorN7
import Derived.Test.YtmkmflcemegikaaGreatDoorN5
import Derived.Test.YtmkmflcemegikaaGreatDoorN4
import Derived.Test.YtmkmflcemegikaaGreatDoorN6
set_option maxRecDepth 100000
set_option maxHeartbeats 2000000
set_option linter.unusedVariables false
set_option linter.unusedSimpArgs false
namespace Go.Abs.Wall
open Go Go.Abs Go.Proofs
section
variable {α:Type} {k:Nat} {enc:α→List AV}
theorem flat_len (hk:∀ a,(enc a).length=k) (L:List α):((L.map enc).flatten).length=L.length*k:=enc_len hk
theorem flat_drop (hk:∀ a,(enc a).length=k):∀ (L:List α) (i:Nat),((L.map enc).flatten).drop (i*k)=((L.drop i).map enc).flatten
 | L,0=>by simp
 | [],i+1=>by simp
 | a::L,i+1=>by
   rw [List.map_cons,List.flatten_cons,List.drop_succ_cons,show (i+1)*k=(enc a).length+i*k by rw [hk,Nat.succ_mul,Nat.add_comm],List.drop_append,List.drop_eq_nil_of_le (Nat.le_add_right _ _),List.nil_append,Nat.add_sub_cancel_left]
   exact flat_drop hk L i
theorem flat_take (hk:∀ a,(enc a).length=k):∀ (L:List α) (i:Nat),((L.map enc).flatten).take (i*k)=((L.take i).map enc).flatten
 | L,0=>by simp
 | [],i+1=>by simp
 | a::L,i+1=>by
   rw [List.map_cons,List.flatten_cons,List.take_succ_cons,List.map_cons,List.flatten_cons,show (i+1)*k=(enc a).length+i*k by rw [hk,Nat.succ_mul,Nat.add_comm],List.take_append,List.take_of_length_le (Nat.le_add_right _ _),Nat.add_sub_cancel_left]
   rw [flat_take hk L i]
theorem ldE {P:Program} {t:TypeId} {b o i:Nat} {h:Heap} {L:List α} {x:α} {K:AV→Prop} (hk:∀ a,(enc a).length=k) (hm:(b,Ob.vec (L.map enc).flatten)∈h) (ho:o=i*k) (hx:L[i]?=some x)
  (hl:loadI P t (enc x++((L.drop (i+1)).map enc).flatten) K):∃ cs l,(b,Ob.vec cs)∈h∧dropN o cs=some l∧loadI P t l K:=by
 obtain ⟨hi,hx'⟩:=List.getElem?_eq_some_iff.1 hx
 refine ⟨_,_,hm,dropN_some ?_,?_⟩
 ·rw [flat_len hk,ho]
  exact Nat.mul_le_mul_right k (by omega)
 ·rw [ho,flat_drop hk,List.drop_eq_getElem_cons hi,hx',List.map_cons,List.flatten_cons]
  exact hl
theorem setC_flat (hk:∀ a,(enc a).length=k) {L:List α} {i:Nat} {y:α} (hi:i<L.length):setC (L.map enc).flatten (i*k) (enc y)=((L.set i y).map enc).flatten:=by
 unfold setC
 rw [hk,flat_take hk,show i*k+k=(i+1)*k by rw [Nat.succ_mul],flat_drop hk,List.set_eq_take_append_cons_drop,if_pos hi]
 simp
theorem stE {b o i:Nat} {h h':Heap} {L:List α} {l:List AV} {K:AV→Heap→Prop} (y:α) (hk0:0<k) (hk:∀ a,(enc a).length=k) (hi:i<L.length) (ho:o=i*k) (hl:l=enc y)
  (hu:Upd b (.vec (L.map enc).flatten) b (.vec ((L.set i y).map enc).flatten) h h') (hK:K .unit h') :
  ∃ cs h',Upd b (.vec cs) b (.vec (setC cs o l)) h h'∧(0<l.length∧o+l.length≤cs.length)∧K .unit h':=by
 subst ho hl
 refine ⟨_,h',by rw [setC_flat hk hi];exact hu,⟨by rw [hk];exact hk0,?_⟩,hK⟩
 rw [hk,flat_len hk,← Nat.succ_mul]
 exact Nat.mul_le_mul_right k hi
end
end Go.Abs.Wall
namespace Go.Abs.Wall
open Go Go.Abs Go.Proofs
def c58:Cfg:=⟨[0,1,4],[],[],[],[],[]⟩
def c60:Cfg:=⟨[0,2],[],[],[],[],[]⟩
def c59:Cfg:=⟨[0,2],[],[],[],[],[]⟩
def c61:Cfg:=⟨[0,2],[],[],[],[],[]⟩
def c35:Cfg:=⟨[0,1,2,3,4,5,6,7,8,9,10,11,12,28,33,67,70,96,101,130,133,155,160,183,186,197],[],[4,6,8,11],[],[(24,[0,1,2,3,4,5,6,7,8,9,10,11,12,13,14,15,16,17,18,19],[]),(35,[0,1,2,3,4,5,6,7,8],[])],[]⟩
theorem refSnd (s:List UInt8) (most:Int) (hs:s.length≤LMAX):QCall Tryz.prog 58 [.str s,.int .i64 most] [] (.bool (sndOK s most)):=by
 refine fcalls (F:=Tryz.f58) c58 rfl rfl rfl mixed rfl fun X=>?_
 conv=>whnf
 repeat (refine gcall (refSounds s hs) ?_;conv=>whnf)
 refine ⟨congrArg AV.bool ?_,rfl⟩
 unfold sndOK
 rw [Bool.and_comm (s.all letter)]
 rfl
theorem refName (s:List UInt8) (hs:s.length≤LMAX):QCall Tryz.prog 60 [.str s] [] (.bool (nameOK s)):=by
 refine fcalls (F:=Tryz.f60) c60 rfl rfl rfl mixed rfl fun X=>?_
 conv=>whnf
 repeat (refine gcall (refSmall s hs) ?_;conv=>whnf)
 refine ⟨congrArg AV.bool ?_,rfl⟩
 unfold nameOK
 rw [Bool.and_comm (s.all small)]
theorem refKind (n:Int):QCall Tryz.prog 59 [.int .i64 n] [] (.bool (wthn n 1 9)):=by
 refine fcalls (F:=Tryz.f59) c59 rfl rfl rfl mixed rfl fun X=>?_
 conv=>whnf
 skip
 exact ⟨rfl,rfl⟩
theorem refWeight (n:Int):QCall Tryz.prog 61 [.int .i64 n] [] (.bool (wthn n 0 1000)):=by
 refine fcalls (F:=Tryz.f61) c61 rfl rfl rfl mixed rfl fun X=>?_
 conv=>whnf
 skip
 exact ⟨rfl,rfl⟩
def entB0 (w:Ent):Bool:=!sndOK w.root 8||!wthn w.kind 1 9||(!decide (w.cls=[])&&!nameOK w.cls)||!wthn w.weight 0 1000
def ednB0 (w:Edn):Bool:=!wthn w.kind 1 9||!sndOK w.text 4||!nameOK w.name||!wthn w.weight 0 1000
def cliB0 (w:Cli):Bool:=!sndOK w.text 4||!nameOK w.name||!wthn w.weight 0 1000
theorem Below.none {α:Type} {p:α→Bool} {l:List α} {i:Nat} (h:Below p l i):(l.take i).any p=false:=by
 rw [List.any_eq_false]
 intro y hy
 obtain ⟨j,hj⟩:=List.mem_iff_getElem?.1 hy
 rw [List.getElem?_take] at hj
 split at hj
 ·rename_i h1
  rw [h j y h1 hj];decide
 ·cases hj
theorem any_hit {α:Type} {p:α→Bool} {l:List α} {i k:Nat} {y:α} (hk:k<i) (hy:l[k]?=some y) (hp:p y=true):(l.take i).any p=true:=by
 rw [List.any_eq_true]
 exact ⟨y,List.mem_of_getElem? (i:=k) (by rw [List.getElem?_take,if_pos hk,hy]),hp⟩
set_option maxHeartbeats 2000000 in
theorem refLex (x:Lex) (hx:LexFit x):QCall Tryz.prog 35 [.agg (encLex x)] [] (.int .i64 (lexErr x)):=by
 have hx1:=hx.entries
 have hx2:=hx.endings
 have hx3:=hx.clitics
 unfold LMAX at hx1 hx2 hx3
 refine fcalls (F:=Tryz.f35) c35 rfl rfl rfl mixed rfl fun X=>?_
 conv=>whnf
 skip
 refine ⟨fun hc=>?_,fun hc=>?_⟩
 ·have hc:(decide (200<((x.entries.map encEnt).length:Int))||decide (40<((x.endings.map encEdn).length:Int))||decide (10<((x.clitics.map encCli).length:Int)))=true:=hc
  simp [or_assoc] at hc
  conv=>whnf
  exact ⟨by rw [lexErr,if_pos (by omega)],rfl⟩
 have hc:(decide (200<((x.entries.map encEnt).length:Int))||decide (40<((x.endings.map encEdn).length:Int))||decide (10<((x.clitics.map encCli).length:Int)))=false:=hc
 simp at hc
 have h0:lexErr x=if bads entBad x.entries=true then 45 else if bads ednBad x.endings=true then 46 else if bads cliBad x.clitics=true then 47 else 0:=by rw [lexErr,if_neg (by omega)]
 conv=>whnf
 skip
 refine sloop rfl mixed [1,3] [] (fun m r h=>∃ (i:Nat),r=[(1,[],.iptr (encLex x)),(3,[],.int .i64 i)]∧h=[]∧m=x.entries.length - i∧i≤x.entries.length∧bads entBad x.entries=badGo entBad x.entries (x.entries.drop i) i) ?_ ?_
 ·conv=>whnf
  exact ⟨_,0,rfl,rfl,rfl,by omega,rfl⟩
 ·rintro m r h ⟨i,rfl,rfl,rfl,hi,hb⟩
  conv=>whnf
  skip
  refine ⟨fun he=>?_,fun he=>?_⟩<;>simp at he
  ·obtain ⟨w,hw⟩:=get_lt he
   have hm:=List.mem_of_getElem? hw
   rw [drop_cons hw,badGo] at hb
   conv=>whnf
   repeat ((first|refine ix (by assumption) ?_|refine QCall.k0 (refSnd w.root 8 (hx.ent w hm).root) ?_|refine gcall (refKind _) ?_|refine gcall (refName w.cls (hx.ent w hm).cls) ?_|refine gcall (refWeight _) ?_|refine ⟨_,_,Rem.here _,⟨Nat.le_of_ble_eq_true rfl,rfl⟩,?_⟩|intro (nb:Nat));conv=>whnf)
   refine ⟨fun hd=>?_,fun hd=>?_⟩
   ·have hd:entB0 w=true:=hd
    have hd:entBad (x.entries.take i) w=true:=by show (entB0 w||(x.entries.take i).any (entSame w))=true;rw [hd];rfl
    rw [hd,Bool.true_or] at hb
    conv=>whnf
    exact ⟨by rw [h0,if_pos hb],rfl⟩
   ·have hd:entB0 w=false:=hd
    have hd:entBad (x.entries.take i) w=(x.entries.take i).any (entSame w):=by show (entB0 w||(x.entries.take i).any (entSame w))=_;rw [hd];rfl
    rw [hd] at hb
    conv=>whnf
    skip
    refine sloop rfl mixed [1,3,4,5] [] (fun m r h=>∃ (k:Nat),r=[(1,[],.iptr (encLex x)),(3,[],.int .i64 i),(4,[],.iptr (encEnt w)),(5,[],.int .i64 k)]∧h=[]∧m=i - k∧k≤i∧Below (entSame w) x.entries k) ?_ ?_
    ·conv=>whnf
     exact ⟨_,0,rfl,rfl,rfl,by omega,.zero⟩
    ·rintro m r h ⟨k,rfl,rfl,rfl,hk,hg⟩
     conv=>whnf
     refine ⟨fun hk2=>?_,fun hk2=>?_⟩<;>simp at hk2
     ·obtain ⟨v,hv⟩:=get_lt (l:=x.entries) (i:=k) (by omega)
      conv=>whnf
      repeat ((first|refine ix (by assumption) ?_|refine ⟨_,_,Rem.here _,⟨Nat.le_of_ble_eq_true rfl,rfl⟩,?_⟩|intro (nb:Nat));conv=>whnf)
      refine ⟨fun hq=>?_,fun hq=>?_⟩
      ·have hq:entSame w v=true:=hq
       rw [any_hit hk2 hv hq,Bool.true_or] at hb
       conv=>whnf
       exact ⟨by rw [h0,if_pos hb],rfl⟩
      ·have hq:entSame w v=false:=hq
       conv=>whnf
       repeat (refine ⟨gP_of ⟨by omega,by omega⟩,?_⟩;conv=>whnf)
       exact ⟨_,by omega,k+1,rfl,rfl,rfl,by omega,hg.succ hv hq⟩
     ·have hki:k=i:=by omega
      subst hki
      rw [hg.none,Bool.false_or] at hb
      conv=>whnf
      repeat (refine ⟨gP_of ⟨by omega,by omega⟩,?_⟩;conv=>whnf)
      exact ⟨_,by omega,k+1,rfl,rfl,rfl,by omega,hb⟩
  ·rw [drop_nil he,badGo] at hb
   have h1:lexErr x=if bads ednBad x.endings=true then 46 else if bads cliBad x.clitics=true then 47 else 0:=by rw [h0,if_neg (by rw [hb];decide)]
   conv=>whnf
   skip
   refine sloop rfl mixed [1,7] [] (fun m r h=>∃ (i:Nat),r=[(1,[],.iptr (encLex x)),(7,[],.int .i64 i)]∧h=[]∧m=x.endings.length - i∧i≤x.endings.length∧bads ednBad x.endings=badGo ednBad x.endings (x.endings.drop i) i) ?_ ?_
   ·conv=>whnf
    exact ⟨_,0,rfl,rfl,rfl,by omega,rfl⟩
   ·rintro m r h ⟨i,rfl,rfl,rfl,hi,hb⟩
    conv=>whnf
    skip
    refine ⟨fun he=>?_,fun he=>?_⟩<;>simp at he
    ·obtain ⟨w,hw⟩:=get_lt he
     have hm:=List.mem_of_getElem? hw
     rw [drop_cons hw,badGo] at hb
     conv=>whnf
     repeat ((first|refine ix (by assumption) ?_|refine gcall (refSnd w.text 4 (hx.edn w hm).text) ?_|refine QCall.k0 (refKind _) ?_|refine gcall (refName w.name (hx.edn w hm).name) ?_|refine gcall (refWeight _) ?_|refine ⟨_,_,Rem.here _,⟨Nat.le_of_ble_eq_true rfl,rfl⟩,?_⟩|intro (nb:Nat));conv=>whnf)
     refine ⟨fun hd=>?_,fun hd=>?_⟩
     ·have hd:ednB0 w=true:=hd
      have hd:ednBad (x.endings.take i) w=true:=by show (ednB0 w||(x.endings.take i).any (ednSame w))=true;rw [hd];rfl
      rw [hd,Bool.true_or] at hb
      conv=>whnf
      exact ⟨by rw [h1,if_pos hb],rfl⟩
     ·have hd:ednB0 w=false:=hd
      have hd:ednBad (x.endings.take i) w=(x.endings.take i).any (ednSame w):=by show (ednB0 w||(x.endings.take i).any (ednSame w))=_;rw [hd];rfl
      rw [hd] at hb
      conv=>whnf
      skip
      refine sloop rfl mixed [1,7,8,9] [] (fun m r h=>∃ (k:Nat),r=[(1,[],.iptr (encLex x)),(7,[],.int .i64 i),(8,[],.iptr (encEdn w)),(9,[],.int .i64 k)]∧h=[]∧m=i - k∧k≤i∧Below (ednSame w) x.endings k) ?_ ?_
      ·conv=>whnf
       exact ⟨_,0,rfl,rfl,rfl,by omega,.zero⟩
      ·rintro m r h ⟨k,rfl,rfl,rfl,hk,hg⟩
       conv=>whnf
       refine ⟨fun hk2=>?_,fun hk2=>?_⟩<;>simp at hk2
       ·obtain ⟨v,hv⟩:=get_lt (l:=x.endings) (i:=k) (by omega)
        conv=>whnf
        repeat ((first|refine ix (by assumption) ?_|refine And.intro (by show drawOK (opsAt Tryz.f35 _) _=true;decide +kernel) ?_);conv=>whnf)
        refine ⟨fun hq=>?_,fun hq=>?_⟩
        ·have hq:ednSame w v=true:=hq
         rw [any_hit hk2 hv hq,Bool.true_or] at hb
         conv=>whnf
         exact ⟨by rw [h1,if_pos hb],rfl⟩
        ·have hq:ednSame w v=false:=hq
         conv=>whnf
         repeat (refine ⟨gP_of ⟨by omega,by omega⟩,?_⟩;conv=>whnf)
         exact ⟨_,by omega,k+1,rfl,rfl,rfl,by omega,hg.succ hv hq⟩
       ·have hki:k=i:=by omega
        subst hki
        rw [hg.none,Bool.false_or] at hb
        conv=>whnf
        repeat (refine ⟨gP_of ⟨by omega,by omega⟩,?_⟩;conv=>whnf)
        exact ⟨_,by omega,k+1,rfl,rfl,rfl,by omega,hb⟩
    ·rw [drop_nil he,badGo] at hb
     have h2:lexErr x=if bads cliBad x.clitics=true then 47 else 0:=by rw [h1,if_neg (by rw [hb];decide)]
     conv=>whnf
     skip
     refine sloop rfl mixed [1,10] [] (fun m r h=>∃ (i:Nat),r=[(1,[],.iptr (encLex x)),(10,[],.int .i64 i)]∧h=[]∧m=x.clitics.length - i∧i≤x.clitics.length∧bads cliBad x.clitics=badGo cliBad x.clitics (x.clitics.drop i) i) ?_ ?_
     ·conv=>whnf
      exact ⟨_,0,rfl,rfl,rfl,by omega,rfl⟩
     ·rintro m r h ⟨i,rfl,rfl,rfl,hi,hb⟩
      conv=>whnf
      skip
      refine ⟨fun he=>?_,fun he=>?_⟩<;>simp at he
      ·obtain ⟨w,hw⟩:=get_lt he
       have hm:=List.mem_of_getElem? hw
       rw [drop_cons hw,badGo] at hb
       conv=>whnf
       repeat ((first|refine ix (by assumption) ?_|refine QCall.k0 (refSnd w.text 4 (hx.cli w hm).text) ?_|refine gcall (refName w.name (hx.cli w hm).name) ?_|refine gcall (refWeight _) ?_|refine ⟨_,_,Rem.here _,⟨Nat.le_of_ble_eq_true rfl,rfl⟩,?_⟩|intro (nb:Nat));conv=>whnf)
       refine ⟨fun hd=>?_,fun hd=>?_⟩
       ·have hd:cliB0 w=true:=hd
        have hd:cliBad (x.clitics.take i) w=true:=by show (cliB0 w||(x.clitics.take i).any (cliSame w))=true;rw [hd];rfl
        rw [hd,Bool.true_or] at hb
        conv=>whnf
        exact ⟨by rw [h2,if_pos hb],rfl⟩
       ·have hd:cliB0 w=false:=hd
        have hd:cliBad (x.clitics.take i) w=(x.clitics.take i).any (cliSame w):=by show (cliB0 w||(x.clitics.take i).any (cliSame w))=_;rw [hd];rfl
        rw [hd] at hb
        conv=>whnf
        skip
        refine sloop rfl mixed [1,10,11,12] [] (fun m r h=>∃ (k:Nat),r=[(1,[],.iptr (encLex x)),(10,[],.int .i64 i),(11,[],.iptr (encCli w)),(12,[],.int .i64 k)]∧h=[]∧m=i - k∧k≤i∧Below (cliSame w) x.clitics k) ?_ ?_
        ·conv=>whnf
         exact ⟨_,0,rfl,rfl,rfl,by omega,.zero⟩
        ·rintro m r h ⟨k,rfl,rfl,rfl,hk,hg⟩
         conv=>whnf
         refine ⟨fun hk2=>?_,fun hk2=>?_⟩<;>simp at hk2
         ·obtain ⟨v,hv⟩:=get_lt (l:=x.clitics) (i:=k) (by omega)
          conv=>whnf
          repeat ((first|refine ix (by assumption) ?_|refine And.intro (by show drawOK (opsAt Tryz.f35 _) _=true;decide +kernel) ?_);conv=>whnf)
          refine ⟨fun hq=>?_,fun hq=>?_⟩
          ·have hq:cliSame w v=true:=hq
           rw [any_hit hk2 hv hq,Bool.true_or] at hb
           conv=>whnf
           exact ⟨by rw [h2,if_pos hb],rfl⟩
          ·have hq:cliSame w v=false:=hq
           conv=>whnf
           repeat (refine ⟨gP_of ⟨by omega,by omega⟩,?_⟩;conv=>whnf)
           exact ⟨_,by omega,k+1,rfl,rfl,rfl,by omega,hg.succ hv hq⟩
         ·have hki:k=i:=by omega
          subst hki
          rw [hg.none,Bool.false_or] at hb
          conv=>whnf
          repeat (refine ⟨gP_of ⟨by omega,by omega⟩,?_⟩;conv=>whnf)
          exact ⟨_,by omega,k+1,rfl,rfl,rfl,by omega,hb⟩
      ·rw [drop_nil he,badGo] at hb
       have h3:lexErr x=0:=by rw [h2,if_neg (by rw [hb];decide)]
       conv=>whnf
       exact ⟨by rw [h3],rfl⟩
end Go.Abs.Wall
namespace Go.Abs.Wall
open Go Go.Abs Go.Proofs
end Go.Abs.Wall
namespace Go.Abs.Wall
open Go Go.Abs Go.Proofs
def c18:Cfg:=⟨[0,1,2,3,4,5,7,12,18,32,33,34,35,43,55],[],[5],[],[],[]⟩
theorem refHouse (H:Hou) (hh:HouFit H):QCall Tryz.prog 18 [.agg (encHou H)] [] (.int .i64 (houErr H)):=by
 refine fcalls (F:=Tryz.f18) c18 rfl rfl rfl mixed rfl fun X=>?_
 conv=>whnf
 repeat (refine QCall.k0 (refCheck H.list hh.list) ?_;conv=>whnf)
 refine ⟨fun hc=>?_,fun hc=>?_⟩<;>simp at hc
 ·conv=>whnf
  skip
  exact ⟨by rw [houErr,if_pos hc],rfl⟩
 conv=>whnf
 repeat (refine QCall.k0 (refLex H.lex hh.lex) ?_;conv=>whnf)
 refine ⟨fun hd=>?_,fun hd=>?_⟩<;>simp at hd
 ·conv=>whnf
  skip
  exact ⟨by rw [houErr,if_neg (by omega),if_pos hd],rfl⟩
 have h0:houErr H=if (costL H.costs).all (wthn · 0 1000)=false then 50 else if wthn H.period 1 H.list.periods=false then 13 else 0:=by rw [houErr,if_neg (by omega),if_neg (by omega)]
 conv=>whnf
 repeat ((first|refine ⟨_,_,Rem.here _,⟨Nat.le_of_ble_eq_true rfl,rfl⟩,?_⟩|intro (nb:Nat));conv=>whnf)
 refine sloop rfl mixed [1,32,33,34] [] (fun m r h=>∃ (i:Nat),r=[(1,[],.iptr (encHou H)),(32,[],.sl 1 none (ints (costL H.costs))),(33,[],.int .i64 5),(34,[],.int .i64 i)]∧h=[]∧m=5 - i∧i≤5∧(costL H.costs).all (wthn · 0 1000)=((costL H.costs).drop i).all (wthn · 0 1000)) ?_ ?_
 ·conv=>whnf
  exact ⟨_,0,rfl,rfl,rfl,by omega,rfl⟩
 ·rintro m r h ⟨i,rfl,rfl,rfl,hi,ha⟩
  conv=>whnf
  refine ⟨fun he=>?_,fun he=>?_⟩<;>simp at he
  ·obtain ⟨c,hc⟩:=get_lt (l:=costL H.costs) (i:=i) (by simp [costL];omega)
   rw [drop_cons hc,List.all_cons] at ha
   conv=>whnf
   repeat (refine ix (by assumption) ?_;conv=>whnf)
   refine ⟨fun hq=>?_,fun hq=>?_⟩
   ·have hq:(decide (c<0)||decide (1000<c))=true:=hq
    have hw:wthn c 0 1000=false:=by rw [← Bool.not_eq_true,wthn_iff];simp at hq;omega
    rw [hw,Bool.false_and] at ha
    conv=>whnf
    skip
    exact ⟨by rw [h0,if_pos ha],rfl⟩
   ·have hq:(decide (c<0)||decide (1000<c))=false:=hq
    have hw:wthn c 0 1000=true:=by rw [wthn_iff];simp at hq;omega
    rw [hw,Bool.true_and] at ha
    conv=>whnf
    repeat (refine ⟨gP_of ⟨by omega,by omega⟩,?_⟩;conv=>whnf)
    exact ⟨_,by omega,i+1,rfl,rfl,rfl,by omega,ha⟩
  ·rw [drop_nil (by simp [costL];omega)] at ha
   have h1:houErr H=if wthn H.period 1 H.list.periods=false then 13 else 0:=by rw [h0,if_neg (by rw [ha];decide)]
   conv=>whnf
   skip
   refine ⟨fun hq=>?_,fun hq=>?_⟩
   ·have hq:(decide (H.period<1)||decide (H.list.periods<H.period))=true:=hq
    have hw:wthn H.period 1 H.list.periods=false:=by rw [← Bool.not_eq_true,wthn_iff];simp at hq;omega
    conv=>whnf
    exact ⟨by rw [h1,if_pos hw],rfl⟩
   ·have hq:(decide (H.period<1)||decide (H.list.periods<H.period))=false:=hq
    have hw:wthn H.period 1 H.list.periods=true:=by rw [wthn_iff];simp at hq;omega
    conv=>whnf
    exact ⟨by rw [h1,if_neg (by rw [hw];decide)],rfl⟩
end Go.Abs.Wall
namespace Go.Abs.Wall
open Go Go.Abs Go.Proofs
end Go.Abs.Wall
namespace Go.Abs.Wall
open Go Go.Abs Go.Proofs
end Go.Abs.Wall
namespace Go.Abs.Wall
open Go Go.Abs Go.Proofs Go.Proofs.YtmkmflcemegikaaGreatDoor.Br
def ShParts (P:Program) (B:Nat):List TypeId→List (List AV)→Prop
 | [],[]=>True
 | t::ts,p::ps=>Sh P B t p∧ShParts P B ts ps
 | _,_=>False
theorem sh_parts {P:Program} {B:Nat}:∀ {ts:List TypeId} {ps:List (List AV)},ps.length=ts.length→(∀ (i:Nat) t p,ts[i]?=some t→ps[i]?=some p→Sh P B t p)→ShParts P B ts ps
 | [],[],_,_=>trivial
 | t::ts,p::ps,hl,h=>⟨h 0 t p rfl rfl,sh_parts (by simpa using hl) fun i t' p' h1 h2=>h (i+1) t' p' (by simpa using h1) (by simpa using h2)⟩
 | [],_::_,hl,_=>by simp at hl
 | _::_,[],hl,_=>by simp at hl
theorem sh_struct {P:Program} {B:Nat} {t:TypeId} {fs:Array Field} {xs:List AV} (h:Sh P B t xs) (hu:P.underlying t=some (.struct fs)):∃ ps,xs=ps.flatten∧ShParts P B (fs.toList.map (·.type)) ps:=by
 cases h with
 | bool h1=>rw [hu] at h1;cases h1
 | int h1 _=>rw [hu] at h1;cases h1
 | str h1 _=>rw [hu] at h1;cases h1
 | slice h1 _ _=>rw [hu] at h1;cases h1
 | @struct _ fs' ps h1 hl hp=>
   rw [hu] at h1;cases h1
   refine ⟨ps,rfl,sh_parts (by simpa using hl) fun i t p h1 h2=>?_⟩
   rw [List.getElem?_map] at h1
   cases hf:fs.toList[i]? with
   | none=>rw [hf] at h1;cases h1
   | some f=>rw [hf] at h1;cases h1;exact hp i f p hf h2
 | array h1 hl hp=>rw [hu] at h1;cases h1
theorem sh_int {P:Program} {B:Nat} {t:TypeId} {k:IntKind} {xs:List AV} (h:Sh P B t xs) (hu:P.underlying t=some (.int k)):∃ n:Int,xs=[.int k n]∧k.has n:=by
 cases h with
 | bool h1=>rw [hu] at h1;cases h1
 | int h1 h2=>rw [hu] at h1;cases h1;exact ⟨_,rfl,wf_has h2⟩
 | str h1 _=>rw [hu] at h1;cases h1
 | slice h1 _ _=>rw [hu] at h1;cases h1
 | struct h1 hl hp=>rw [hu] at h1;cases h1
 | array h1 hl hp=>rw [hu] at h1;cases h1
theorem sh_bool {P:Program} {B:Nat} {t:TypeId} {xs:List AV} (h:Sh P B t xs) (hu:P.underlying t=some .bool):∃ b:Bool,xs=[.bool b]:=by
 cases h with
 | bool h1=>exact ⟨_,rfl⟩
 | int h1 h2=>rw [hu] at h1;cases h1
 | str h1 _=>rw [hu] at h1;cases h1
 | slice h1 _ _=>rw [hu] at h1;cases h1
 | struct h1 hl hp=>rw [hu] at h1;cases h1
 | array h1 hl hp=>rw [hu] at h1;cases h1
theorem sh_str {P:Program} {B:Nat} {t:TypeId} {xs:List AV} (h:Sh P B t xs) (hu:P.underlying t=some .string):∃ s,xs=[.str s]∧s.length≤B:=by
 cases h with
 | bool h1=>rw [hu] at h1;cases h1
 | int h1 h2=>rw [hu] at h1;cases h1
 | str h1 h2=>exact ⟨_,rfl,h2⟩
 | slice h1 _ _=>rw [hu] at h1;cases h1
 | struct h1 hl hp=>rw [hu] at h1;cases h1
 | array h1 hl hp=>rw [hu] at h1;cases h1
theorem sh_list {P:Program} {B:Nat} {t e:TypeId} {xs:List AV} {α:Type} {enc:α→List AV} {Fit:α→Prop} (h:Sh P B t xs) (hu:P.underlying t=some (.slice e)) (he:∀ y,Sh P B e y→∃ a,y=enc a∧Fit a) :
  ∃ l:List α,xs=[.sl (P.cellsOf e) none (l.map enc)]∧l.length≤B∧∀ a∈l,Fit a:=by
 cases h with
 | bool h1=>rw [hu] at h1;cases h1
 | int h1 h2=>rw [hu] at h1;cases h1
 | str h1 _=>rw [hu] at h1;cases h1
 | @slice _ e' ys h1 h2 h3=>
   rw [hu] at h1;cases h1
   suffices hk:∃ l:List α,ys=l.map enc∧∀ a∈l,Fit a by
    obtain ⟨l,rfl,hf⟩:=hk
    exact ⟨l,rfl,by simpa using h2,hf⟩
   clear h2
   induction ys with
   | nil=>exact ⟨[],rfl,by simp⟩
   | cons y ys ih=>
     obtain ⟨l,rfl,hf⟩:=ih fun z hz=>h3 z (by simp [hz])
     obtain ⟨a,rfl,ha⟩:=he y (h3 y (by simp))
     exact ⟨a::l,rfl,fun b hb=>by rcases List.mem_cons.1 hb with rfl|hb;exact ha;exact hf b hb⟩
 | struct h1 hl hp=>rw [hu] at h1;cases h1
 | array h1 hl hp=>rw [hu] at h1;cases h1
theorem sh2 {P:Program} {B:Nat} {a b:TypeId} {ps:List (List AV)} (h:ShParts P B [a,b] ps):∃ x y,ps=[x,y]∧Sh P B a x∧Sh P B b y:=by
 match ps,h with
 | [x,y],⟨h1,h2,_⟩=>exact ⟨x,y,rfl,h1,h2⟩
theorem sh3 {P:Program} {B:Nat} {a b c:TypeId} {ps:List (List AV)} (h:ShParts P B [a,b,c] ps):∃ x y z,ps=[x,y,z]∧Sh P B a x∧Sh P B b y∧Sh P B c z:=by
 match ps,h with
 | [x,y,z],⟨h1,h2,h3,_⟩=>exact ⟨x,y,z,rfl,h1,h2,h3⟩
theorem sh4 {P:Program} {B:Nat} {a b c d:TypeId} {ps:List (List AV)} (h:ShParts P B [a,b,c,d] ps):∃ x y z u,ps=[x,y,z,u]∧Sh P B a x∧Sh P B b y∧Sh P B c z∧Sh P B d u:=by
 match ps,h with
 | [x,y,z,u],⟨h1,h2,h3,h4,_⟩=>exact ⟨x,y,z,u,rfl,h1,h2,h3,h4⟩
theorem sh5 {P:Program} {B:Nat} {a b c d e:TypeId} {ps:List (List AV)} (h:ShParts P B [a,b,c,d,e] ps):∃ x y z u v,ps=[x,y,z,u,v]∧Sh P B a x∧Sh P B b y∧Sh P B c z∧Sh P B d u∧Sh P B e v:=by
 match ps,h with
 | [x,y,z,u,v],⟨h1,h2,h3,h4,h5,_⟩=>exact ⟨x,y,z,u,v,rfl,h1,h2,h3,h4,h5⟩
abbrev B20:Nat:=1048576
theorem b20 {n:Nat} (h:n≤B20):n≤LMAX:=by unfold LMAX;unfold B20 at h;omega
theorem shInt {xs:List AV} (h:Sh Tryz.prog B20 3 xs):∃ n:Int,xs=[.int .i64 n]∧IntKind.i64.has n:=sh_int h rfl
theorem shInts {xs:List AV} (h:Sh Tryz.prog B20 41 xs):∃ l:List Int,xs=[.sl 1 none (ints l)]∧l.length≤B20∧∀ a∈l,IntKind.i64.has a:=
 sh_list (enc:=fun x=>[AV.int .i64 x]) h rfl fun y hy=>shInt hy
theorem shVal {xs:List AV} (h:Sh Tryz.prog B20 100 xs):∃ v:Val,xs=encVal v∧v.text.length≤B20:=by
 obtain ⟨ps,rfl,hp⟩:=sh_struct h rfl
 obtain ⟨x,y,z,u,rfl,h1,h2,h3,h4⟩:=sh4 hp
 obtain ⟨a,rfl,_⟩:=shInt h1
 obtain ⟨b,rfl,hb⟩:=sh_str h2 rfl
 obtain ⟨c,rfl,_⟩:=shInt h3
 obtain ⟨d,rfl,_⟩:=shInt h4
 exact ⟨⟨a,b,c,d⟩,rfl,hb⟩
theorem shSgn {xs:List AV} (h:Sh Tryz.prog B20 97 xs):∃ s:Sgn,xs=encSgn s∧SgnFit s:=by
 obtain ⟨ps,rfl,hp⟩:=sh_struct h rfl
 obtain ⟨x,y,z,u,v,rfl,h1,h2,h3,h4,h5⟩:=sh5 hp
 obtain ⟨a,rfl,ha⟩:=sh_str h1 rfl
 obtain ⟨b,rfl,hb⟩:=shInt h2
 obtain ⟨c,rfl,_⟩:=shInt h3
 obtain ⟨d,rfl⟩:=sh_bool h4 rfl
 obtain ⟨e,rfl,he,hf⟩:=sh_list (enc:=encVal) h5 rfl fun y hy=>shVal hy
 exact ⟨⟨a,b,c,d,e⟩,rfl,b20 ha,b20 he,fun v hv=>b20 (hf v hv)⟩
theorem shLst {xs:List AV} (h:Sh Tryz.prog B20 24 xs):∃ l:Lst,xs=encLst l∧LstFit l:=by
 obtain ⟨ps,rfl,hp⟩:=sh_struct h rfl
 obtain ⟨y,z,rfl,h1,h2⟩:=sh2 hp
 obtain ⟨a,rfl,_⟩:=shInt h1
 obtain ⟨b,rfl,hb,hf⟩:=sh_list (enc:=encSgn) h2 rfl fun y hy=>shSgn hy
 exact ⟨⟨a,b⟩,rfl,b20 hb,hf⟩
theorem shEnt {xs:List AV} (h:Sh Tryz.prog B20 57 xs):∃ e:Ent,xs=encEnt e∧EntFit e:=by
 obtain ⟨ps,rfl,hp⟩:=sh_struct h rfl
 obtain ⟨x,y,z,u,rfl,h1,h2,h3,h4⟩:=sh4 hp
 obtain ⟨a,rfl,ha⟩:=sh_str h1 rfl
 obtain ⟨b,rfl,hb⟩:=shInt h2
 obtain ⟨c,rfl,hc⟩:=sh_str h3 rfl
 obtain ⟨d,rfl,_⟩:=shInt h4
 exact ⟨⟨a,b,c,d⟩,rfl,b20 ha,b20 hc⟩
theorem shEdn {xs:List AV} (h:Sh Tryz.prog B20 102 xs):∃ e:Edn,xs=encEdn e∧EdnFit e:=by
 obtain ⟨ps,rfl,hp⟩:=sh_struct h rfl
 obtain ⟨x,y,z,u,rfl,h1,h2,h3,h4⟩:=sh4 hp
 obtain ⟨a,rfl,ha⟩:=shInt h1
 obtain ⟨b,rfl,hb⟩:=sh_str h2 rfl
 obtain ⟨c,rfl,hc⟩:=sh_str h3 rfl
 obtain ⟨d,rfl,_⟩:=shInt h4
 exact ⟨⟨a,b,c,d⟩,rfl,b20 hb,b20 hc⟩
theorem shCli {xs:List AV} (h:Sh Tryz.prog B20 104 xs):∃ e:Cli,xs=encCli e∧CliFit e:=by
 obtain ⟨ps,rfl,hp⟩:=sh_struct h rfl
 obtain ⟨x,y,z,rfl,h1,h2,h3⟩:=sh3 hp
 obtain ⟨a,rfl,ha⟩:=sh_str h1 rfl
 obtain ⟨b,rfl,hb⟩:=sh_str h2 rfl
 obtain ⟨c,rfl,hc⟩:=shInt h3
 exact ⟨⟨a,b,c⟩,rfl,b20 ha,b20 hb⟩
theorem shLex {xs:List AV} (h:Sh Tryz.prog B20 29 xs):∃ l:Lex,xs=encLex l∧LexFit l:=by
 obtain ⟨ps,rfl,hp⟩:=sh_struct h rfl
 obtain ⟨x,y,z,rfl,h1,h2,h3⟩:=sh3 hp
 obtain ⟨a,rfl,ha,fa⟩:=sh_list (enc:=encEnt) h1 rfl fun y hy=>shEnt hy
 obtain ⟨b,rfl,hb,fb⟩:=sh_list (enc:=encEdn) h2 rfl fun y hy=>shEdn hy
 obtain ⟨c,rfl,hc,fc⟩:=sh_list (enc:=encCli) h3 rfl fun y hy=>shCli hy
 exact ⟨⟨a,b,c⟩,rfl,b20 ha,b20 hb,b20 hc,fa,fb,fc⟩
theorem shCos {xs:List AV} (h:Sh Tryz.prog B20 31 xs):∃ c:Cos,xs=encCos c:=by
 obtain ⟨ps,rfl,hp⟩:=sh_struct h rfl
 obtain ⟨x,y,z,u,v,rfl,h1,h2,h3,h4,h5⟩:=sh5 hp
 obtain ⟨a,rfl,ha⟩:=shInt h1
 obtain ⟨b,rfl,hb⟩:=shInt h2
 obtain ⟨c,rfl,hc⟩:=shInt h3
 obtain ⟨d,rfl,hd⟩:=shInt h4
 obtain ⟨e,rfl,he⟩:=shInt h5
 exact ⟨⟨a,b,c,d,e⟩,rfl⟩
theorem shHou {xs:List AV} (h:Sh Tryz.prog B20 33 xs):∃ H:Hou,xs=encHou H∧HouFit H:=by
 obtain ⟨ps,rfl,hp⟩:=sh_struct h rfl
 obtain ⟨x,y,z,u,rfl,h1,h2,h3,h4⟩:=sh4 hp
 obtain ⟨a,rfl,ha⟩:=shLst h1
 obtain ⟨b,rfl,hb⟩:=shLex h2
 obtain ⟨c,rfl⟩:=shCos h3
 obtain ⟨d,rfl,hd⟩:=shInt h4
 exact ⟨⟨a,b,c,d⟩,rfl,⟨ha,hb⟩⟩
theorem argHou {x:AV} (h:ArgSh Tryz.prog B20 33 x):∃ H:Hou,x=.agg (encHou H)∧HouFit H:=by
 obtain ⟨xs,h,hx⟩:=h
 have hx:x=.agg xs:=hx
 subst hx
 obtain ⟨H,rfl,hf⟩:=shHou h
 exact ⟨H,rfl,hf⟩
theorem args2 {ts:List TypeId} {a b:TypeId} {xs:List AV} (ht:ts=[a,b]) (h:ArgShs Tryz.prog B20 ts xs):∃ x y,xs=[x,y]∧ArgSh Tryz.prog B20 a x∧ArgSh Tryz.prog B20 b y:=by
 subst ht
 match xs,h with
 | [x,y],⟨h1,h2,_⟩=>exact ⟨x,y,rfl,h1,h2⟩
end Go.Abs.Wall
