/- What is proved: small laws for the walks of this seat, and contracts of its functions. No condition but those each theorem names. -/
import Derived.Test.YtmkmflcemegikaaGreatDoorN11
set_option maxRecDepth 100000
set_option maxHeartbeats 2000000
set_option linter.unusedVariables false
set_option linter.unusedSimpArgs false
namespace Go.Abs.Wall
open Go Go.Abs Go.Proofs
end Go.Abs.Wall
namespace Go.Abs.Wall
open Go Go.Abs Go.Proofs
def c63:Cfg:=⟨[0,1,4,5,6,7,8,9,21,22,23,24,28,29,30,31,44],[],[9],[],[],[]⟩
def c64:Cfg:=⟨[4],[],[],[],[],[]⟩
def c36:Cfg:=⟨[0,1,2,4,5,6,7,8,9,10,18,21,22,23,24,28],[],[],[],[],[]⟩
theorem allW (a k:Nat):QCall Tryz.prog 64 [.int .i64 a,.int .i64 k] [] (.bool (wantAll a k)):=by
 refine fcalls (F:=Tryz.f64) c64 rfl rfl rfl mixed rfl fun X=>?_
 conv=>whnf
 exact ⟨rfl,rfl⟩
theorem reachedW (g:List (List Edg)) (f:FuncId) (caps:List AV) (want:Nat→Nat→Bool) (hg:GOK g) (hw:∀ a k:Nat,QCall Tryz.prog f (.int .i64 a::.int .i64 k::caps) [] (.bool (want a k))) :
  QCall Tryz.prog 63 [.iptr (encForest g (restT g)),.fn f caps] [] (.sl 1 none ((reachM g want).map encB)):=by
 have hfew:=hg.few
 have hrl:=restT_len g
 refine boolRow (h:=[]) (reachM_len g _) ?_
 refine fcalls (F:=Tryz.f63) c63 rfl rfl rfl mixed rfl fun X=>?_
 conv=>whnf
 repeat ((refine ⟨⟨rfl,by rw [ints_length];omega,by rw [ints_length];omega⟩,fun b=>?_⟩);conv=>whnf)
 rw [boolRow0,show (((ints (restT g)).length:Int)).toNat=g.length+1 by rw [ints_length];omega]
 repeat ((first|(refine ixo (i:=0) (by omega) ?_)|(refine stE true (by decide) encB_len (i:=0) (by simp) (Nat.zero_add _) rfl (.here _) ?_));conv=>whnf)
 obtain ⟨l0,hl0⟩:∃ l,l=(List.replicate (g.length+1) false).set 0 true:=⟨_,rfl⟩
 have hrm:reachM g want=reachGo want g 0 l0:=by rw [hl0];rfl
 rw [← hl0,hrm]
 refine sloop rfl mixed [1,5,21,22,23] [] (fun m r h=>∃ (i:Nat) (l:List Bool),r=[(1,[],.fn f caps),(5,[],.osl b 0 (g.length+1) 1),(21,[],.sl 1 none (g.map encEdgs)),(22,[],.int .i64 (g.map encEdgs).length),(23,[],.int .i64 i)]∧h=[(b,.vec (l.map encB).flatten)]∧m=g.length - i∧i≤g.length∧l.length=g.length+1∧reachGo want g 0 l0=reachGo want (g.drop i) i l) ?_ ?_
 ·conv=>whnf
  exact ⟨_,0,l0,rfl,rfl,rfl,by omega,by rw [hl0];simp,rfl⟩
 ·rintro m r h ⟨i,l,rfl,rfl,rfl,hi,hl,hgo⟩
  conv=>whnf
  refine ⟨fun hi2=>?_,fun hi2=>?_⟩<;>simp at hi2
  ·obtain ⟨es,hes⟩:=get_lt hi2
   have hmany:=hg.many i es hes
   rw [drop_cons hes,reachGo] at hgo
   conv=>whnf
   repeat (refine ix (by assumption) ?_;conv=>whnf)
   refine sloop rfl mixed [1,5,6,21,22,23,28,29,30] [] (fun m r h=>∃ (k:Nat) (l:List Bool),r=[(1,[],.fn f caps),(5,[],.osl b 0 (g.length+1) 1),(6,[],.int .i64 i),(21,[],.sl 1 none (g.map encEdgs)),(22,[],.int .i64 (g.map encEdgs).length),(23,[],.int .i64 i),(28,[],.sl 7 none (es.map encEdg)),(29,[],.int .i64 (es.map encEdg).length),(30,[],.int .i64 k)]∧h=[(b,.vec (l.map encB).flatten)]∧m=es.length - k∧k≤es.length∧l.length=g.length+1∧reachGo want g 0 l0=reachGo want (g.drop (i+1)) (i+1) (markK want i (es.drop k) k l)) ?_ ?_
   ·conv=>whnf
    exact ⟨_,0,l,rfl,rfl,rfl,by omega,hl,hgo⟩
   ·clear hgo hl
    rintro m r h ⟨k,l,rfl,rfl,rfl,hk,hl,hgo⟩
    obtain ⟨li,hli⟩:=get_lt (l:=l) (i:=i) (by omega)
    have hgd:=getD_of (d:=false) hli
    conv=>whnf
    refine ⟨fun hc=>?_,fun hc=>?_⟩<;>simp at hc
    ·obtain ⟨x,hx⟩:=get_lt hc
     have hxo:=hg.edge i es hes x (List.mem_of_getElem? hx)
     have h1:=hxo.lo
     have h2:=hxo.hi
     rw [drop_cons hx,markK,hgd] at hgo
     have hwk:=hw i k
     conv=>whnf
     repeat ((first|refine ix (by assumption) ?_|(intro (b9:Nat))|(refine ixo (i:=i) (by omega) ?_)|(refine ldE encB_len (.head _) (Nat.zero_add _) hli ?_)|refine gcall (hwk) ?_|refine ⟨_,_,Rem.here _,⟨Nat.le_of_ble_eq_true rfl,rfl⟩,?_⟩);conv=>whnf)
     refine ⟨fun hq=>?_,fun hq=>?_⟩
     ·have hq:(li&&want i k)=true:=hq
      rw [if_pos hq] at hgo
      conv=>whnf
      repeat ((first|refine ⟨gP_of ⟨by omega,by omega⟩,?_⟩|(refine ⟨x.to.toNat,gP_of ⟨by omega,by omega⟩,?_⟩)|(refine stE true (by decide) encB_len (i:=x.to.toNat) (by omega) (Nat.zero_add _) rfl (.here _) ?_));conv=>whnf)
      exact ⟨_,by omega,k+1,_,rfl,rfl,rfl,by omega,by rw [List.length_set];exact hl,hgo⟩
     ·have hq:(li&&want i k)=false:=hq
      rw [if_neg (by rw [hq];decide)] at hgo
      conv=>whnf
      repeat (refine ⟨gP_of ⟨by omega,by omega⟩,?_⟩;conv=>whnf)
      exact ⟨_,by omega,k+1,_,rfl,rfl,rfl,by omega,hl,hgo⟩
    ·rw [drop_nil hc,markK] at hgo
     conv=>whnf
     repeat (refine ⟨gP_of ⟨by omega,by omega⟩,?_⟩;conv=>whnf)
     exact ⟨_,by omega,i+1,_,rfl,rfl,rfl,by omega,hl,hgo⟩
  ·rw [drop_nil hi2,reachGo] at hgo
   conv=>whnf
   skip
   exact ⟨b,[],rfl,by rw [hgo]⟩
end Go.Abs.Wall
namespace Go.Abs.Wall
open Go Go.Abs Go.Proofs
theorem ReachW (H:Hou) (line:List Int) (hf:HouFit H) (hl:line.length≤1048576) :
  QCall Tryz.prog 36 [.agg (encHou H),.sl 1 none (ints line)] [] (.tup [.int .i64 (reachL H line),.int .i64 (growErr H line)]):=by
 have hgw:=growW H line hf hl
 refine fcalls (F:=Tryz.f36) c36 rfl rfl rfl mixed rfl fun X=>?_
 conv=>whnf
 repeat (refine QCall.k0 (hgw) ?_;conv=>whnf)
 refine ⟨fun h0=>?_,fun h0=>?_⟩<;>simp at h0
 ·conv=>whnf
  skip
  exact ⟨by rw [reachL,if_neg h0],rfl⟩
 obtain ⟨hL,hsum,hg⟩:=growOK h0
 obtain ⟨g,hge⟩:∃ g,g=graphM H line:=⟨_,rfl⟩
 have hgv:growV H line=.iptr (encForest g (restT g)):=by rw [growV,if_pos h0,hge]
 have hrl:reachL H line=lastT (reachM g wantAll) 0 0:=by rw [reachL,if_pos h0,hge]
 rw [← hge] at hg
 rw [hgv,hrl,h0]
 have hfew:=hg.few
 have hre:=reachedW g 64 [] wantAll hg allW
 obtain ⟨R,hR⟩:∃ R,R=reachM g wantAll:=⟨_,rfl⟩
 have hRl:R.length=g.length+1:=by rw [hR];exact reachM_len g _
 rw [← hR] at hre ⊢
 conv=>whnf
 repeat (refine QCall.k0 (hre) ?_;conv=>whnf)
 refine sloop rfl mixed [8,21,22,23] [] (fun m r h=>∃ (i:Nat) (far:Nat),r=[(8,[],.int .i64 far),(21,[],.sl 1 none (R.map encB)),(22,[],.int .i64 (R.map encB).length),(23,[],.int .i64 i)]∧h=[]∧m=R.length - i∧i≤R.length∧lastT R 0 0=lastT (R.drop i) i far) ?_ ?_
 ·conv=>whnf
  exact ⟨_,0,0,rfl,rfl,rfl,by omega,rfl⟩
 ·rintro m r h ⟨i,far,rfl,rfl,rfl,hi,hfo⟩
  conv=>whnf
  refine ⟨fun hi2=>?_,fun hi2=>?_⟩<;>simp at hi2
  ·obtain ⟨b,hb⟩:=get_lt hi2
   rw [drop_cons hb,lastT] at hfo
   conv=>whnf
   repeat (refine ix (by assumption) ?_;conv=>whnf)
   refine ⟨fun hq=>?_,fun hq=>?_⟩
   ·rw [if_pos hq] at hfo
    conv=>whnf
    repeat (refine ⟨gP_of ⟨by omega,by omega⟩,?_⟩;conv=>whnf)
    exact ⟨_,by omega,i+1,i,rfl,rfl,rfl,by omega,hfo⟩
   ·rw [if_neg (by rw [hq];decide)] at hfo
    conv=>whnf
    repeat (refine ⟨gP_of ⟨by omega,by omega⟩,?_⟩;conv=>whnf)
    exact ⟨_,by omega,i+1,far,rfl,rfl,rfl,by omega,hfo⟩
  ·rw [drop_nil hi2,lastT] at hfo
   conv=>whnf
   skip
   exact ⟨by rw [hfo],rfl⟩
end Go.Abs.Wall
