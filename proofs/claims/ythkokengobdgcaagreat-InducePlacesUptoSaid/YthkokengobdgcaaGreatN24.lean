/- What is proved: small laws for the walks of this seat, and contracts of its functions. No condition but those each theorem names. -/
import Derived.Test.YthkokengobdgcaaGreatN23
import Derived.Test.YthkokengobdgcaaGreatN17
set_option maxRecDepth 100000
set_option maxHeartbeats 2000000
set_option linter.unusedVariables false
set_option linter.unusedSimpArgs false
namespace Go.Abs.Wall.Lst
open Go Go.Abs Go.Proofs Go.Abs.Wall
def lnks (g:List (List Edg)):List (List Lnk):=g.map fun es=>es.map lnkOf
structure EFit (g:List (List Edg)):Prop where
 ok:LOK (lnks g)
 few:g.length≤1048576
 row:∀ es∈g,es.length≤1048576
def c81:Cfg:=⟨[0,1,4,5,9,17],[],[],[],[],[]⟩
def c74:Cfg:=⟨[0,1,4,5,9,40],[],[],[],[(4,[0,1,2,3,4,5,6,7,8,9,10,11,12,13,14,15,16,17,18,19,20,21,22,23,24,25,26,27,28],[])],[]⟩
def c62:Cfg:=⟨[0,1,2,4,5,6,8,12,16,20,33],[],[],[],[(9,[0,1,2,3,4,5,6,7,8,9,10],[])],[]⟩
def c78:Cfg:=⟨[0,1,2,3,6,7,12,20],[],[],[],[],[]⟩
theorem refHas (l:List Int) (n:Int) (hl:l.length≤LMAX):QCall Tryz.prog 81 [.sl 1 none (ints l),.int .i64 n] [] (.bool (memW l n)):=by
 refine fcalls (F:=Tryz.f81) c81 rfl rfl rfl mixed rfl fun X=>?_
 conv=>whnf
 unfold LMAX at hl
 skip
 refine sloop rfl mixed [0,1,5] [] (fun m r h=>∃ (i:Nat),r=[(0,[],.sl 1 none (ints l)),(1,[],.int .i64 n),(5,[],.int .i64 i)]∧h=[]∧m=l.length - i∧i≤l.length∧(memW l n=memW (l.drop i) n)) ?_ ?_
 ·conv=>whnf
  exact ⟨_,0,rfl,rfl,rfl,by omega,rfl⟩
 ·rintro m r h ⟨i,rfl,rfl,rfl,hi,hg⟩
  conv=>whnf
  skip
  refine ⟨fun hc=>?_,fun hc=>?_⟩<;>simp at hc
  ·obtain ⟨x,hx⟩:=get_lt hc
   rw [drop_cons hx] at hg
   conv=>whnf
   repeat (refine ix (by assumption) ?_;conv=>whnf)
   refine ⟨fun hd=>?_,fun hd=>?_⟩<;>simp at hd
   ·conv=>whnf
    skip
    refine ⟨congrArg AV.bool ?_,rfl⟩
    rw [hg]
    unfold memW
    simp [hd]
   ·conv=>whnf
    repeat (refine ⟨gP_of ⟨by omega,by omega⟩,?_⟩;conv=>whnf)
    refine ⟨_,by omega,i+1,rfl,rfl,rfl,by omega,?_⟩
    rw [hg]
    unfold memW
    have:¬ n=x:=fun e=>hd e.symm
    simp [this]
  ·rw [drop_nil hc] at hg
   conv=>whnf
   skip
   exact ⟨congrArg AV.bool (by rw [hg];rfl),rfl⟩
theorem refChoice (l:List Int) (n:Int) (hl:l.length≤LMAX) (hn:0≤n∧n≤140737488355328):QCall Tryz.prog 74 [.sl 1 none (ints l),.int .i64 n] [] (.bool (risM l n)):=by
 refine fcalls (F:=Tryz.f74) c74 rfl rfl rfl mixed rfl fun X=>?_
 conv=>whnf
 unfold LMAX at hl
 skip
 refine sloop rfl mixed [0,1,5] [] (fun m r h=>∃ (i:Nat) (last:Int),r=[(0,[],.sl 1 none (ints l)),(1,[],.int .i64 n),(5,[],.int .i64 i)]∧h=[]∧m=l.length - i∧i≤l.length∧risM l n=risGo (l.drop i) n last∧((i=0∧last = -1)∨(0<i∧l[i - 1]?=some last))) ?_ ?_
 ·conv=>whnf
  exact ⟨_,0,-1,rfl,rfl,rfl,by omega,rfl,.inl ⟨rfl,rfl⟩⟩
 ·rintro m r h ⟨i,last,rfl,rfl,rfl,hi,hg,hla⟩
  conv=>whnf
  skip
  refine ⟨fun hc=>?_,fun hc=>?_⟩<;>simp at hc
  ·obtain ⟨x,hx⟩:=get_lt hc
   rw [drop_cons hx,risGo] at hg
   have hcond:((decide (x<0)||decide (n≤x))||(decide (0<(i:Int))&&decide (x≤l.getD ((i:Int) - 1).toNat 0)))=!(decide (0≤x)&&decide (x≤n - 1)&&decide (last<x)):=by
    rcases hla with ⟨rfl,rfl⟩|⟨h0,h1⟩
    ·rw [Bool.eq_iff_iff];simp;omega
    ·rw [show ((i:Int) - 1).toNat=i - 1 by omega,getD_of h1,Bool.eq_iff_iff]
     simp
     omega
   conv=>whnf
   repeat ((first|refine ⟨gP_of ⟨by omega,by omega⟩,?_⟩|refine ix (by assumption) ?_|(refine ixg (enc:=fun n=>[AV.int .i64 n]) (0:Int) ?_ ?_;(focus (conv=>whnf;skip));(focus (intro g0 g1;simp only [decide_eq_true_eq] at g1;show 0≤(i:Int) - 1∧(i:Int) - 1<(l.length:Int);omega)))|refine And.intro (by show drawOK (opsAt Tryz.f74 _) _=true;decide +kernel) ?_);conv=>whnf)
   refine ⟨fun hq=>?_,fun hq=>?_⟩
   ·have hq:=hcond.symm.trans hq
    rw [Bool.not_eq_true'] at hq
    rw [hq,Bool.false_and] at hg
    conv=>whnf
    skip
    exact ⟨congrArg AV.bool hg.symm,rfl⟩
   ·have hq:=hcond.symm.trans hq
    rw [Bool.not_eq_false'] at hq
    rw [hq,Bool.true_and] at hg
    conv=>whnf
    repeat (refine ⟨gP_of ⟨by omega,by omega⟩,?_⟩;conv=>whnf)
    exact ⟨_,by omega,i+1,x,rfl,rfl,rfl,by omega,hg,.inr ⟨by omega,by rw [Nat.add_sub_cancel];exact hx⟩⟩
  ·rw [drop_nil hc,risGo] at hg
   conv=>whnf
   skip
   exact ⟨congrArg AV.bool hg.symm,rfl⟩
theorem refCheckC (H:Hou) (lines:List (List Int)) (hf:CorFit H lines):QCall Tryz.prog 62 [.agg (encHou H),.sl 1 none (lines.map encIs)] [] (.int .i64 (corErr H lines)):=by
 have hll:=hf.lines
 refine fcalls (F:=Tryz.f62) c62 rfl rfl rfl mixed rfl fun X=>?_
 conv=>whnf
 repeat (refine QCall.k0 (refHouse H hf.hou) ?_;conv=>whnf)
 refine ⟨fun h0=>?_,fun h0=>?_⟩<;>simp at h0
 ·have he:corErr H lines=houErr H:=by rw [corErr,if_pos h0]
  conv=>whnf
  skip
  exact ⟨by rw [he],rfl⟩
 conv=>whnf
 skip
 refine ⟨fun h1=>?_,fun h1=>?_⟩<;>simp at h1
 ·have he:corErr H lines=2:=by rw [corErr,if_neg (by omega),if_pos (by omega)]
  conv=>whnf
  skip
  exact ⟨by rw [he],rfl⟩
 have hce:corErr H lines=growsE H lines:=by rw [corErr,if_neg (by omega),if_neg (by omega)]
 conv=>whnf
 skip
 refine sloop rfl mixed [1,2,6] [] (fun m r h=>∃ (i:Nat),r=[(1,[],.sl 1 none (lines.map encIs)),(2,[],.iptr (encHou H)),(6,[],.int .i64 i)]∧h=[]∧m=lines.length - i∧i≤lines.length∧growsE H lines=growsE H (lines.drop i)) ?_ ?_
 ·conv=>whnf
  exact ⟨_,0,rfl,rfl,rfl,by omega,rfl⟩
 ·rintro m r h ⟨i,rfl,rfl,rfl,hi,hge⟩
  conv=>whnf
  skip
  refine ⟨fun hi2=>?_,fun hi2=>?_⟩<;>simp at hi2
  ·obtain ⟨line,hline⟩:=get_lt hi2
   have hre:=refReach H line hf.hou (hf.line line (List.mem_of_getElem? hline))
   rw [drop_cons hline,growsE] at hge
   conv=>whnf
   repeat ((first|refine ix (by assumption) ?_|refine gcall (hre) ?_|refine And.intro (by show drawOK (opsAt Tryz.f62 _) _=true;decide +kernel) ?_);conv=>whnf)
   refine ⟨fun h2=>?_,fun h2=>?_⟩<;>simp at h2
   ·rw [if_pos h2] at hge
    conv=>whnf
    skip
    exact ⟨by rw [hce,hge],rfl⟩
   ·rw [if_neg (by omega)] at hge
    conv=>whnf
    repeat (refine ⟨gP_of ⟨by omega,by omega⟩,?_⟩;conv=>whnf)
    exact ⟨_,by omega,i+1,rfl,rfl,rfl,by omega,hge⟩
  ·rw [drop_nil hi2,growsE] at hge
   conv=>whnf
   skip
   exact ⟨by rw [hce,hge],rfl⟩
end Go.Abs.Wall.Lst
namespace Go.Abs.Wall.Lst
open Go Go.Abs Go.Proofs Go.Abs.Wall
theorem refKept (H:Hou) (lines:List (List Int)) (keep:List Int) (hf:CorFit H lines) (hk:keep.length≤1048576) :
  QCall Tryz.prog 78 [.agg (encHou H),.sl 1 none (lines.map encIs),.sl 1 none (ints keep)] [] (.int .i64 (begErr H lines keep)):=by
 have hN:=hf.hou.lex.entries
 refine fcalls (F:=Tryz.f78) c78 rfl rfl rfl mixed rfl fun X=>?_
 conv=>whnf
 repeat (refine QCall.k0 (refCheckC H lines hf) ?_;conv=>whnf)
 refine ⟨fun h0=>?_,fun h0=>?_⟩<;>simp at h0
 ·have he:begErr H lines keep=corErr H lines:=by rw [begErr,if_pos h0]
  conv=>whnf
  skip
  exact ⟨by rw [he],rfl⟩
 have hr:=refChoice keep H.lex.entries.length (by unfold LMAX;omega) ⟨by omega,by unfold LMAX at hN;omega⟩
 rw [← List.length_map (f:=encEnt)] at hr
 conv=>whnf
 repeat (refine QCall.k0 (hr) ?_;conv=>whnf)
 refine ⟨fun h1=>?_,fun h1=>?_⟩
 ·have h1:(!risM keep ((H.lex.entries.map encEnt).length:Int))=true:=h1
  rw [List.length_map,Bool.not_eq_true'] at h1
  have he:begErr H lines keep=1:=by rw [begErr,if_neg (by omega),if_neg (by rw [h1];decide)]
  conv=>whnf
  skip
  exact ⟨by rw [he],rfl⟩
 ·have h1:(!risM keep ((H.lex.entries.map encEnt).length:Int))=false:=h1
  rw [List.length_map,Bool.not_eq_false'] at h1
  have he:begErr H lines keep=0:=by rw [begErr,if_neg (by omega),if_pos h1]
  conv=>whnf
  skip
  exact ⟨by rw [he],rfl⟩
theorem keepL_len (N:Nat) (w:Int→Bool):(keepL N w).length≤N:=by
 unfold keepL
 rw [List.length_map]
 exact filter_len N
end Go.Abs.Wall.Lst
