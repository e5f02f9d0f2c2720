/- What is proved: small laws for the walks of this seat, and contracts of its functions. No condition but those each theorem names. -/
import Derived.Test.YthkokengobdgcaaGreatN23
import Derived.Test.YthkokengobdgcaaGreatN17
set_option maxRecDepth 100000
set_option maxHeartbeats 2000000
set_option linter.unusedVariables false
set_option linter.unusedSimpArgs false
namespace Go.Abs.Wall.Lst
open Go Go.Abs Go.Proofs Go.Abs.Wall
def encGE (g:List (List Edg)):List AV:=[.sl 1 none (g.map encEdgs)]
def encWld (H:Hou) (G:List (List (List Edg))):List AV:=encHou H++[.sl 1 none (G.map encGE)]
def lnks (g:List (List Edg)):List (List Lnk):=g.map fun es=>es.map lnkOf
structure EFit (g:List (List Edg)):Prop where
 ok:LOK (lnks g)
 few:g.length≤1048576
 row:∀ es∈g,es.length≤1048576
def c81:Cfg:=⟨[0,1,4,5,9,17],[],[],[],[],[]⟩
def c66:Cfg:=⟨[0,1,4,5,6,10,18],[],[],[],[],[]⟩
def c64:Cfg:=⟨[0,2,3,4,7],[],[],[],[],[]⟩
def c74:Cfg:=⟨[0,1,4,5,9,40],[],[],[],[(4,[0,1,2,3,4,5,6,7,8,9,10,11,12,13,14,15,16,17,18,19,20,21,22,23,24,25,26,27,28],[])],[]⟩
def c62:Cfg:=⟨[0,1,2,4,5,6,8,12,16,20,33],[],[],[],[(9,[0,1,2,3,4,5,6,7,8,9,10],[])],[]⟩
def c63:Cfg:=⟨[0,1,2,4,5,6,7,15],[11],[],[],[(5,[0,1,2,3,4,5,6,7,8,9,10],[])],[]⟩
def c79:Cfg:=⟨[0,1,2,6,7,8,9,10,27,42,56],[],[],[],[],[]⟩
def c65:Cfg:=⟨[0,1,4,5,12,19],[],[],[],[],[]⟩
def c67:Cfg:=⟨[0,1,2,6,7,8,15,30],[],[],[],[],[]⟩
theorem refHas (l:List Int) (n:Int) (hl:l.length≤LMAX):QCall Tryz.prog 81 [.sl 1 none (ints l),.int .i64 n] [] (.bool (memW l n)):=by
 refine fcalls (F:=Tryz.f81) c81 rfl rfl rfl mixed rfl fun X=>?_
 conv=>whnf
 unfold LMAX at hl
 skip
 refine sloop rfl mixed [0,1,5] [] (fun m r h=>∃ (i:Nat),r=[(0,[],.sl 1 none (ints l)),(1,[],.int .i64 n),(5,[],.int .i64 i)]∧h=[]∧m=l.length - i∧i≤l.length∧(memW l n=memW (l.drop i) n)) ?_ ?_
 ·conv=>whnf
  exact ⟨_,0,rfl,rfl,rfl,by omega,rfl⟩
 ·rintro m r h ⟨i,rfl,rfl,rfl,hi,hg⟩
  conv=>whnf
  skip
  refine ⟨fun hc=>?_,fun hc=>?_⟩<;>simp at hc
  ·obtain ⟨x,hx⟩:=get_lt hc
   rw [drop_cons hx] at hg
   conv=>whnf
   repeat (refine ix (by assumption) ?_;conv=>whnf)
   refine ⟨fun hd=>?_,fun hd=>?_⟩<;>simp at hd
   ·conv=>whnf
    skip
    refine ⟨congrArg AV.bool ?_,rfl⟩
    rw [hg]
    unfold memW
    simp [hd]
   ·conv=>whnf
    repeat (refine ⟨gP_of ⟨by omega,by omega⟩,?_⟩;conv=>whnf)
    refine ⟨_,by omega,i+1,rfl,rfl,rfl,by omega,?_⟩
    rw [hg]
    unfold memW
    have:¬ n=x:=fun e=>hd e.symm
    simp [this]
  ·rw [drop_nil hc] at hg
   conv=>whnf
   skip
   exact ⟨congrArg AV.bool (by rw [hg];rfl),rfl⟩
theorem filter_snocI {p:Int→Bool} {l:List Int} {i:Nat} {x:Int} (h:l[i]?=some x):(l.take (i+1)).filter p=(l.take i).filter p++(if p x=true then [x] else []):=by
 rw [take_snoc h,List.filter_append,List.filter_cons]
 split<;>simp
theorem refWithout (l:List Int) (n:Int) (hl:l.length≤1048576):QCall Tryz.prog 66 [.sl 1 none (ints l),.int .i64 n] [] (.sl 1 none (ints (l.filter fun x=>!decide (x=n)))):=by
 refine QCall.of ?_
 obtain ⟨p,hp⟩:∃ p:Int→Bool,p=fun x=>!decide (x=n):=⟨_,rfl⟩
 rw [← hp]
 refine fcalls (F:=Tryz.f66) c66 rfl rfl rfl mixed rfl fun X=>?_
 conv=>whnf
 skip
 refine tloop rfl mixed [0,1,5,6] [] (fun m r h=>∃ (i:Nat) (ov:AV) (oh:Heap),r=[(0,[],.sl 1 none (ints l)),(1,[],.int .i64 n),(5,[],ov),(6,[],.int .i64 i)]∧h=oh∧m=l.length - i∧i≤l.length∧Out 1 (fun n=>[AV.int .i64 n]) ((l.take i).filter p) ov oh) ?_ ?_
 ·conv=>whnf
  exact ⟨_,_,Turn.refl _ _,_,0,.nilS,[],rfl,rfl,rfl,by omega,.inl ⟨rfl,rfl,rfl⟩⟩
 ·rintro m r h' ⟨i,ov,oh,rfl,rfl,rfl,hi,ho⟩
  have hol:((l.take i).filter p).length≤1048576:=by have:=List.length_filter_le p (l.take i);rw [List.length_take] at this;omega
  conv=>whnf
  skip
  refine ⟨fun hi2=>?_,fun hi2=>?_⟩<;>simp at hi2
  ·obtain ⟨x,hx⟩:=get_lt hi2
   have hsn:=filter_snocI (p:=p) hx
   have hpx:p x=!decide (x=n):=by rw [hp]
   conv=>whnf
   repeat (refine ix (by assumption) ?_;conv=>whnf)
   refine ⟨fun hq=>?_,fun hq=>?_⟩
   ·have hq:p x=true:=hpx.trans hq
    rw [if_pos hq] at hsn
    rcases ho with ⟨he,rfl,rfl⟩|⟨q,rfl,rfl⟩
    all_goals
     conv=>whnf
     repeat ((first|refine ⟨gP_of ⟨by omega,by omega⟩,?_⟩|refine ix (by assumption) ?_|(refine ⟨Nat.le_of_ble_eq_true rfl,fun q'=>?_⟩)|(refine ⟨(by rw [List.length_append,List.length_map];simp at hol ⊢;unfold AMAX;omega),fun q'=>⟨_,.here _,?_⟩⟩));conv=>whnf)
     refine ⟨_,_,Turn.refl _ _,_,(by omega),i+1,_,[(q',.tok)],rfl,rfl,rfl,by omega,.inr ⟨q',?_,rfl⟩⟩
     rw [hsn,List.map_append]
     first|done|rfl|(rw [he];done)|(rw [he];rfl)
   ·have hq:p x=false:=hpx.trans hq
    rw [if_neg (by rw [hq];decide),List.append_nil] at hsn
    conv=>whnf
    repeat (refine ⟨gP_of ⟨by omega,by omega⟩,?_⟩;conv=>whnf)
    exact ⟨_,_,Turn.refl _ _,_,(by omega),i+1,_,_,rfl,rfl,rfl,by omega,by rw [hsn];exact ho⟩
  ·rw [List.take_of_length_le hi2] at ho
   conv=>whnf
   skip
   exact ho.le (by decide)
theorem refEvery (N:Nat) (hN:N≤1048576):QCall Tryz.prog 64 [.int .i64 N] [] (.sl 1 none (ints (keepL N everyW))):=by
 have hk:keepL N everyW=(List.range N).map fun i:Nat=>(i:Int):=by
  unfold keepL
  rw [show (List.range N).filter (keepF everyW)=List.range N from List.filter_eq_self.2 fun a _=>rfl]
 rw [hk,ints_nat]
 refine QCall.of ?_
 refine fcalls (F:=Tryz.f64) c64 rfl rfl rfl mixed rfl fun X=>?_
 conv=>whnf
 skip
 refine tloop rfl mixed [0,3,4] [] (fun m r h=>∃ (i:Nat) (ov:AV) (oh:Heap),r=[(0,[],.int .i64 N),(3,[],ov),(4,[],.int .i64 i)]∧h=oh∧m=N - i∧i≤N∧Out 1 encNat (List.range i) ov oh) ?_ ?_
 ·conv=>whnf
  exact ⟨_,_,Turn.refl _ _,_,0,.nilS,[],rfl,rfl,rfl,by omega,.inl ⟨rfl,rfl,rfl⟩⟩
 ·rintro m r h' ⟨i,ov,oh,rfl,rfl,rfl,hi,ho⟩
  conv=>whnf
  skip
  refine ⟨fun hi2=>?_,fun hi2=>?_⟩<;>simp at hi2
  ·rcases ho with ⟨he,rfl,rfl⟩|⟨q,rfl,rfl⟩
   all_goals
    conv=>whnf
    repeat ((first|refine ⟨gP_of ⟨by omega,by omega⟩,?_⟩|(refine ⟨Nat.le_of_ble_eq_true rfl,fun q'=>?_⟩)|(refine ⟨(by rw [List.length_append,List.length_map];simp;unfold AMAX;omega),fun q'=>⟨_,.here _,?_⟩⟩));conv=>whnf)
    refine ⟨_,_,Turn.refl _ _,_,(by omega),i+1,_,[(q',.tok)],rfl,rfl,rfl,by omega,.inr ⟨q',?_,rfl⟩⟩
    rw [List.range_succ,List.map_append]
    first|done|rfl|(rw [he];done)|(rw [he];rfl)
  ·have:i=N:=by omega
   subst this
   conv=>whnf
   skip
   exact ho.le (by decide)
theorem refChoice (l:List Int) (n:Int) (hl:l.length≤LMAX) (hn:0≤n∧n≤140737488355328):QCall Tryz.prog 74 [.sl 1 none (ints l),.int .i64 n] [] (.bool (risM l n)):=by
 refine fcalls (F:=Tryz.f74) c74 rfl rfl rfl mixed rfl fun X=>?_
 conv=>whnf
 unfold LMAX at hl
 skip
 refine sloop rfl mixed [0,1,5] [] (fun m r h=>∃ (i:Nat) (last:Int),r=[(0,[],.sl 1 none (ints l)),(1,[],.int .i64 n),(5,[],.int .i64 i)]∧h=[]∧m=l.length - i∧i≤l.length∧risM l n=risGo (l.drop i) n last∧((i=0∧last = -1)∨(0<i∧l[i - 1]?=some last))) ?_ ?_
 ·conv=>whnf
  exact ⟨_,0,-1,rfl,rfl,rfl,by omega,rfl,.inl ⟨rfl,rfl⟩⟩
 ·rintro m r h ⟨i,last,rfl,rfl,rfl,hi,hg,hla⟩
  conv=>whnf
  skip
  refine ⟨fun hc=>?_,fun hc=>?_⟩<;>simp at hc
  ·obtain ⟨x,hx⟩:=get_lt hc
   rw [drop_cons hx,risGo] at hg
   have hcond:((decide (x<0)||decide (n≤x))||(decide (0<(i:Int))&&decide (x≤l.getD ((i:Int) - 1).toNat 0)))=!(decide (0≤x)&&decide (x≤n - 1)&&decide (last<x)):=by
    rcases hla with ⟨rfl,rfl⟩|⟨h0,h1⟩
    ·rw [Bool.eq_iff_iff];simp;omega
    ·rw [show ((i:Int) - 1).toNat=i - 1 by omega,getD_of h1,Bool.eq_iff_iff]
     simp
     omega
   conv=>whnf
   repeat ((first|refine ⟨gP_of ⟨by omega,by omega⟩,?_⟩|refine ix (by assumption) ?_|(refine ixg (enc:=fun n=>[AV.int .i64 n]) (0:Int) ?_ ?_;(focus (conv=>whnf;skip));(focus (intro g0 g1;simp only [decide_eq_true_eq] at g1;show 0≤(i:Int) - 1∧(i:Int) - 1<(l.length:Int);omega)))|refine And.intro (by show drawOK (opsAt Tryz.f74 _) _=true;decide +kernel) ?_);conv=>whnf)
   refine ⟨fun hq=>?_,fun hq=>?_⟩
   ·have hq:=hcond.symm.trans hq
    rw [Bool.not_eq_true'] at hq
    rw [hq,Bool.false_and] at hg
    conv=>whnf
    skip
    exact ⟨congrArg AV.bool hg.symm,rfl⟩
   ·have hq:=hcond.symm.trans hq
    rw [Bool.not_eq_false'] at hq
    rw [hq,Bool.true_and] at hg
    conv=>whnf
    repeat (refine ⟨gP_of ⟨by omega,by omega⟩,?_⟩;conv=>whnf)
    exact ⟨_,by omega,i+1,x,rfl,rfl,rfl,by omega,hg,.inr ⟨by omega,by rw [Nat.add_sub_cancel];exact hx⟩⟩
  ·rw [drop_nil hc,risGo] at hg
   conv=>whnf
   skip
   exact ⟨congrArg AV.bool hg.symm,rfl⟩
theorem refCheckC (H:Hou) (lines:List (List Int)) (hf:CorFit H lines):QCall Tryz.prog 62 [.agg (encHou H),.sl 1 none (lines.map encIs)] [] (.int .i64 (corErr H lines)):=by
 have hll:=hf.lines
 refine fcalls (F:=Tryz.f62) c62 rfl rfl rfl mixed rfl fun X=>?_
 conv=>whnf
 repeat (refine QCall.k0 (refHouse H hf.hou) ?_;conv=>whnf)
 refine ⟨fun h0=>?_,fun h0=>?_⟩<;>simp at h0
 ·have he:corErr H lines=houErr H:=by rw [corErr,if_pos h0]
  conv=>whnf
  skip
  exact ⟨by rw [he],rfl⟩
 conv=>whnf
 skip
 refine ⟨fun h1=>?_,fun h1=>?_⟩<;>simp at h1
 ·have he:corErr H lines=2:=by rw [corErr,if_neg (by omega),if_pos (by omega)]
  conv=>whnf
  skip
  exact ⟨by rw [he],rfl⟩
 have hce:corErr H lines=growsE H lines:=by rw [corErr,if_neg (by omega),if_neg (by omega)]
 conv=>whnf
 skip
 refine sloop rfl mixed [1,2,6] [] (fun m r h=>∃ (i:Nat),r=[(1,[],.sl 1 none (lines.map encIs)),(2,[],.iptr (encHou H)),(6,[],.int .i64 i)]∧h=[]∧m=lines.length - i∧i≤lines.length∧growsE H lines=growsE H (lines.drop i)) ?_ ?_
 ·conv=>whnf
  exact ⟨_,0,rfl,rfl,rfl,by omega,rfl⟩
 ·rintro m r h ⟨i,rfl,rfl,rfl,hi,hge⟩
  conv=>whnf
  skip
  refine ⟨fun hi2=>?_,fun hi2=>?_⟩<;>simp at hi2
  ·obtain ⟨line,hline⟩:=get_lt hi2
   have hre:=refReach H line hf.hou (hf.line line (List.mem_of_getElem? hline))
   rw [drop_cons hline,growsE] at hge
   conv=>whnf
   repeat ((first|refine ix (by assumption) ?_|refine gcall (hre) ?_|refine And.intro (by show drawOK (opsAt Tryz.f62 _) _=true;decide +kernel) ?_);conv=>whnf)
   refine ⟨fun h2=>?_,fun h2=>?_⟩<;>simp at h2
   ·rw [if_pos h2] at hge
    conv=>whnf
    skip
    exact ⟨by rw [hce,hge],rfl⟩
   ·rw [if_neg (by omega)] at hge
    conv=>whnf
    repeat (refine ⟨gP_of ⟨by omega,by omega⟩,?_⟩;conv=>whnf)
    exact ⟨_,by omega,i+1,rfl,rfl,rfl,by omega,hge⟩
  ·rw [drop_nil hi2,growsE] at hge
   conv=>whnf
   skip
   exact ⟨by rw [hce,hge],rfl⟩
theorem wldSet (H:Hou) (a b:AV):setC (encHou H++[a]) 11 [b]=encHou H++[b]:=rfl
theorem refWorld (H:Hou) (lines:List (List Int)) (hf:CorFit H lines) (h0:corErr H lines=0):QCall Tryz.prog 63 [.agg (encHou H),.sl 1 none (lines.map encIs)] [] (.iptr (encWld H (lines.map (graphM H)))):=by
 have hll:=hf.lines
 obtain ⟨_,_,hz⟩:=corErr_zero h0
 refine QCall.of (ACalls.frz (R:=fun v h'=>∃ fb gv gh,v=.optr fb 0∧Out 1 encGE (lines.map (graphM H)) gv gh∧h'=(fb,.vec (encHou H++[gv]))::gh) ?_ ?_)
 ·refine fcalls (F:=Tryz.f63) c63 rfl rfl rfl mixed rfl fun X=>?_
  conv=>whnf
  repeat ((intro (fb:Nat));conv=>whnf)
  refine tloop rfl mixed [1,2,5,6] [] (fun m r h=>∃ (i:Nat) (gv:AV) (gh:Heap),r=[(1,[],.sl 1 none (lines.map encIs)),(2,[],.iptr (encHou H)),(5,[],.optr fb 0),(6,[],.int .i64 i)]∧h=(fb,.vec (encHou H++[gv]))::gh∧m=lines.length - i∧i≤lines.length∧Out 1 encGE ((lines.take i).map (graphM H)) gv gh) ?_ ?_
  ·conv=>whnf
   exact ⟨_,_,Turn.refl _ _,_,0,.nilS,[],rfl,rfl,rfl,by omega,.inl ⟨rfl,rfl,rfl⟩⟩
  ·rintro m r h' ⟨i,gv,gh,rfl,rfl,rfl,hi,ho⟩
   have hol:((lines.take i).map (graphM H)).length≤1048576:=by rw [List.length_map,List.length_take];omega
   conv=>whnf
   skip
   refine ⟨fun hi2=>?_,fun hi2=>?_⟩<;>simp at hi2
   ·obtain ⟨line,hline⟩:=get_lt hi2
    have hgz:=hz line (List.mem_of_getElem? hline)
    have hgr:=refGraph H line hf.hou (hf.line line (List.mem_of_getElem? hline))
    rw [graphL,hgz,if_pos rfl] at hgr
    have htk:(lines.take (i+1)).map (graphM H)=(lines.take i).map (graphM H)++[graphM H line]:=by rw [take_snoc hline,List.map_append];rfl
    rcases ho with ⟨he,rfl,rfl⟩|⟨q,rfl,rfl⟩
    all_goals
     conv=>whnf
     repeat ((first|refine ⟨gP_of ⟨by omega,by omega⟩,?_⟩|refine ix (by assumption) ?_|refine gcall (hgr) ?_|(refine ⟨Nat.le_of_ble_eq_true rfl,fun q'=>?_⟩)|(refine ⟨(by rw [List.length_append,List.length_map];simp at hol ⊢;unfold AMAX;omega),fun q'=>⟨_,.there (.here _),?_⟩⟩)|refine ⟨_,_,.head _,rfl,?_⟩|refine ⟨_,_,.here _,leOK,?_⟩|refine ⟨_,_,.there (.here _),leOK,?_⟩|refine And.intro (by show drawOK (opsAt Tryz.f63 _) _=true;decide +kernel) ?_);conv=>whnf)
     rw [show ∀ a b,setC (encHou H++[a]) (0+_) [b]=encHou H++[b] from wldSet H]
     first
      | refine ⟨_,_,Turn.perm (.swap _ _ _),_,(by omega),i+1,_,[(q',.tok)],rfl,rfl,rfl,by omega,.inr ⟨q',by rw [htk,he];rfl,rfl⟩⟩
      | refine ⟨_,_,Turn.refl _ _,_,(by omega),i+1,_,[(q',.tok)],rfl,rfl,rfl,by omega,.inr ⟨q',by rw [htk,List.map_append];rfl,rfl⟩⟩
   ·rw [List.take_of_length_le hi2] at ho
    conv=>whnf
    skip
    exact ⟨fb,gv,gh,rfl,ho,rfl⟩
 ·rintro v h1 ⟨fb,gv,gh,rfl,ho,rfl⟩
  exact ⟨fb,_,gh,gh,_,.here _,FzH.refl _,.ptr rfl,VLe.iptr (VsLe.pre (.cons (ho.le (by decide)) .nil) (encHou H))⟩
theorem refReadable {H:Hou} {G:List (List (List Edg))} {i:Nat} {g:List (List Edg)} (hi:G[i]?=some g) (hgf:EFit g) (keep:List Int) (hk:keep.length≤LMAX) :
  QCall Tryz.prog 79 [.iptr (encWld H G),.int .i64 i,.sl 1 none (ints keep)] [] (.bool (rdM (memW keep) (lnks g))):=by
 have hg:=hgf.ok
 have hn:=hgf.few
 have hll:(lnks g).length=g.length:=by unfold lnks;rw [List.length_map]
 refine ACalls.cutT ?_
 refine fcalls (F:=Tryz.f79) c79 rfl rfl rfl mixed rfl fun X=>?_
 conv=>whnf
 repeat ((first|refine ix (by assumption) ?_|(refine ⟨gP_of ⟨by rw [List.length_map];omega,by rw [List.length_map];omega⟩,?_⟩)|(refine ⟨⟨rfl,by rw [List.length_map];omega,by rw [List.length_map];omega⟩,fun b=>?_⟩));conv=>whnf)
 rw [boolRow0,show (((g.map encEdgs).length:Int)+1).toNat=g.length+1 by rw [List.length_map];omega]
 repeat ((first|(refine ixo (i:=0) (by omega) ?_)|(refine stE true (by decide) encB_len (i:=0) (by simp) (Nat.zero_add _) rfl (.here _) ?_));conv=>whnf)
 obtain ⟨w,hw⟩:∃ w,w=memW keep:=⟨_,rfl⟩
 rw [← hw]
 obtain ⟨l0,hl0⟩:∃ l,l=(List.replicate (g.length+1) false).set 0 true:=⟨_,rfl⟩
 have hrm:rdL w (lnks g)=rdGo w (lnks g) 0 l0:=by rw [hl0,rdL,hll]
 rw [← hl0]
 refine sloop rfl mixed [2,7,8,9] [] (fun m r h=>∃ (i:Nat) (l:List Bool),r=[(2,[],.sl 1 none (ints keep)),(7,[],.sl 1 none (g.map encEdgs)),(8,[],.osl b 0 (g.length+1) 1),(9,[],.int .i64 i)]∧h=[(b,.vec (l.map encB).flatten)]∧m=g.length - i∧i≤g.length∧l.length=g.length+1∧rdGo w (lnks g) 0 l0=rdGo w ((lnks g).drop i) i l) ?_ ?_
 ·conv=>whnf
  exact ⟨_,0,l0,rfl,rfl,rfl,by omega,by rw [hl0];simp,rfl⟩
 ·rintro m r h ⟨i,l,rfl,rfl,rfl,hi,hl,hgo⟩
  conv=>whnf
  skip
  refine ⟨fun hi2=>?_,fun hi2=>?_⟩<;>simp at hi2
  ·obtain ⟨es,hes⟩:=get_lt hi2
   have hmany:=hgf.row es (List.mem_of_getElem? hes)
   have hes2:(lnks g)[i]?=some (es.map lnkOf):=by unfold lnks;rw [List.getElem?_map,hes];rfl
   rw [drop_cons hes2,rdGo] at hgo
   conv=>whnf
   skip
   refine sloop rfl mixed [2,7,8,9,10] [] (fun m r h=>∃ (k:Nat) (l:List Bool),r=[(2,[],.sl 1 none (ints keep)),(7,[],.sl 1 none (g.map encEdgs)),(8,[],.osl b 0 (g.length+1) 1),(9,[],.int .i64 i),(10,[],.int .i64 k)]∧h=[(b,.vec (l.map encB).flatten)]∧m=es.length - k∧k≤es.length∧l.length=g.length+1∧rdGo w (lnks g) 0 l0=rdGo w ((lnks g).drop (i+1)) (i+1) (mkL w i ((es.map lnkOf).drop k) l)) ?_ ?_
   ·conv=>whnf
    exact ⟨_,0,l,rfl,rfl,rfl,by omega,hl,hgo⟩
   ·clear hgo hl
    rintro m r h ⟨k,l,rfl,rfl,rfl,hk2,hl,hgo⟩
    obtain ⟨li,hli⟩:=get_lt (l:=l) (i:=i) (by omega)
    have hgd:=getD_of (d:=false) hli
    conv=>whnf
    repeat ((first|refine ix (by assumption) ?_|(refine ixo (i:=i) (by omega) ?_)|(refine ldE encB_len (.head _) (Nat.zero_add _) hli ?_));conv=>whnf)
    refine ⟨fun hc=>?_,fun hc=>?_⟩
    ·have hc:(decide ((k:Int)<((es.map encEdg).length:Int))&&li)=true:=hc
     rw [List.length_map,Bool.and_eq_true,decide_eq_true_eq] at hc
     obtain ⟨x,hx⟩:=get_lt (l:=es) (i:=k) (by omega)
     have hx2:(es.map lnkOf)[k]?=some (lnkOf x):=by rw [List.getElem?_map,hx];rfl
     have hxo:=hg i _ hes2 _ (List.mem_of_getElem? hx2)
     rw [hll] at hxo
     have hxo:(i:Int)<x.to∧x.to≤g.length:=hxo
     rw [drop_cons hx2,mkL,hgd,hc.2,Bool.true_and] at hgo
     conv=>whnf
     repeat ((first|refine ix (by assumption) ?_|refine QCall.k0 (refHas keep x.word.form.entry hk) ?_);conv=>whnf)
     refine ⟨fun hq=>?_,fun hq=>?_⟩
     ·have hq:memW keep x.word.form.entry=true:=hq
      rw [if_pos (by rw [hw];exact hq)] at hgo
      conv=>whnf
      repeat ((first|refine ⟨gP_of ⟨by omega,by omega⟩,?_⟩|refine ix (by assumption) ?_|(refine ⟨x.to.toNat,gP_of ⟨by omega,by omega⟩,?_⟩)|(refine stE true (by decide) encB_len (i:=x.to.toNat) (by omega) (Nat.zero_add _) rfl (.here _) ?_));conv=>whnf)
      exact ⟨_,by omega,k+1,_,rfl,rfl,rfl,by omega,by rw [List.length_set];exact hl,hgo⟩
     ·have hq:memW keep x.word.form.entry=false:=hq
      rw [if_neg (by rw [hw];show ¬ memW keep x.word.form.entry=true;rw [hq];decide)] at hgo
      conv=>whnf
      repeat (refine ⟨gP_of ⟨by omega,by omega⟩,?_⟩;conv=>whnf)
      exact ⟨_,by omega,k+1,_,rfl,rfl,rfl,by omega,hl,hgo⟩
    ·have hc:(decide ((k:Int)<((es.map encEdg).length:Int))&&li)=false:=hc
     rw [List.length_map,Bool.and_eq_false_iff,decide_eq_false_iff_not] at hc
     have hm:mkL w i ((es.map lnkOf).drop k) l=l:=by
      rcases hc with hc|hc
      ·rw [drop_nil (by rw [List.length_map];omega)];rfl
      ·exact mkL_off (by rw [hgd,hc])
     rw [hm] at hgo
     conv=>whnf
     repeat (refine ⟨gP_of ⟨by omega,by omega⟩,?_⟩;conv=>whnf)
     exact ⟨_,by omega,i+1,_,rfl,rfl,rfl,by omega,hl,hgo⟩
  ·rw [drop_nil (by rw [hll];exact hi2),rdGo] at hgo
   obtain ⟨lz,hlz⟩:=get_lt (l:=l) (i:=g.length) (by omega)
   conv=>whnf
   repeat ((first|(refine ⟨g.length,gP_of ⟨by rw [List.length_map],by omega⟩,?_⟩)|(refine ldE encB_len (.head _) (Nat.zero_add _) hlz ?_));conv=>whnf)
   refine ⟨congrArg AV.bool ?_,[_],rfl⟩
   unfold rdM
   rw [hrm,hgo,hll,getD_of hlz]
theorem refAll {H:Hou} {G:List (List (List Edg))} (hG:∀ g∈G,EFit g) (hGl:G.length≤1048576) (keep:List Int) (hk:keep.length≤LMAX) :
  QCall Tryz.prog 65 [.iptr (encWld H G),.sl 1 none (ints keep)] [] (.bool (allB (G.map lnks) (memW keep))):=by
 refine fcalls (F:=Tryz.f65) c65 rfl rfl rfl mixed rfl fun X=>?_
 conv=>whnf
 skip
 refine sloop rfl mixed [0,1,5] [] (fun m r h=>∃ (i:Nat),r=[(0,[],.iptr (encWld H G)),(1,[],.sl 1 none (ints keep)),(5,[],.int .i64 i)]∧h=[]∧m=G.length - i∧i≤G.length∧allB (G.map lnks) (memW keep)=((G.map lnks).drop i).all (rdM (memW keep))) ?_ ?_
 ·conv=>whnf
  exact ⟨_,0,rfl,rfl,rfl,by omega,rfl⟩
 ·rintro m r h ⟨i,rfl,rfl,rfl,hi,ha⟩
  conv=>whnf
  skip
  refine ⟨fun hi2=>?_,fun hi2=>?_⟩<;>simp at hi2
  ·obtain ⟨g,hgi⟩:=get_lt hi2
   have hgi2:(G.map lnks)[i]?=some (lnks g):=by rw [List.getElem?_map,hgi];rfl
   have hr:=refReadable (H:=H) hgi (hG g (List.mem_of_getElem? hgi)) keep hk
   rw [drop_cons hgi2,List.all_cons] at ha
   conv=>whnf
   repeat (refine QCall.k0 (hr) ?_;conv=>whnf)
   refine ⟨fun hq=>?_,fun hq=>?_⟩
   ·have hq:(!rdM (memW keep) (lnks g))=true:=hq
    rw [Bool.not_eq_true'] at hq
    rw [hq,Bool.false_and] at ha
    conv=>whnf
    skip
    exact ⟨congrArg AV.bool ha.symm,rfl⟩
   ·have hq:(!rdM (memW keep) (lnks g))=false:=hq
    rw [Bool.not_eq_false'] at hq
    rw [hq,Bool.true_and] at ha
    conv=>whnf
    repeat (refine ⟨gP_of ⟨by omega,by omega⟩,?_⟩;conv=>whnf)
    exact ⟨_,by omega,i+1,rfl,rfl,rfl,by omega,ha⟩
  ·rw [drop_nil (by rw [List.length_map];exact hi2)] at ha
   conv=>whnf
   skip
   exact ⟨congrArg AV.bool ha.symm,rfl⟩
theorem refNeeds {H:Hou} {G:List (List (List Edg))} (hG:∀ g∈G,EFit g) (hGl:G.length≤1048576) (keep:List Int) (hk:keep.length≤1048576) (e:Int) :
  QCall Tryz.prog 67 [.iptr (encWld H G),.sl 1 none (ints keep),.int .i64 e] [] (.sl 1 none (ints (needsM (G.map lnks) (memW keep) e))):=by
 refine QCall.of ?_
 unfold needsM
 rw [ints_nat,List.length_map]
 obtain ⟨p,hp⟩:∃ p,p=needsF (G.map lnks) (memW keep) e:=⟨_,rfl⟩
 rw [← hp]
 refine fcalls (F:=Tryz.f67) c67 rfl rfl rfl mixed rfl fun X=>?_
 conv=>whnf
 skip
 refine tloop rfl mixed [0,1,2,7,8] [] (fun m r h=>∃ (i:Nat) (ov:AV) (oh:Heap),r=[(0,[],.iptr (encWld H G)),(1,[],.sl 1 none (ints keep)),(2,[],.int .i64 e),(7,[],ov),(8,[],.int .i64 i)]∧h=oh∧m=G.length - i∧i≤G.length∧Out 1 encNat ((List.range i).filter p) ov oh) ?_ ?_
 ·conv=>whnf
  exact ⟨_,_,Turn.refl _ _,_,0,.nilS,[],rfl,rfl,rfl,by omega,.inl ⟨rfl,rfl,rfl⟩⟩
 ·rintro m r h' ⟨i,ov,oh,rfl,rfl,rfl,hi,ho⟩
  have hol:=filter_len (p:=p) i
  conv=>whnf
  skip
  refine ⟨fun hi2=>?_,fun hi2=>?_⟩<;>simp at hi2
  ·obtain ⟨g,hgi⟩:=get_lt hi2
   have hgi2:(G.map lnks)[i]?=some (lnks g):=by rw [List.getElem?_map,hgi];rfl
   have hgg:=hG g (List.mem_of_getElem? hgi)
   have hwo:=refWithout keep e hk
   obtain ⟨k2,hk2⟩:∃ k2,k2=keep.filter fun x=>!decide (x=e):=⟨_,rfl⟩
   have hk2l:k2.length≤1048576:=by have:=List.length_filter_le (fun x=>!decide (x=e)) keep;rw [← hk2] at this;omega
   rw [← hk2] at hwo
   have h1:=refReadable (H:=H) hgi hgg keep (by unfold LMAX;omega)
   have h2:=refReadable (H:=H) hgi hgg k2 (by unfold LMAX;omega)
   have hf:p i=(rdM (memW keep) (lnks g)&&!rdM (memW k2) (lnks g)):=by rw [hp];unfold needsF;rw [getD_of hgi2,but_mem,← hk2]
   have hsn:=filter_snoc (p:=p) i
   rw [hf] at hsn
   rcases ho with ⟨he,rfl,rfl⟩|⟨q,rfl,rfl⟩
   all_goals
    conv=>whnf
    repeat ((first|refine QCall.k0 (h1) ?_|refine gcall (hwo) ?_|refine gcall (h2) ?_);conv=>whnf)
    refine ⟨fun hq=>?_,fun hq=>?_⟩
    ·have hq:(rdM (memW keep) (lnks g)&&!rdM (memW k2) (lnks g))=true:=hq
     rw [if_pos hq] at hsn
     conv=>whnf
     repeat ((first|refine ⟨gP_of ⟨by omega,by omega⟩,?_⟩|(refine ⟨Nat.le_of_ble_eq_true rfl,fun q'=>?_⟩)|(refine ⟨(by simp;unfold AMAX;omega),fun q'=>⟨_,.here _,?_⟩⟩));conv=>whnf)
     refine ⟨_,_,Turn.refl _ _,_,(by omega),i+1,_,[(q',.tok)],rfl,rfl,rfl,by omega,.inr ⟨q',?_,rfl⟩⟩
     rw [hsn,List.map_append]
     first|done|rfl|(rw [he];done)|(rw [he];rfl)
    ·have hq:(rdM (memW keep) (lnks g)&&!rdM (memW k2) (lnks g))=false:=hq
     rw [if_neg (by rw [hq];decide),List.append_nil] at hsn
     conv=>whnf
     repeat (refine ⟨gP_of ⟨by omega,by omega⟩,?_⟩;conv=>whnf)
     refine ⟨_,_,Turn.refl _ _,_,(by omega),i+1,_,_,rfl,rfl,rfl,by omega,?_⟩
     rw [hsn]
     first|exact .inl ⟨he,rfl,rfl⟩|exact .inr ⟨q,rfl,rfl⟩
  ·have hi3:i=G.length:=by omega
   subst hi3
   conv=>whnf
   skip
   exact ho.le (by decide)
end Go.Abs.Wall.Lst
namespace Go.Abs.Wall.Lst
open Go Go.Abs Go.Proofs Go.Abs.Wall
theorem efit {H:Hou} {lines:List (List Int)} (h:corErr H lines=0):∀ g∈lines.map (graphM H),EFit g:=by
 intro g hg
 obtain ⟨l,hl,rfl⟩:=List.mem_map.1 hg
 obtain ⟨_,_,h3⟩:=corErr_zero h
 obtain ⟨h4,h5,h6⟩:=growOK (h3 l hl)
 have h7:=h4.few
 refine ⟨lnk_ok (h3 l hl),by rw [graphM_len];omega,fun es hes=>?_⟩
 obtain ⟨i,hi⟩:=List.mem_iff_getElem?.1 hes
 have:=h6.many i es hi
 omega
theorem lnks_cor (H:Hou) (lines:List (List Int)):(lines.map (graphM H)).map lnks=corM H lines:=by
 unfold corM
 rw [List.map_map]
 rfl
def c21:Cfg:=⟨[0,1,2,4,5,6,7,8,9,10,11,12,17,30,35,43,48],[],[],[],[(18,[0,1,2,3,4,5,6,7,8,9,10,11,12,13,14,15],[])],[]⟩
theorem keepL_len (N:Nat) (w:Int→Bool):(keepL N w).length≤N:=by
 unfold keepL
 rw [List.length_map]
 exact filter_len N
theorem refInduceA (H:Hou) (lines:List (List Int)) (hf:CorFit H lines) :
  ACalls Tryz.prog 21 [.agg (encHou H),.sl 1 none (lines.map encIs)] [] (RowT 2 encNd (indR H lines) (indErr H lines)):=by
 have ho:=refCheckC H lines hf
 by_cases h0:corErr H lines=0
 ·have hok:=cor_ok h0
  have hwd:=refWorld H lines hf h0
  have hef:=efit h0
  have hll:=hf.lines
  rw [h0] at ho
  have hNf:H.lex.entries.length≤200:=(houOK (corErr_zero h0).1).lex.many.1
  obtain ⟨N,hN⟩:∃ N,N=H.lex.entries.length:=⟨_,rfl⟩
  have hNe:(H.lex.entries.map encEnt).length=N:=by rw [List.length_map,hN]
  have hev:=refEvery N (by omega)
  rw [← hNe] at hev
  rw [hNe] at hev
  obtain ⟨G,hG⟩:∃ G,G=lines.map (graphM H):=⟨_,rfl⟩
  have hGl:G.length≤1048576:=by rw [hG,List.length_map];omega
  have hGc:G.map lnks=corM H lines:=by rw [hG];exact lnks_cor H lines
  obtain ⟨C,hC⟩:∃ C,C=corM H lines:=⟨_,rfl⟩
  rw [← hG] at hef hwd
  rw [← hC] at hGc hok
  rw [← hN] at hok hNf
  have hkl:∀ w,(keepL N w).length≤1048576:=fun w=>by have:=keepL_len N w;omega
  have hall:∀ w,QCall Tryz.prog 65 [.iptr (encWld H G),.sl 1 none (ints (keepL N w))] [] (.bool (allB C w)):=by
   intro w
   have:=refAll (H:=H) hef hGl (keepL N w) (by have:=hkl w;unfold LMAX;omega)
   rwa [hGc,allB_mem hok] at this
  have hal0:=hall everyW
  cases h1:allB C everyW with
  | false=>
    rw [h1] at hal0
    have he:indErr H lines=52:=by rw [indErr,if_neg (by omega),← hC,if_neg (by rw [h1];decide)]
    rw [indR,he,if_neg (by decide)]
    refine RowT.nilT ?_
    refine fcalls (F:=Tryz.f21) c21 rfl rfl rfl mixed rfl fun X=>?_
    conv=>whnf
    repeat (refine QCall.k0 (ho) ?_;conv=>whnf)
    refine cF rfl ?_
    conv=>whnf
    repeat (refine QCall.k0 (hwd) ?_;conv=>whnf)
    rw [show (((H.lex.entries.map encEnt).length:Nat):Int)=(N:Int) by rw [hNe]]
    repeat ((first|refine QCall.k0 (hev) ?_|refine QCall.k0 (hal0) ?_);conv=>whnf)
    refine cT rfl ?_
    conv=>whnf
    skip
  | true=>
    rw [h1] at hal0
    have he:indErr H lines=0:=by rw [indErr,if_neg (by omega),← hC,if_pos h1]
    have hr:indR H lines=indL C N:=by rw [indR,if_pos he,← hC,← hN]
    rw [he,hr]
    refine fcalls (F:=Tryz.f21) c21 rfl rfl rfl mixed rfl fun X=>?_
    conv=>whnf
    repeat (refine QCall.k0 (ho) ?_;conv=>whnf)
    refine cF rfl ?_
    conv=>whnf
    repeat (refine QCall.k0 (hwd) ?_;conv=>whnf)
    rw [show (((H.lex.entries.map encEnt).length:Nat):Int)=(N:Int) by rw [hNe]]
    repeat ((first|refine QCall.k0 (hev) ?_|refine QCall.k0 (hal0) ?_);conv=>whnf)
    refine cF rfl ?_
    have hk0:(keepL N everyW).length=N:=by
     unfold keepL
     rw [List.length_map,show (List.range N).filter (keepF everyW)=List.range N from List.filter_eq_self.2 fun a _=>rfl,List.length_range]
    conv=>whnf
    repeat ((refine ⟨gP_of ⟨by rw [ints_length];omega,by rw [ints_length];omega⟩,?_⟩);conv=>whnf)
    rw [show (((ints (keepL N everyW)).length:Nat):Int)=(N:Int) by rw [ints_length,hk0]]
    refine sloop rfl mixed [7,8,9] [] (fun m r h=>∃ (n:Nat) (w:Int→Bool),r=[(7,[],.iptr (encWld H G)),(8,[],.sl 1 none (ints (keepL N w))),(9,[],.int .i64 ((n:Int) - 1))]∧h=[]∧m=n∧n≤N∧indW C N=indGo C n w) ?_ ?_
    ·conv=>whnf
     exact ⟨_,N,everyW,rfl,rfl,rfl,by omega,rfl⟩
    ·rintro n r h' ⟨_,w,rfl,rfl,rfl,hn,hw⟩
     have hwl:=hkl w
     conv=>whnf
     skip
     refine ⟨fun hi2=>?_,fun hi2=>?_⟩<;>simp only [decide_eq_true_eq,decide_eq_false_iff_not] at hi2
     ·obtain ⟨k,rfl⟩:∃ k,n=k+1:=⟨n - 1,by omega⟩
      have hk1:((k+1:Nat):Int) - 1=(k:Int):=by omega
      rw [hk1]
      have hwo:=refWithout (keepL N w) k hwl
      rw [without_keep] at hwo
      have hal:=hall (but w k)
      rw [indGo] at hw
      conv=>whnf
      repeat ((first|refine QCall.k0 (hwo) ?_|refine QCall.k0 (hal) ?_);conv=>whnf)
      refine ⟨fun hq=>?_,fun hq=>?_⟩
      ·have hq:allB C (but w k)=true:=hq
       rw [if_pos hq] at hw
       conv=>whnf
       repeat (refine ⟨gP_of ⟨by omega,by omega⟩,?_⟩;conv=>whnf)
       exact ⟨_,Nat.lt_succ_self _,k,but w k,rfl,rfl,rfl,by omega,hw⟩
      ·have hq:allB C (but w k)=false:=hq
       rw [if_neg (by rw [hq];decide)] at hw
       conv=>whnf
       repeat (refine ⟨gP_of ⟨by omega,by omega⟩,?_⟩;conv=>whnf)
       exact ⟨_,Nat.lt_succ_self _,k,w,rfl,rfl,rfl,by omega,hw⟩
     ·have hn0:n=0:=by omega
      subst hn0
      have hw:indW C N=w:=hw
      obtain ⟨K,hK⟩:∃ K,K=keepL N w:=⟨_,rfl⟩
      have hL:indL C N=K.map (ndOf C w):=by unfold indL;rw [hw,hK]
      have hnd:∀ e,QCall Tryz.prog 67 [.iptr (encWld H G),.sl 1 none (ints K),.int .i64 e] [] (.sl 1 none (ints (needsM C w e))):=by
       intro e
       have:=refNeeds (H:=H) hef hGl K (by rw [hK];exact hwl) e
       rwa [hGc,hK,needsM_mem hok,← hK] at this
      rw [← hK] at hwl
      rw [hL,← hK]
      conv=>whnf
      skip
      refine tloop rfl mixed [7,8,11,12] [] (fun m r h=>∃ (i:Nat) (ov:AV) (oh:Heap),r=[(7,[],.iptr (encWld H G)),(8,[],.sl 1 none (ints K)),(11,[],ov),(12,[],.int .i64 i)]∧h=oh∧m=K.length - i∧i≤K.length∧Row 2 encNd ((K.take i).map (ndOf C w)) ov oh) ?_ ?_
      ·conv=>whnf
       exact ⟨_,_,Turn.weak (.cons (VLe.refl _) (.cons (VLe.refl _) (.cons nil_le_nilO (RLe.refl _)))),_,0,.nilO,[],rfl,rfl,rfl,by omega,.inl ⟨rfl,rfl,rfl⟩⟩
      ·rintro m r h' ⟨i,ov,oh,rfl,rfl,rfl,hi,ho2⟩
       have hol:((K.take i).map (ndOf C w)).length=i:=by rw [List.length_map,List.length_take];omega
       conv=>whnf
       skip
       refine ⟨fun hi2=>?_,fun hi2=>?_⟩<;>simp at hi2
       ·obtain ⟨e,he2⟩:=get_lt hi2
        have hne:=hnd e
        have hsn:(K.take (i+1)).map (ndOf C w)=(K.take i).map (ndOf C w)++[ndOf C w e]:=by rw [take_snoc he2,List.map_append];rfl
        rcases ho2 with ⟨he3,rfl,rfl⟩|⟨hne3,b,rfl,rfl⟩
        ·conv=>whnf
         repeat ((first|refine ⟨gP_of ⟨by omega,by omega⟩,?_⟩|refine ix (by assumption) ?_|refine gcall (hne) ?_|(refine ⟨⟨Nat.le_of_ble_eq_true rfl,Nat.le_of_ble_eq_true rfl⟩,fun b'=>?_⟩)|refine And.intro (by show drawOK (opsAt Tryz.f21 _) _=true;decide +kernel) ?_);conv=>whnf)
         refine ⟨_,_,Turn.refl _ _,_,(by omega),i+1,_,[(b',_)],rfl,rfl,rfl,by omega,.inr ⟨by rw [hsn];simp,b',?_,?_⟩⟩
         ·rw [hsn,he3];rfl
         ·rw [hsn,he3];rfl
        ·conv=>whnf
         repeat ((first|refine ⟨gP_of ⟨by omega,by omega⟩,?_⟩|refine ix (by assumption) ?_|refine gcall (hne) ?_|(refine ⟨_,.head _,⟨enc_len encNd_len,by unfold AMAX;simp only [List.length_cons,List.length_nil];omega⟩,fun b'=>⟨_,.here _,?_⟩⟩)|refine And.intro (by show drawOK (opsAt Tryz.f21 _) _=true;decide +kernel) ?_);conv=>whnf)
         refine ⟨_,_,Turn.refl _ _,_,(by omega),i+1,_,[(b',_)],rfl,rfl,rfl,by omega,.inr ⟨by rw [hsn];simp,b',?_,?_⟩⟩
         ·rw [hsn,List.length_append];rfl
         ·rw [hsn,List.map_append,List.flatten_append];rfl
       ·rw [List.take_of_length_le hi2] at ho2
        conv=>whnf
        skip
        exact ⟨_,_,[],rfl,ho2,by rw [List.append_nil]⟩
 ·have he:indErr H lines=corErr H lines:=by rw [indErr,if_pos h0]
  rw [indR,he,if_neg h0]
  refine RowT.nilT ?_
  refine fcalls (F:=Tryz.f21) c21 rfl rfl rfl mixed rfl fun X=>?_
  conv=>whnf
  repeat (refine QCall.k0 (ho) ?_;conv=>whnf)
  refine cT (by simp [h0]) ?_
  conv=>whnf
  skip
end Go.Abs.Wall.Lst
