/- What is proved: small laws for the walks of this seat, and contracts of its functions. No condition but those each theorem names. -/
import Derived.Test.YtmkmflcemegikaaGreatDoorN21
import Derived.Test.YtmkmflcemegikaaGreatDoorN12
set_option maxRecDepth 100000
set_option maxHeartbeats 2000000
set_option linter.unusedVariables false
set_option linter.unusedSimpArgs false
namespace Go.Abs.Wall
open Go Go.Abs Go.Proofs
theorem _root_.Go.Abs.ACalls.cutT {f:FuncId} {vs:List AV} {h h0:Heap} {v0:AV} (hf:ACalls Tryz.prog f vs h fun v h'=>v=v0∧∃ Z,h'=Z++h0):ACalls Tryz.prog f vs h fun v h'=>v=v0∧h'=h0:=by
 refine ACalls.post hf ?_
 rintro v h1 ⟨rfl,Z,rfl⟩
 exact ⟨_,h0,⟨rfl,rfl⟩,VLe.refl _,fun k o hm=>List.mem_append_right _ hm,fun hn=>by unfold keys at hn ⊢;rw [List.map_append] at hn;exact (List.nodup_append.1 hn).2.1⟩
theorem _root_.Go.Abs.ACalls.cutV {f:FuncId} {vs:List AV} {h h0:Heap} {v0:AV} (hf:ACalls Tryz.prog f vs h fun v h'=>VLe v v0∧∃ Z,h'=Z++h0):ACalls Tryz.prog f vs h fun v h'=>v=v0∧h'=h0:=by
 refine ACalls.post hf ?_
 rintro v h1 ⟨hv,Z,rfl⟩
 exact ⟨_,h0,⟨rfl,rfl⟩,hv,fun k o hm=>List.mem_append_right _ hm,fun hn=>by unfold keys at hn ⊢;rw [List.map_append] at hn;exact (List.nodup_append.1 hn).2.1⟩
def encLnk (x:Lnk):List AV:=[.int .i64 x.entry,.int .i64 x.to]
def encLnks (es:List Lnk):List AV:=[.sl 2 none (es.map encLnk)]
def encGr (g:List (List Lnk)):List AV:=[.sl 1 none (g.map encLnks)]
def encCor (C:Cor):AV:=.sl 1 none (C.map encGr)
def risGo:List Int→Int→Int→Bool
 | [],_,_=>true
 | x::t,n,last=>(decide (0≤x)&&decide (x≤n - 1)&&decide (last<x))&&risGo t n x
def risM (l:List Int) (n:Int):Bool:=risGo l n (-1)
def c13:Cfg:=⟨[0,1,4,5,6,7,8,9,10,31],[],[],[],[],[]⟩
def c12:Cfg:=⟨[0,1,2,6],[],[],[],[],[]⟩
def c25:Cfg:=⟨[0,1,2,3,4],[],[],[],[],[]⟩
def c40:Cfg:=⟨[0,1,2,4],[],[],[],[],[]⟩
def c23:Cfg:=⟨[2],[],[],[],[],[]⟩
def c39:Cfg:=⟨[0,1,2,6,7,8,9,10,12,23,24,25,26,30,31,32,33,53],[],[12],[],[],[]⟩
def c22:Cfg:=⟨[0,1,4,5,7,8,9,15],[],[],[],[],[]⟩
def c26:Cfg:=⟨[0,1,2,6,7,9,10,11,25],[],[],[],[],[]⟩
theorem iwithin (n low high:Int):QCall Tryz.prog 12 [.int .i64 n,.int .i64 low,.int .i64 high] [] (.bool (decide (low≤n)&&decide (n≤high))):=by
 refine fcalls (F:=Tryz.f12) c12 rfl rfl rfl mixed rfl fun X=>?_
 conv=>whnf
 skip
 exact ⟨rfl,rfl⟩
theorem everyA (e:Int) (h:Heap):QCall Tryz.prog 23 [.int .i64 e] h (.bool (everyW e)):=by
 refine QCall.wide ?_ h
 refine fcalls (F:=Tryz.f23) c23 rfl rfl rfl mixed rfl fun X=>?_
 conv=>whnf
 exact ⟨rfl,rfl⟩
theorem butA (f:FuncId) (caps:List AV) (one:Int):QCall Tryz.prog 25 [.fn f caps,.int .i64 one] [] (.fn 40 [.iptr [.int .i64 one],.iptr [.fn f caps]]):=by
 refine QCall.of' ?_
 refine fcalls (F:=Tryz.f25) c25 rfl rfl rfl mixed rfl fun X=>?_
 conv=>whnf
 skip
theorem butF {f:FuncId} {caps:List AV} {w:Int→Bool} {hp:Heap} (hw:∀ e:Int,QCall Tryz.prog f (.int .i64 e::caps) hp (.bool (w e))) (one e:Int):QCall Tryz.prog 40 [.int .i64 e,.iptr [.int .i64 one],.iptr [.fn f caps]] hp (.bool (but w one e)):=by
 have h1:=hw e
 refine fcalls (F:=Tryz.f40) c40 rfl rfl rfl mixed rfl fun X=>?_
 conv=>whnf
 repeat ((refine gcallH h1 ?_);conv=>whnf)
 exact ⟨rfl,rfl⟩
theorem set_same {l:List Bool} {k:Nat} (h:l[k]?=some true):l.set k true=l:=by
 refine List.ext_getElem? fun j=>?_
 rw [List.getElem?_set]
 by_cases e:k=j
 ·subst e
  have:=(List.getElem?_eq_some_iff.1 h).1
  rw [if_pos rfl,h]
  simp [this]
 ·rw [if_neg e]
structure GFit (g:List (List Lnk)):Prop where
 ok:LOK g
 few:g.length≤1048576
 row:∀ es∈g,es.length≤1048576
theorem readsA {C:Cor} {i:Nat} {g:List (List Lnk)} (hi:C[i]?=some g) (hgf:GFit g) {f:FuncId} {caps:List AV} {w:Int→Bool} {hp:Heap} (hw:∀ e:Int,QCall Tryz.prog f (.int .i64 e::caps) hp (.bool (w e))) :
  QCall Tryz.prog 39 [encCor C,.int .i64 i,.fn f caps] hp (.bool (rdM w g)):=by
 have hg:=hgf.ok
 have hn:=hgf.few
 refine ACalls.cutT ?_
 refine fcalls (F:=Tryz.f39) c39 rfl rfl rfl mixed rfl fun X=>?_
 conv=>whnf
 repeat ((first|refine ix (by assumption) ?_|(refine ⟨gP_of ⟨by rw [List.length_map];omega,by rw [List.length_map];omega⟩,?_⟩)|(refine ⟨⟨rfl,by rw [List.length_map];omega,by rw [List.length_map];omega⟩,fun b=>?_⟩));conv=>whnf)
 rw [boolRow0,show (((g.map encLnks).length:Int)+1).toNat=g.length+1 by rw [List.length_map];omega]
 repeat ((first|(refine ixo (i:=0) (by omega) ?_)|(refine stE true (by decide) encB_len (i:=0) (by simp) (Nat.zero_add _) rfl (.here _) ?_));conv=>whnf)
 obtain ⟨l0,hl0⟩:∃ l,l=(List.replicate (g.length+1) false).set 0 true:=⟨_,rfl⟩
 have hrm:rdL w g=rdGo w g 0 l0:=by rw [hl0];rfl
 rw [← hl0]
 refine sloop rfl mixed [2,7,8,23,24,25] [] (fun m r h=>∃ (i:Nat) (l:List Bool),r=[(2,[],.fn f caps),(7,[],.sl 1 none (g.map encLnks)),(8,[],.osl b 0 (g.length+1) 1),(23,[],.sl 1 none (g.map encLnks)),(24,[],.int .i64 (g.map encLnks).length),(25,[],.int .i64 i)]∧h=(b,.vec (l.map encB).flatten)::hp∧m=g.length - i∧i≤g.length∧l.length=g.length+1∧rdGo w g 0 l0=rdGo w (g.drop i) i l) ?_ ?_
 ·conv=>whnf
  exact ⟨_,0,l0,rfl,rfl,rfl,by omega,by rw [hl0];simp,rfl⟩
 ·rintro m r h ⟨i,l,rfl,rfl,rfl,hi,hl,hgo⟩
  conv=>whnf
  refine ⟨fun hi2=>?_,fun hi2=>?_⟩<;>simp at hi2
  ·obtain ⟨es,hes⟩:=get_lt hi2
   have hmany:=hgf.row es (List.mem_of_getElem? hes)
   rw [drop_cons hes,rdGo] at hgo
   conv=>whnf
   repeat (refine ix (by assumption) ?_;conv=>whnf)
   refine sloop rfl mixed [2,7,8,9,23,24,25,30,31,32] [] (fun m r h=>∃ (k:Nat) (l:List Bool),r=[(2,[],.fn f caps),(7,[],.sl 1 none (g.map encLnks)),(8,[],.osl b 0 (g.length+1) 1),(9,[],.int .i64 i),(23,[],.sl 1 none (g.map encLnks)),(24,[],.int .i64 (g.map encLnks).length),(25,[],.int .i64 i),(30,[],.sl 2 none (es.map encLnk)),(31,[],.int .i64 (es.map encLnk).length),(32,[],.int .i64 k)]∧h=(b,.vec (l.map encB).flatten)::hp∧m=es.length - k∧k≤es.length∧l.length=g.length+1∧rdGo w g 0 l0=rdGo w (g.drop (i+1)) (i+1) (mkL w i (es.drop k) l)) ?_ ?_
   ·conv=>whnf
    exact ⟨_,0,l,rfl,rfl,rfl,by omega,hl,hgo⟩
   ·clear hgo hl
    rintro m r h ⟨k,l,rfl,rfl,rfl,hk,hl,hgo⟩
    obtain ⟨li,hli⟩:=get_lt (l:=l) (i:=i) (by omega)
    have hgd:=getD_of (d:=false) hli
    conv=>whnf
    refine ⟨fun hc=>?_,fun hc=>?_⟩<;>simp at hc
    ·obtain ⟨x,hx⟩:=get_lt hc
     have hxo:=hg i es hes x (List.mem_of_getElem? hx)
     obtain ⟨lt,hlt⟩:=get_lt (l:=l) (i:=x.to.toNat) (by omega)
     rw [drop_cons hx,mkL,hgd] at hgo
     have hwx:=hw x.entry
     conv=>whnf
     repeat ((first|refine ix (by assumption) ?_|(intro (b9:Nat))|(refine ixo (i:=i) (by omega) ?_)|(refine ⟨x.to.toNat,gP_of ⟨by omega,by omega⟩,?_⟩)|(refine ldE encB_len (.head _) (Nat.zero_add _) hli ?_)|(refine ldE encB_len (.head _) (Nat.zero_add _) hlt ?_)|(refine gcallH (QCall.more hwx) ?_)|refine ⟨_,_,Rem.here _,⟨Nat.le_of_ble_eq_true rfl,rfl⟩,?_⟩);conv=>whnf)
     refine ⟨fun hq=>?_,fun hq=>?_⟩
     ·have hq:((li&&!lt)&&w x.entry)=true:=hq
      rw [if_pos (by cases li<;>simp_all)] at hgo
      conv=>whnf
      repeat ((first|refine ⟨gP_of ⟨by omega,by omega⟩,?_⟩|(refine ⟨x.to.toNat,gP_of ⟨by omega,by omega⟩,?_⟩)|(refine stE true (by decide) encB_len (i:=x.to.toNat) (by omega) (Nat.zero_add _) rfl (.here _) ?_));conv=>whnf)
      exact ⟨_,by omega,k+1,_,rfl,rfl,rfl,by omega,by rw [List.length_set];exact hl,hgo⟩
     ·have hq:((li&&!lt)&&w x.entry)=false:=hq
      have hgo2:(if (li&&w x.entry)=true then l.set x.to.toNat true else l)=l:=by
       split
       ·rename_i h1
        refine set_same ?_
        rw [hlt]
        cases lt<;>simp_all
       ·rfl
      rw [hgo2] at hgo
      conv=>whnf
      repeat (refine ⟨gP_of ⟨by omega,by omega⟩,?_⟩;conv=>whnf)
      exact ⟨_,by omega,k+1,_,rfl,rfl,rfl,by omega,hl,hgo⟩
    ·rw [drop_nil hc,mkL] at hgo
     conv=>whnf
     repeat (refine ⟨gP_of ⟨by omega,by omega⟩,?_⟩;conv=>whnf)
     exact ⟨_,by omega,i+1,_,rfl,rfl,rfl,by omega,hl,hgo⟩
  ·rw [drop_nil hi2,rdGo] at hgo
   obtain ⟨lz,hlz⟩:=get_lt (l:=l) (i:=g.length) (by omega)
   conv=>whnf
   repeat ((first|(refine ⟨g.length,gP_of ⟨by rw [List.length_map],by omega⟩,?_⟩)|(refine ldE encB_len (.head _) (Nat.zero_add _) hlz ?_));conv=>whnf)
   refine ⟨congrArg AV.bool ?_,[_],rfl⟩
   unfold rdM
   rw [hrm,hgo,getD_of hlz]
theorem allA {C:Cor} (hg:∀ g∈C,GFit g) (hC:C.length≤1048576) {f:FuncId} {caps:List AV} {w:Int→Bool} {hp:Heap} (hw:∀ e:Int,QCall Tryz.prog f (.int .i64 e::caps) hp (.bool (w e))) :
  QCall Tryz.prog 22 [encCor C,.fn f caps] hp (.bool (allB C w)):=by
 refine fcalls (F:=Tryz.f22) c22 rfl rfl rfl mixed rfl fun X=>?_
 conv=>whnf
 refine sloop rfl mixed [0,1,7,8] [] (fun m r h=>∃ (i:Nat),r=[(0,[],encCor C),(1,[],.fn f caps),(7,[],.int .i64 (C.map encGr).length),(8,[],.int .i64 i)]∧h=hp∧m=C.length - i∧i≤C.length∧allB C w=(C.drop i).all (rdM w)) ?_ ?_
 ·conv=>whnf
  exact ⟨_,0,rfl,rfl,rfl,by omega,rfl⟩
 ·rintro m r h ⟨i,rfl,rfl,rfl,hi,ha⟩
  conv=>whnf
  refine ⟨fun hi2=>?_,fun hi2=>?_⟩<;>simp at hi2
  ·obtain ⟨g,hgi⟩:=get_lt hi2
   have hgg:=hg g (List.mem_of_getElem? hgi)
   rw [drop_cons hgi,List.all_cons] at ha
   have hr:=readsA hgi hgg hw
   conv=>whnf
   repeat ((refine QCall.k hr ?_);conv=>whnf)
   refine ⟨fun hq=>?_,fun hq=>?_⟩
   ·have hq:(!rdM w g)=true:=hq
    rw [Bool.not_eq_true'] at hq
    rw [hq,Bool.false_and] at ha
    conv=>whnf
    skip
    exact ⟨congrArg AV.bool ha.symm,rfl⟩
   ·have hq:(!rdM w g)=false:=hq
    rw [Bool.not_eq_false'] at hq
    rw [hq,Bool.true_and] at ha
    conv=>whnf
    repeat (refine ⟨gP_of ⟨by omega,by omega⟩,?_⟩;conv=>whnf)
    exact ⟨_,by omega,i+1,rfl,rfl,rfl,by omega,ha⟩
  ·rw [drop_nil hi2] at ha
   conv=>whnf
   skip
   exact ⟨congrArg AV.bool ha.symm,rfl⟩
def encNat (n:Nat):List AV:=[.int .i64 (n:Int)]
theorem ints_nat (l:List Nat):ints (l.map fun i:Nat=>(i:Int))=l.map encNat:=by unfold ints;rw [List.map_map];rfl
theorem filter_snoc {p:Nat→Bool} (i:Nat):(List.range (i+1)).filter p=(List.range i).filter p++(if p i=true then [i] else []):=by
 rw [List.range_succ,List.filter_append,List.filter_cons]
 split<;>simp
theorem filter_len {p:Nat→Bool} (i:Nat):((List.range i).filter p).length≤i:=by
 have:=List.length_filter_le p (List.range i)
 rwa [List.length_range] at this
theorem needsA {C:Cor} (hg:∀ g∈C,GFit g) (hC:C.length≤1048576) {f:FuncId} {caps:List AV} {w:Int→Bool} {hp:Heap} (hw:∀ e:Int,QCall Tryz.prog f (.int .i64 e::caps) hp (.bool (w e))) (e:Int) :
  QCall Tryz.prog 26 [encCor C,.fn f caps,.int .i64 e] hp (.sl 1 none (ints (needsM C w e))):=by
 refine ACalls.cutV ?_
 unfold needsM
 rw [ints_nat]
 refine fcalls (F:=Tryz.f26) c26 rfl rfl rfl mixed rfl fun X=>?_
 conv=>whnf
 refine tloop rfl mixed [0,1,2,6,9,10] [] (fun m r h=>∃ (i:Nat) (ov:AV) (oh:Heap),r=[(0,[],encCor C),(1,[],.fn f caps),(2,[],.int .i64 e),(6,[],ov),(9,[],.int .i64 (C.map encGr).length),(10,[],.int .i64 i)]∧h=oh++hp∧m=C.length - i∧i≤C.length∧Out 1 encNat ((List.range i).filter (needsF C w e)) ov oh) ?_ ?_
 ·conv=>whnf
  exact ⟨_,_,Turn.refl _ _,_,0,.nilS,[],rfl,rfl,rfl,by omega,.inl ⟨rfl,rfl,rfl⟩⟩
 ·rintro m r h' ⟨i,ov,oh,rfl,rfl,rfl,hi,ho⟩
  have hol:=filter_len (p:=needsF C w e) i
  conv=>whnf
  refine ⟨fun hi2=>?_,fun hi2=>?_⟩<;>simp at hi2
  ·obtain ⟨g,hgi⟩:=get_lt hi2
   have hgg:=hg g (List.mem_of_getElem? hgi)
   have h1:=readsA hgi hgg hw
   have h2:=readsA hgi hgg (butF hw e)
   have hf:needsF C w e i=(rdM w g&&!rdM (but w e) g):=by unfold needsF;rw [getD_of hgi]
   have hsn:=filter_snoc (p:=needsF C w e) i
   rw [hf] at hsn
   rcases ho with ⟨he,rfl,rfl⟩|⟨q,rfl,rfl⟩
   all_goals
    conv=>whnf
    repeat ((first|(refine QCall.k h1 ?_)|(refine QCall.k (QCall.more h1) ?_)|(refine gcall (butA _ _ _) ?_)|(refine gcallH h2 ?_)|(refine gcallH (QCall.more h2) ?_));conv=>whnf)
    refine ⟨fun hq=>?_,fun hq=>?_⟩
    ·have hq:(rdM w g&&!rdM (but w e) g)=true:=hq
     rw [if_pos hq] at hsn
     conv=>whnf
     repeat ((first|refine ⟨gP_of ⟨by omega,by omega⟩,?_⟩|(refine ⟨Nat.le_of_ble_eq_true rfl,fun q'=>?_⟩)|(refine ⟨(by simp;unfold AMAX;omega),fun q'=>⟨_,.here _,?_⟩⟩));conv=>whnf)
     refine ⟨_,_,Turn.refl _ _,_,(by omega),i+1,_,[(q',.tok)],rfl,rfl,rfl,by omega,.inr ⟨q',?_,rfl⟩⟩
     rw [hsn,List.map_append]
     first|done|rfl|(rw [he];done)|(rw [he];rfl)
    ·have hq:(rdM w g&&!rdM (but w e) g)=false:=hq
     rw [if_neg (by rw [hq];decide),List.append_nil] at hsn
     conv=>whnf
     repeat (refine ⟨gP_of ⟨by omega,by omega⟩,?_⟩;conv=>whnf)
     refine ⟨_,_,Turn.refl _ _,_,(by omega),i+1,_,_,rfl,rfl,rfl,by omega,?_⟩
     rw [hsn]
     first|exact .inl ⟨he,rfl,rfl⟩|exact .inr ⟨q,rfl,rfl⟩
  ·have hi3:i=C.length:=by omega
   subst hi3
   conv=>whnf
   skip
   exact ⟨ho.le (by decide),_,rfl⟩
theorem risW (l:List Int) (n:Int) (hl:l.length≤LMAX) (hn:0≤n∧n≤140737488355328):QCall Tryz.prog 13 [.sl 1 none (ints l),.int .i64 n] [] (.bool (risM l n)):=by
 refine fcalls (F:=Tryz.f13) c13 rfl rfl rfl mixed rfl fun X=>?_
 conv=>whnf
 unfold LMAX at hl
 refine sloop rfl mixed [0,1,7,8,9] [] (fun m r h=>∃ (i:Nat) (last:Int),r=[(0,[],.sl 1 none (ints l)),(1,[],.int .i64 n),(7,[],.sl 1 none (ints l)),(8,[],.int .i64 (ints l).length),(9,[],.int .i64 i)]∧h=[]∧m=l.length - i∧i≤l.length∧risM l n=risGo (l.drop i) n last∧((i=0∧last = -1)∨(0<i∧l[i - 1]?=some last))) ?_ ?_
 ·conv=>whnf
  exact ⟨_,0,-1,rfl,rfl,rfl,by omega,rfl,.inl ⟨rfl,rfl⟩⟩
 ·rintro m r h ⟨i,last,rfl,rfl,rfl,hi,hg,hla⟩
  conv=>whnf
  refine ⟨fun hc=>?_,fun hc=>?_⟩<;>simp at hc
  ·obtain ⟨x,hx⟩:=get_lt hc
   rw [drop_cons hx,risGo] at hg
   have hcond:((!(decide (0≤x)&&decide (x≤n - 1)))||(decide ((i:Int) > 0)&&decide (x≤l.getD ((i:Int) - 1).toNat 0)))=!(decide (0≤x)&&decide (x≤n - 1)&&decide (last<x)):=by
    rcases hla with ⟨rfl,rfl⟩|⟨h0,h1⟩
    ·rw [Bool.eq_iff_iff];simp;omega
    ·rw [show ((i:Int) - 1).toNat=i - 1 by omega,getD_of h1,Bool.eq_iff_iff]
     simp
     omega
   conv=>whnf
   repeat ((first|refine ⟨gP_of ⟨by omega,by omega⟩,?_⟩|refine ix (by assumption) ?_|refine QCall.k0 (iwithin x 0 (n - 1)) ?_|(refine ixg (enc:=fun n=>[AV.int .i64 n]) (0:Int) ?_ ?_;(focus (conv=>whnf;skip));(focus (intro g0 g1;simp only [decide_eq_true_eq] at g1;show 0≤(i:Int) - 1∧(i:Int) - 1<(l.length:Int);omega))));conv=>whnf)
   refine ⟨fun hq=>?_,fun hq=>?_⟩
   ·have hq:=hcond.symm.trans hq
    rw [Bool.not_eq_true'] at hq
    rw [hq,Bool.false_and] at hg
    conv=>whnf
    skip
    exact ⟨congrArg AV.bool hg.symm,rfl⟩
   ·have hq:=hcond.symm.trans hq
    rw [Bool.not_eq_false'] at hq
    rw [hq,Bool.true_and] at hg
    conv=>whnf
    repeat (refine ⟨gP_of ⟨by omega,by omega⟩,?_⟩;conv=>whnf)
    exact ⟨_,by omega,i+1,x,rfl,rfl,rfl,by omega,hg,.inr ⟨by omega,by rw [Nat.add_sub_cancel];exact hx⟩⟩
  ·rw [drop_nil hc,risGo] at hg
   conv=>whnf
   skip
   exact ⟨congrArg AV.bool hg.symm,rfl⟩
end Go.Abs.Wall
namespace Go.Abs.Wall
open Go Go.Abs Go.Proofs
def cptT {α:Type} [DecidableEq α]:α→List α→List α
 | _,[]=>[]
 | x,y::t=>if y=x then cptT y t else y::cptT y t
theorem cpt_cons {α:Type} [DecidableEq α]:∀ (t:List α) (x:α),cpt (x::t)=x::cptT x t
 | [],x=>rfl
 | y::r,x=>by
   unfold cpt cptT
   rw [cpt_cons r y]
   by_cases h:x=y
   ·rw [if_pos h,if_pos h.symm,h]
   ·rw [if_neg h,if_neg (fun e=>h e.symm)]
theorem cptT_len {α:Type} [DecidableEq α]:∀ (t:List α) (x:α),(cptT x t).length≤t.length
 | [],x=>Nat.le_refl _
 | y::r,x=>by
   unfold cptT
   have:=cptT_len r y
   split<;>simp<;>omega
theorem encLnk_len (x:Lnk):(encLnk x).length=2:=rfl
theorem plainLnk:plainT Tryz.prog 92=true:=by decide +kernel
def lnksM (H:Hou) (line:List Int):List (List Lnk):=(graphM H line).map fun es=>es.map lnkOf
def growsE (H:Hou):List (List Int)→Int
 | []=>0
 | l::t=>if growErr H l≠0 then growErr H l else growsE H t
def corErr (H:Hou) (lines:List (List Int)):Int:=if houErr H≠0 then houErr H else if 40<lines.length then 2 else growsE H lines
def corM (H:Hou) (lines:List (List Int)):Cor:=lines.map (lnksM H)
def corP (H:Hou) (lines:List (List Int)):Cor:=(corM H lines).map fun g=>g.map cpt
def c38:Cfg:=⟨[0,2,3,4,5,8,13,25,32,44],[],[],[],[(6,[0,1,2,3,4,5,6,7,8,9],[]),(11,[0,1,2,3,4,5,6,7,8,9],[])],[]⟩
def c21:Cfg:=⟨[0,1,2,4,5,6,8,10,11,12,13,14,15,17,21,25,26,27,28,29,39,42,43,44,54,56,57,58,59],[],[17],[],[],[]⟩
theorem lnk_eq (x y:Lnk):(decide (x.entry=y.entry)&&(decide (x.to=y.to)&&true))=decide (x=y):=by
 rw [Bool.eq_iff_iff]
 obtain ⟨a,b⟩:=x
 obtain ⟨c,d⟩:=y
 simp
theorem cpt_len (L:List Lnk):(cpt L).length≤L.length:=by
 cases L with
 | nil=>simp [cpt]
 | cons x t=>
   have:=cptT_len t x
   rw [cpt_cons]
   simp
   omega
theorem compactB (b:Nat) (L:List Lnk) (hne:L≠[]) (hl:L.length≤1048576) :
  ACalls Tryz.prog 38 [.osl b 0 L.length 2] [(b,.vec (L.map encLnk).flatten)] (fun v h'=>∃ post:List AV,v=.osl b 0 (cpt L).length 2∧h'=[(b,.vec (((cpt L).map encLnk).flatten++post))]):=by
 have hn:0<L.length:=List.length_pos_iff.2 hne
 refine fcalls (F:=Tryz.f38) c38 rfl rfl rfl mixed rfl fun X=>?_
 conv=>whnf
 refine ⟨fun hs=>?_,fun hs=>?_⟩<;>simp only [decide_eq_true_eq,decide_eq_false_iff_not] at hs
 ·have h1:cpt L=L:=by
   cases L with
   | nil=>exact absurd rfl hne
   | cons x t=>
     cases t with
     | nil=>rfl
     | cons y r=>simp at hs;omega
  conv=>whnf
  skip
  exact ⟨[],by rw [h1],by rw [h1,List.append_nil]⟩
 obtain ⟨x0,hx0⟩:=get_lt (l:=L) (i:=0) hn
 have hc0:cpt L=L.take 1++cptT x0 (L.drop 1):=by
  have h2:=drop_cons hx0
  rw [List.drop_zero] at h2
  rw [h2,cpt_cons]
  rfl
 conv=>whnf
 skip
 refine sloop rfl mixed [0,3] [] (fun m r h=>∃ (k:Nat) (p:Lnk),r=[(0,[],.osl b 0 L.length 2),(3,[],.int .i64 k)]∧h=[(b,.vec (L.map encLnk).flatten)]∧m=L.length - k∧1≤k∧k≤L.length∧L[k - 1]?=some p∧cpt L=L.take k++cptT p (L.drop k)) ?_ ?_
 ·conv=>whnf
  exact ⟨_,1,x0,rfl,rfl,rfl,by omega,by omega,hx0,hc0⟩
 ·clear hc0
  rintro m r h ⟨k,p,rfl,rfl,rfl,hk1,hk2,hp,hc⟩
  conv=>whnf
  skip
  refine ⟨fun hi2=>?_,fun hi2=>?_⟩<;>simp only [decide_eq_true_eq,decide_eq_false_iff_not] at hi2
  ·obtain ⟨y,hy⟩:=get_lt (l:=L) (i:=k) (by omega)
   rw [drop_cons hy,cptT] at hc
   conv=>whnf
   repeat ((first|refine ⟨gP_of ⟨by omega,by omega⟩,?_⟩|(refine ⟨k,gP_of ⟨by omega,by omega⟩,?_⟩)|(refine ⟨k - 1,gP_of ⟨by omega,by omega⟩,?_⟩)|(refine ldE encLnk_len (.head _) (Nat.zero_add _) hy ?_)|(refine ldE encLnk_len (.head _) (Nat.zero_add _) hp ?_)|(refine ⟨plainLnk,?_⟩)|refine And.intro (by show drawOK (opsAt Tryz.f38 _) _=true;decide +kernel) ?_);conv=>whnf)
   refine ⟨fun hq=>?_,fun hq=>?_⟩
   ·have hq:y=p:=of_decide_eq_true ((lnk_eq y p).symm.trans hq)
    rw [if_pos hq] at hc
    conv=>whnf
    repeat (refine ⟨gP_of ⟨by omega,by omega⟩,?_⟩;conv=>whnf)
    refine sloop rfl mixed [0,3,4,5] [] (fun m r h=>∃ (k:Nat) (n:Nat) (A:List Lnk) (z:Lnk),r=[(0,[],.osl b 0 L.length 2),(3,[],.int .i64 A.length),(4,[],.osl b (k*2) (L.length - k) 2),(5,[],.int .i64 n)]∧h=[(b,.vec ((A++L.drop A.length).map encLnk).flatten)]∧m=L.length - (k+n)∧1≤n∧k+n≤L.length∧A.length<k+n∧L[k+n - 1]?=some z∧cpt L=A++cptT z (L.drop (k+n))) ?_ ?_
    ·conv=>whnf
     refine ⟨_,k,1,L.take k,y,?_,?_,rfl,by omega,by omega,by rw [List.length_take];omega,by rw [Nat.add_sub_cancel];exact hy,hc⟩
     ·rw [List.length_take,Nat.min_eq_left (by omega),show 0+((k:Nat):Int).toNat*2=k*2 by omega]
      rfl
     ·rw [List.length_take,Nat.min_eq_left (by omega),List.take_append_drop]
    ·clear hc hq hp hy
     rintro m r h ⟨k,n,A,z,rfl,rfl,rfl,hn1,hn2,hA,hz,hc⟩
     have hR:∀ j,A.length≤j→(A++L.drop A.length)[j]?=L[j]?:=by
      intro j hj
      rw [List.getElem?_append_right hj,List.getElem?_drop,show A.length+(j - A.length)=j by omega]
     have hRl:(A++L.drop A.length).length=L.length:=by rw [List.length_append,List.length_drop];omega
     conv=>whnf
     skip
     refine ⟨fun hi3=>?_,fun hi3=>?_⟩<;>simp only [decide_eq_true_eq,decide_eq_false_iff_not] at hi3
     ·obtain ⟨y,hy⟩:=get_lt (l:=L) (i:=k+n) (by omega)
      have hy2:=(hR (k+n) (by omega)).trans hy
      have hz2:=(hR (k+n - 1) (by omega)).trans hz
      rw [drop_cons hy,cptT] at hc
      conv=>whnf
      repeat ((first|refine ⟨gP_of ⟨by omega,by omega⟩,?_⟩|(refine ⟨n,gP_of ⟨by omega,by omega⟩,?_⟩)|(refine ⟨n - 1,gP_of ⟨by omega,by omega⟩,?_⟩)|(refine ldE encLnk_len (.head _) (by omega) hy2 ?_)|(refine ldE encLnk_len (.head _) (by omega) hz2 ?_)|(refine ⟨plainLnk,?_⟩)|refine And.intro (by show drawOK (opsAt Tryz.f38 _) _=true;decide +kernel) ?_);conv=>whnf)
      refine ⟨fun hq=>?_,fun hq=>?_⟩
      ·have hq:(!decide (y=z))=true:=(congrArg (!·) (lnk_eq y z)).symm.trans hq
       rw [Bool.not_eq_true',decide_eq_false_iff_not] at hq
       rw [if_neg hq] at hc
       have hset:(A++L.drop A.length).set A.length y=(A++[y])++L.drop (A++[y]).length:=by
        obtain ⟨w,hw⟩:=get_lt (l:=L) (i:=A.length) (by omega)
        rw [drop_cons hw,List.set_append_right _ _ (Nat.le_refl _),Nat.sub_self,List.set_cons_zero,List.length_append,List.append_assoc]
        rfl
       conv=>whnf
       repeat ((first|refine ⟨gP_of ⟨by omega,by omega⟩,?_⟩|(refine ⟨n,gP_of ⟨by omega,by omega⟩,?_⟩)|(refine ⟨A.length,gP_of ⟨by omega,by omega⟩,?_⟩)|(refine ldE encLnk_len (.head _) (by omega) hy2 ?_)|(refine stE y (by decide) encLnk_len (i:=A.length) (by omega) (Nat.zero_add _) rfl (.here _) ?_));conv=>whnf)
       rw [hset]
       refine ⟨_,by omega,k,n+1,A++[y],y,?_,rfl,rfl,by omega,by omega,by simp;omega,by rw [show k+(n+1) - 1=k+n by omega];exact hy,?_⟩
       ·rw [List.length_append]
        first|rfl|(simp;done)
       ·rw [hc,List.append_assoc,show k+(n+1)=k+n+1 by omega]
        rfl
      ·have hq:(!decide (y=z))=false:=(congrArg (!·) (lnk_eq y z)).symm.trans hq
       rw [Bool.not_eq_false',decide_eq_true_eq] at hq
       rw [if_pos hq] at hc
       conv=>whnf
       repeat (refine ⟨gP_of ⟨by omega,by omega⟩,?_⟩;conv=>whnf)
       exact ⟨_,by omega,k,n+1,A,y,rfl,rfl,rfl,by omega,by omega,by omega,by rw [show k+(n+1) - 1=k+n by omega];exact hy,by rw [hc,show k+(n+1)=k+n+1 by omega]⟩
     ·have hi4:k+n=L.length:=by omega
      rw [hi4,List.drop_length,cptT,List.append_nil] at hc
      have hfl:=flat_len encLnk_len (A++L.drop A.length)
      have hft:=flat_take encLnk_len (A++L.drop A.length) A.length
      rw [List.take_left] at hft
      conv=>whnf
      repeat ((first|refine ⟨gP_of ⟨by omega,by omega⟩,?_⟩|(refine ⟨_,_,.here _,⟨by omega,by rw [hfl,hRl];omega⟩,?_⟩));conv=>whnf)
      refine ⟨?post,?e1,?e2⟩
      case e1=>rw [hc];rfl
      case e2=>
       rw [hc]
       unfold setC
       rw [show 0+((A.length:Nat):Int).toNat*2=A.length*2 by omega,hft,List.append_assoc]
   ·have hq:¬ y=p:=of_decide_eq_false ((lnk_eq y p).symm.trans hq)
    rw [if_neg hq] at hc
    conv=>whnf
    repeat (refine ⟨gP_of ⟨by omega,by omega⟩,?_⟩;conv=>whnf)
    refine ⟨_,by omega,k+1,y,rfl,rfl,rfl,by omega,by omega,by rw [Nat.add_sub_cancel];exact hy,?_⟩
    rw [hc,take_snoc hy,List.append_assoc]
    rfl
  ·have hke:k=L.length:=by
    have:¬ (k:Int)<(L.length:Int):=hi2
    omega
   subst hke
   rw [List.take_length,List.drop_length,cptT,List.append_nil] at hc
   conv=>whnf
   skip
   exact ⟨[],by rw [hc],by rw [hc,List.append_nil]⟩
theorem compactA (b:Nat) (L:List Lnk) (hne:L≠[]) (hl:L.length≤1048576) :
  ACalls Tryz.prog 38 [.osl b 0 L.length 2] [(b,.vec (L.map encLnk).flatten)] (fun v h'=>v=.sl 2 none ((cpt L).map encLnk)∧h'=[]):=by
 refine ACalls.frz (compactB b L hne hl) ?_
 rintro v h1 ⟨post,rfl,rfl⟩
 exact ⟨b,_,[],[],_,.here _,.nil,FzV.row (pre:=[]) (post:=[post]) (xs':=[]) (by simp) rfl (by simp) (by intro x hx;obtain ⟨a,_,rfl⟩:=List.mem_map.1 hx;rfl),rfl,rfl⟩
theorem compactN:ACalls Tryz.prog 38 [.nilO] [] (fun v h'=>v=.sl 2 none []∧h'=[]):=by
 refine QCall.of (v:=.sl 2 none []) ?_
 refine fcalls (F:=Tryz.f38) c38 rfl rfl rfl mixed rfl fun X=>?_
 conv=>whnf
 refine cT rfl ?_
 conv=>whnf
 skip
 exact nilO_le (by decide)
theorem compactR {L:List Lnk} {v:AV} {hp:Heap} (hr:Row 2 encLnk L v hp) (hl:L.length≤1048576) :
  ACalls Tryz.prog 38 [v] hp (fun v h'=>v=.sl 2 none ((cpt L).map encLnk)∧h'=[]):=by
 rcases hr with ⟨rfl,rfl,rfl⟩|⟨hne,b,rfl,rfl⟩
 ·exact compactN
 ·exact compactA b L hne hl
def encIs (l:List Int):List AV:=[.sl 1 none (ints l)]
def corV (H:Hou) (lines:List (List Int)):Cor:=if corErr H lines=0 then corP H lines else []
theorem words_fit {H:Hou} {line:List Int} (h:growErr H line=0) {i:Nat} (hi:i<line.length):wordsE H line i=0∧wordsLs H line i=edgsAt H line i∧(edgsAt H line i).length≤2000:=by
 obtain ⟨hL,hs,hg⟩:=growOK h
 have hm:=hg.many i _ (graphM_get hi)
 have hl:lineErr H line=0:=by
  unfold growErr at h
  split at h
  ·rename_i h1;exact absurd h h1
  ·rename_i h1;simpa using h1
 have he:wordsE H line i=0:=by
  unfold wordsE
  rw [if_neg (by omega),if_neg (by rw [Bool.not_eq_false,wthn_iff];omega),if_neg]
  show ¬ 2000<(edgsAt H line ((i:Int)).toNat).length
  rw [Int.toNat_natCast]
  omega
 refine ⟨he,?_,hm⟩
 rw [wordsLs,if_pos he]
 rfl
theorem openA (H:Hou) (lines:List (List Int)) (hf:HouFit H) (hn:lines.length≤1048576) (hl:∀ l∈lines,l.length≤1048576) :
  QCall Tryz.prog 21 [.agg (encHou H),.sl 1 none (lines.map encIs)] [] (.tup [encCor (corV H lines),.int .i64 (corErr H lines)]):=by
 refine QCall.of ?_
 refine fcalls (F:=Tryz.f21) c21 rfl rfl rfl mixed rfl fun X=>?_
 conv=>whnf
 repeat (refine QCall.k0 (checkHouse H hf) ?_;conv=>whnf)
 refine ⟨fun h0=>?_,fun h0=>?_⟩<;>simp at h0
 ·have he:corErr H lines=houErr H:=by rw [corErr,if_pos h0]
  conv=>whnf
  skip
  rw [corV,he,if_neg h0]
  exact VLe.tup (.cons (VLe.nil (by decide)) (.cons (VLe.refl _) .nil))
 conv=>whnf
 skip
 refine ⟨fun h1=>?_,fun h1=>?_⟩<;>simp at h1
 ·have he:corErr H lines=2:=by rw [corErr,if_neg (by omega),if_pos (by omega)]
  conv=>whnf
  skip
  rw [corV,he,if_neg (by decide)]
  exact VLe.tup (.cons (VLe.nil (by decide)) (.cons (VLe.refl _) .nil))
 have hce:corErr H lines=growsE H lines:=by rw [corErr,if_neg (by omega),if_neg (by omega)]
 conv=>whnf
 skip
 refine tloop rfl mixed [2,4,26,27,28] [] (fun m r h=>∃ (i:Nat) (cv:AV) (ch:Heap),r=[(2,[],.iptr (encHou H)),(4,[],cv),(26,[],.sl 1 none (lines.map encIs)),(27,[],.int .i64 (lines.map encIs).length),(28,[],.int .i64 i)]∧h=ch∧m=lines.length - i∧i≤lines.length∧growsE H lines=growsE H (lines.drop i)∧Out 1 encGr (corP H (lines.take i)) cv ch) ?_ ?_
 ·conv=>whnf
  exact ⟨_,_,Turn.refl _ _,_,0,.nilS,[],rfl,rfl,rfl,by omega,rfl,.inl ⟨rfl,rfl,rfl⟩⟩
 ·rintro m r ch ⟨i,cv,_,rfl,rfl,rfl,hi,hge,hco⟩
  conv=>whnf
  refine ⟨fun hi2=>?_,fun hi2=>?_⟩<;>simp at hi2
  ·obtain ⟨line,hline⟩:=get_lt hi2
   have hll:=hl line (List.mem_of_getElem? hline)
   have hre:=ReachW H line hf hll
   rw [drop_cons hline,growsE] at hge
   conv=>whnf
   repeat ((first|refine ix (by assumption) ?_|refine QCall.k0 (hre) ?_);conv=>whnf)
   refine ⟨fun h2=>?_,fun h2=>?_⟩<;>simp at h2
   ·rw [if_pos h2] at hge
    have he:corErr H lines=growErr H line:=hce.trans hge
    conv=>whnf
    skip
    rw [corV,he,if_neg h2]
    exact VLe.tup (.cons (VLe.nil (by decide)) (.cons (VLe.refl _) .nil))
   rw [if_neg (by omega)] at hge
   have hfew:=(growOK h2).1.few
   conv=>whnf
   skip
   refine tloop rfl mixed [2,4,8,11,26,27,28,42,43] [] (fun m r h=>∃ (a:Nat) (pv:AV) (ph:Heap),r=[(2,[],.iptr (encHou H)),(4,[],cv),(8,[],.sl 1 none (ints line)),(11,[],pv),(26,[],.sl 1 none (lines.map encIs)),(27,[],.int .i64 (lines.map encIs).length),(28,[],.int .i64 i),(42,[],.int .i64 (ints line).length),(43,[],.int .i64 a)]∧h=ph++ch∧m=line.length - a∧a≤line.length∧Out 1 encLnks (((lnksM H line).map cpt).take a) pv ph) ?_ ?_
   ·conv=>whnf
    exact ⟨_,_,Turn.refl _ _,_,0,.nilS,[],rfl,rfl,rfl,by omega,.inl ⟨rfl,rfl,rfl⟩⟩
   ·rintro m r h' ⟨a,pv,ph,rfl,rfl,rfl,ha,hpo⟩
    conv=>whnf
    refine ⟨fun ha2=>?_,fun ha2=>?_⟩<;>simp at ha2
    ·obtain ⟨hwe,hwl,hwn⟩:=words_fit h2 ha2
     have hwx:=wordsX H line a hf hll
     rw [hwe,hwl] at hwx
     obtain ⟨E,hE⟩:∃ E,E=edgsAt H line a:=⟨_,rfl⟩
     rw [← hE] at hwx hwn
     have hpl:((lnksM H line).map cpt)[a]?=some (cpt (E.map lnkOf)):=by
      unfold lnksM
      rw [List.getElem?_map,List.getElem?_map,graphM_get ha2,hE];rfl
     conv=>whnf
     repeat (refine QCall.k0 (hwx) ?_;conv=>whnf)
     refine cF rfl ?_
     conv=>whnf
     skip
     refine tloop rfl mixed [2,4,8,11,15,26,27,28,42,43,56,57,58] [] (fun m r h=>∃ (k:Nat) (lv:AV) (lh:Heap),r=[(2,[],.iptr (encHou H)),(4,[],cv),(8,[],.sl 1 none (ints line)),(11,[],pv),(15,[],lv),(26,[],.sl 1 none (lines.map encIs)),(27,[],.int .i64 (lines.map encIs).length),(28,[],.int .i64 i),(42,[],.int .i64 (ints line).length),(43,[],.int .i64 a),(56,[],.sl 7 none (E.map encEdg)),(57,[],.int .i64 (E.map encEdg).length),(58,[],.int .i64 k)]∧h=lh++(ph++ch)∧m=E.length - k∧k≤E.length∧Row 2 encLnk ((E.take k).map lnkOf) lv lh) ?_ ?_
     ·conv=>whnf
      exact ⟨_,_,Turn.weak (.cons (VLe.refl _) (.cons (VLe.refl _) (.cons (VLe.refl _) (.cons (VLe.refl _) (.cons nil_le_nilO (RLe.refl _)))))),_,0,.nilO,[],rfl,rfl,rfl,by omega,.inl ⟨rfl,rfl,rfl⟩⟩
     ·rintro m r h' ⟨k,lv,lh,rfl,rfl,rfl,hk,hlo⟩
      have hlol:((E.take k).map lnkOf).length=k:=by rw [List.length_map,List.length_take];omega
      conv=>whnf
      refine ⟨fun hk2=>?_,fun hk2=>?_⟩<;>simp at hk2
      ·obtain ⟨x,hx⟩:=get_lt hk2
       have hst:(E.take (k+1)).map lnkOf=(E.take k).map lnkOf++[lnkOf x]:=by rw [take_snoc hx,List.map_append];rfl
       rcases hlo with ⟨he,rfl,rfl⟩|⟨hne,lb,rfl,rfl⟩
       ·conv=>whnf
        repeat ((first|refine ⟨gP_of ⟨by omega,by omega⟩,?_⟩|refine ix (by assumption) ?_|(intro (b9:Nat))|(refine ⟨⟨Nat.le_of_ble_eq_true rfl,Nat.le_of_ble_eq_true rfl⟩,fun b'=>?_⟩)|refine ⟨_,_,Rem.here _,⟨Nat.le_of_ble_eq_true rfl,rfl⟩,?_⟩);conv=>whnf)
        refine ⟨_,_,Turn.refl _ _,_,by omega,k+1,_,[(b',_)],rfl,rfl,rfl,by omega,.inr ⟨by rw [hst];simp,b',?_,?_⟩⟩
        ·rw [hst,he];rfl
        ·rw [hst,he];rfl
       ·conv=>whnf
        repeat ((first|refine ⟨gP_of ⟨by omega,by omega⟩,?_⟩|refine ix (by assumption) ?_|(intro (b9:Nat))|(refine ⟨_,.head _,⟨enc_len encLnk_len,by rw [hlol];unfold AMAX;simp;omega⟩,fun b'=>⟨_,.here _,?_⟩⟩)|refine ⟨_,_,Rem.here _,⟨Nat.le_of_ble_eq_true rfl,rfl⟩,?_⟩);conv=>whnf)
        refine ⟨_,_,Turn.refl _ _,_,by omega,k+1,_,[(b',_)],rfl,rfl,rfl,by omega,.inr ⟨by rw [hst];simp,b',?_,?_⟩⟩
        ·rw [hst,List.length_append];rfl
        ·rw [hst,List.map_append,List.flatten_append];rfl
      ·rw [List.take_of_length_le hk2] at hlo
       have hcr:=compactR hlo (by rw [List.length_map];omega)
       have htk:=take_snoc hpl
       have hpn:(((lnksM H line).map cpt).take a).length≤60:=by rw [List.length_take];omega
       conv=>whnf
       refine ACalls.mono ?_ (ACalls.frame hcr _)
       rintro v h1 ⟨h3,⟨rfl,rfl⟩,rfl⟩
       rcases hpo with ⟨he,rfl,rfl⟩|⟨q,rfl,rfl⟩
       all_goals
        conv=>whnf
        repeat ((first|refine ⟨gP_of ⟨by omega,by omega⟩,?_⟩|(refine ⟨Nat.le_of_ble_eq_true rfl,fun q'=>?_⟩)|(refine ⟨(by rw [List.length_append,List.length_map];simp at hpn ⊢;unfold AMAX;omega),fun q'=>⟨_,.here _,?_⟩⟩));conv=>whnf)
        refine ⟨_,_,Turn.refl _ _,_,(by omega),a+1,_,[(q',.tok)],rfl,rfl,rfl,by omega,.inr ⟨q',?_,rfl⟩⟩
        rw [htk,List.map_append]
        first|done|rfl|(rw [he];done)|(rw [he];rfl)
    ·have hpt:((lnksM H line).map cpt).take a=(lnksM H line).map cpt:=List.take_of_length_le (by unfold lnksM;rw [List.length_map,List.length_map,graphM_len];omega)
     rw [hpt] at hpo
     have htk:corP H (lines.take (i+1))=corP H (lines.take i)++[(lnksM H line).map cpt]:=by
      rw [take_snoc hline]
      unfold corP corM
      rw [List.map_append,List.map_append];rfl
     have hcn:(corP H (lines.take i)).length≤1048576:=by unfold corP corM;rw [List.length_map,List.length_map,List.length_take];omega
     have hle:=hpo.le (by decide)
     have hT:(corP H (lines.take (i+1))).map encGr=(corP H (lines.take i)).map encGr++[[.sl 1 none (((lnksM H line).map cpt).map encLnks)]]:=by rw [htk,List.map_append];rfl
     rcases hpo with ⟨hpe,rfl,rfl⟩|⟨qp,rfl,rfl⟩<;>rcases hco with ⟨hce2,rfl,rfl⟩|⟨q,rfl,rfl⟩
     all_goals
      conv=>whnf
      repeat ((first|refine ⟨gP_of ⟨by omega,by omega⟩,?_⟩|(refine ⟨Nat.le_of_ble_eq_true rfl,fun q'=>?_⟩)|(refine ⟨(by rw [List.length_append,List.length_map];simp at hcn ⊢;unfold AMAX;omega),fun q'=>⟨_,.here _,?_⟩⟩)|(refine ⟨(by rw [List.length_append,List.length_map];simp at hcn ⊢;unfold AMAX;omega),fun q'=>⟨_,.there (.here _),?_⟩⟩));conv=>whnf)
      first
       | refine ⟨_,_,Turn.one (q:=q') (o:=.tok) (.cons (VLe.refl _) (.cons (VLe.els (VssLe.snoc (xs:=(corP H (lines.take i)).map encGr) (.cons hle .nil))) (RLe.refl _))) (by simp),_,(by omega),i+1,_,[(q',.tok)],rfl,rfl,rfl,by omega,hge,.inr ⟨q',by rw [hT],rfl⟩⟩
       | refine ⟨_,_,Turn.one (q:=q') (o:=.tok) (.cons (VLe.refl _) (.cons (VLe.els (.cons (.cons hle .nil) .nil)) (RLe.refl _))) (by simp),_,(by omega),i+1,_,[(q',.tok)],rfl,rfl,rfl,by omega,hge,.inr ⟨q',by rw [hT,hce2];rfl,rfl⟩⟩
  ·rw [drop_nil hi2,growsE] at hge
   rw [List.take_of_length_le hi2] at hco
   have he:corErr H lines=0:=hce.trans hge
   conv=>whnf
   skip
   rw [corV,he,if_pos rfl]
   exact VLe.tup (.cons (hco.le (by decide)) (.cons (VLe.refl _) .nil))
end Go.Abs.Wall
