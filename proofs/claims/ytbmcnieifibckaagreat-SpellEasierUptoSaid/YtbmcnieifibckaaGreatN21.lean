/- What is proved: small laws for the walks of this seat, and contracts of its functions. No condition but those each theorem names. -/
import Derived.Test.YtbmcnieifibckaaGreatN14
import Derived.Test.YtbmcnieifibckaaGreatN6
import Derived.Test.YtbmcnieifibckaaGreatN11
set_option maxRecDepth 100000
set_option maxHeartbeats 2000000
set_option linter.unusedVariables false
set_option linter.unusedSimpArgs false
namespace Go.Abs.Wall.Spl
open Go Go.Abs Go.Proofs Go.Abs.Wall
open Go.Abs.Wall.Lst hiding encWy wyCmp wyCmp_lt wayCompare fndW encWy_len idxW_iff binNil binW insNilW over224 InsR insC OpenR insW_acalls ndC putW
def encWy (w:Wy):List AV:=[.int .i64 (w.cost / 16),.int .i64 (w.cost % 16),.int .i64 ((w.edge:Int) - 1),.int .i64 w.rank]
def wyCmp (x y:Wy):Int:=orI [cmpI (x.cost / 16) (y.cost / 16),cmpI (x.cost % 16) (y.cost % 16),cmpI ((x.edge:Int) - 1) ((y.edge:Int) - 1)]
theorem wyCmp_lt {x y:Wy}:wyCmp x y<0↔wlt x y:=by
 unfold wyCmp orI orI orI orI cmpI wlt
 repeat' split
 all_goals first|omega|(simp at *;omega)
def c165:Cfg:=⟨[0,1,2,3,4],[],[],[],[(1,[0,1,2,3,4,5,6,7,8,9,10,11,12,13,14,15,16,17,18,19,20,21],[])],[]⟩
theorem wayCompare (x y:Wy):QCall Tryz.prog 165 [.agg (encWy x),.agg (encWy y)] [] (.int .i64 (wyCmp x y)):=by
 refine fcalls (F:=Tryz.f165) c165 rfl rfl rfl mixed rfl fun X=>?_
 conv=>whnf
 repeat ((first|refine gcall (compareI _ _) ?_|refine gcall (orW [cmpI (x.cost / 16) (y.cost / 16),cmpI (x.cost % 16) (y.cost % 16),cmpI ((x.edge:Int) - 1) ((y.edge:Int) - 1)] (by simp [LMAX])) ?_|refine And.intro (by show drawOK (opsAt Tryz.f165 _) _=true;decide +kernel) ?_);conv=>whnf)
 exact ⟨rfl,rfl⟩
def fndW (x:Wy) (Q:List Wy):Bool:=match Q[idxW x Q]? with
 | none=>false
 | some y=>decide (wyCmp y x=0)
theorem encWy_len (w:Wy):(encWy w).length=4:=rfl
theorem idxW_iff {x:Wy} {Q:List Wy} (hs:Q.Pairwise wlt) {j:Nat} {y:Wy} (hy:Q[j]?=some y):wyCmp y x<0↔j<idxW x Q:=by
 rw [wyCmp_lt]
 constructor
 ·intro h
  by_cases hj:j<idxW x Q
  ·exact hj
  ·exact absurd h (idxW_after hs (by omega) hy)
 ·intro h;exact idxW_before h hy
def c227:Cfg:=⟨[0,1,2,4,6,7,8,9,10,11,17,31],[],[],[],[(5,[0,1,2,3,4,5,6,7],[]),(8,[0,1,2,3,4,5,6,7,8,9,10,11,12,13,14,15],[])],[]⟩
theorem binNil (w:Wy):QCall Tryz.prog 227 [.sl 4 none [],.agg (encWy w),.fn 165 []] [] (.tup [.int .i64 (idxW w []),.bool (fndW w [])]):=by
 refine fcalls (F:=Tryz.f227) c227 rfl rfl rfl mixed rfl fun X=>?_
 conv=>whnf
 refine uloop 60 rfl mixed ?_
 conv=>whnf
 refine .inr ?_
 conv=>whnf
 refine cF rfl ?_
 conv=>whnf
 repeat ((first|(refine ⟨0,[.int .i64 0,.int .i64 0,.int .i64 0,.int .i64 0],?_,?_⟩;(focus (conv=>whnf;skip));(focus (intro hq;exact absurd hq (by decide))))|(refine ⟨.int .i64 0,?_,?_⟩;(focus (conv=>whnf;skip));(focus (intro hq;exact absurd hq (by decide))))|refine And.intro (by show drawOK (opsAt Tryz.f227 _) _=true;decide +kernel) ?_);conv=>whnf)
 exact ⟨rfl,rfl⟩
theorem binW (x:Wy) (Q:List Wy) (hs:Q.Pairwise wlt) (b:Nat) (pre:List AV) (hl:Q.length≤4294967296) :
  QCall Tryz.prog 227 [.osl b pre.length Q.length 4,.agg (encWy x),.fn 165 []] [(b,.vec (pre++(Q.map encWy).flatten))] (.tup [.int .i64 (idxW x Q),.bool (fndW x Q)]):=by
 have hile:=idxW_le x Q
 by_cases hne:0<Q.length
 rotate_left
 ·have hq:Q=[]:=List.eq_nil_of_length_eq_zero (by omega)
  subst hq
  exact QCall.args (QCall.wide (binNil x) _) (.cons VLe.osl0 (.cons (VLe.refl _) (.cons (VLe.refl _) .nil)))
 refine fcalls (F:=Tryz.f227) c227 rfl rfl rfl mixed rfl fun X=>?_
 conv=>whnf
 skip
 refine sloop rfl mixed [0,2,4,8,9,10] [] (fun m r h=>∃ (i j:Nat),r=[(0,[],.osl b pre.length Q.length 4),(2,[],.fn 165 []),(4,[],.iptr (encWy x)),(8,[],.int .i64 Q.length),(9,[],.int .i64 i),(10,[],.int .i64 j)]∧h=[(b,.vec (pre++(Q.map encWy).flatten))]∧m=j - i∧i≤idxW x Q∧idxW x Q≤j∧j≤Q.length) ?_ ?_
 ·conv=>whnf
  exact ⟨_,0,Q.length,rfl,rfl,rfl,by omega,by omega,by omega⟩
 ·rintro m r h ⟨i,j,rfl,rfl,rfl,hi,hj,hjl⟩
  conv=>whnf
  refine ⟨fun hz=>?_,fun hz=>?_⟩<;>simp at hz
  ·have hmid:((i:Int)+(j:Int)) / 2=(((i+j) / 2:Nat):Int):=by omega
   obtain ⟨y,hy⟩:=get_lt (l:=Q) (i:=(i+j) / 2) (by omega)
   have hcm:=idxW_iff (x:=x) hs hy
   have hw:IntKind.u64.wrap ((i:Int)+(j:Int))=(i:Int)+(j:Int):=by
    simp [IntKind.wrap,IntKind.signed,IntKind.bits];omega
   conv=>whnf
   repeat (refine ⟨gP_of ⟨by omega,by omega⟩,?_⟩;conv=>whnf)
   rw [hw]
   refine ⟨gP_of ⟨⟨rfl,rfl⟩,by omega,by omega⟩,?_⟩
   rw [hmid]
   conv=>whnf
   repeat ((first|refine ⟨gP_of ⟨by omega,by omega⟩,?_⟩|(refine ⟨(i+j) / 2,gP_of ⟨rfl,by omega⟩,?_⟩)|(refine ldP encWy_len (.head _) rfl hy ?_)|refine gcall (wayCompare y x) ?_|refine And.intro (by show drawOK (opsAt Tryz.f227 _) _=true;decide +kernel) ?_);conv=>whnf)
   refine ⟨fun hc=>?_,fun hc=>?_⟩<;>simp at hc
   ·conv=>whnf
    repeat (refine ⟨gP_of ⟨by omega,by omega⟩,?_⟩;conv=>whnf)
    exact ⟨_,by omega,(i+j) / 2+1,j,rfl,rfl,rfl,by have:=hcm.1 hc;omega,hj,hjl⟩
   ·conv=>whnf
    skip
    exact ⟨_,by omega,i,(i+j) / 2,rfl,rfl,rfl,hi,by have:=mt hcm.2 (by omega);omega,by omega⟩
  ·have hie:i=idxW x Q:=by omega
   subst hie
   by_cases hlt:idxW x Q<Q.length
   ·obtain ⟨y,hy⟩:=get_lt (l:=Q) (i:=idxW x Q) hlt
    conv=>whnf
    repeat ((first|(refine ⟨idxW x Q,gP_of ⟨rfl,by omega⟩,?_⟩)|(refine ldP encWy_len (.head _) rfl hy ?_)|refine gcall (wayCompare y x) ?_|refine And.intro (by show drawOK (opsAt Tryz.f227 _) _=true;decide +kernel) ?_);conv=>whnf)
    refine ⟨?_,rfl⟩
    unfold fndW
    rw [hy]
    simp [hlt]
   ·have hn:Q[idxW x Q]?=none:=List.getElem?_eq_none (by omega)
    obtain ⟨y,hy⟩:=get_lt (l:=Q) (i:=0) hne
    have hdf:decide (((idxW x Q:Nat):Int)<(Q.length:Int))=false:=by simp;omega
    conv=>whnf
    repeat (refine And.intro (by show drawOK (opsAt Tryz.f227 _) _=true;decide +kernel) ?_;conv=>whnf)
    rw [hdf]
    repeat ((first|(refine ⟨0,(fun hq=>by cases hq),?_⟩)|(refine ldP (i:=0) encWy_len (.head _) rfl hy ?_)|refine gcall (wayCompare y x) ?_);conv=>whnf)
    refine ⟨?_,rfl⟩
    unfold fndW
    rw [hn]
    rfl
def c228:Cfg:=⟨[0,1,2,6,7,8,9,16,22,31,68],[],[],[],[(11,[0,1,2,3,4,5,6,7,8],[]),(15,[0,1,2,3,4,5,6,7,8],[])],[]⟩
theorem insNilW (x:Wy) (vb:Nat):ACalls Tryz.prog 228 [.nilS,.int .i64 0,.osl vb 0 1 4] [(vb,.vec (encWy x))] (fun v h'=>∃ q,v=.osl q 0 1 4∧h'=[(q,.vec (encWy x)),(vb,.vec (encWy x))]):=by
 refine fcalls (F:=Tryz.f228) c228 rfl rfl rfl mixed rfl fun X=>?_
 conv=>whnf
 repeat (refine ⟨gP_of ⟨by omega,by omega⟩,?_⟩;conv=>whnf)
 refine cF rfl ?_
 conv=>whnf
 skip
 refine cT rfl ?_
 conv=>whnf
 repeat ((refine ⟨_,[encWy x],.head _,⟨rfl,by simp [encWy],rfl⟩,⟨Nat.le_of_ble_eq_true rfl,Nat.le_of_ble_eq_true rfl⟩,fun q=>?_⟩);conv=>whnf)
 exact ⟨q,rfl,rfl⟩
theorem over224:Extern.find Tryz.f258=some (Extern.SlicesOverlaps.overlaps #[196,196] #[4]):=by kernel_rfl
def InsR (x:Wy) (Q:List Wy) (i vb:Nat) (v:AV) (h':Heap):Prop:=∃ b' pre',VLe v (.osl b' pre'.length (Q.length+1) 4)∧∃ h2,h'.Perm ((b',.vec (pre'++((Q.take i++x::Q.drop i).map encWy).flatten))::h2)
theorem insC (x:Wy) (Q:List Wy) (i:Nat) (hi:i≤Q.length) (b vb off c:Nat) (pre cs:List AV) (hcs:cs=pre++(Q.map encWy).flatten) (ho:0<c→off=pre.length) (hc:Q.length≤c) (hl:Q.length≤65536) (hne:vb≠b) :
  ACalls Tryz.prog 228 [.oslc b off Q.length c 4,.int .i64 i,.osl vb 0 1 4] [(b,.vec cs),(vb,.vec (encWy x))] (InsR x Q i vb):=by
 have hcl:cs.length=pre.length+Q.length*4:=by rw [hcs,List.length_append,flat_len encWy_len]
 refine fcalls (F:=Tryz.f228) c228 rfl rfl rfl mixed rfl fun X=>?_
 conv=>whnf
 repeat (refine ⟨gP_of ⟨by omega,by omega⟩,?_⟩;conv=>whnf)
 refine cF rfl ?_
 conv=>whnf
 skip
 refine ⟨fun he=>?_,fun he=>?_⟩<;>simp at he
 ·have he:i=Q.length:=by omega
  subst he
  have hfl:((Q.take Q.length++x::Q.drop Q.length).map encWy).flatten=(Q.map encWy).flatten++[encWy x].flatten:=by
   rw [List.take_length,List.drop_length,List.map_append,List.flatten_append];rfl
  by_cases hroom:Q.length+1≤c
  ·have:=ho (by omega)
   subst this
   conv=>whnf
   repeat ((refine ⟨_,[encWy x],.tail _ (.head _),⟨rfl,by simp [encWy],rfl⟩,by unfold AMAX;omega,cs,.head _,.inl ⟨hroom,hcl,_,.here _,?_⟩⟩);conv=>whnf)
   refine ⟨b,pre,VLe.oslc,[(vb,.vec (encWy x))],?_⟩
   rw [hcs,hfl,← List.append_assoc]
  ·have hcs2:Q.length=0∨off+Q.length*4≤cs.length:=by
    by_cases h0:Q.length=0
    ·exact .inl h0
    ·have:=ho (by omega)
     exact .inr (by omega)
   have htk:(cs.drop off).take (Q.length*4)=(Q.map encWy).flatten:=by
    by_cases h0:Q.length=0
    ·have:Q=[]:=List.eq_nil_of_length_eq_zero h0
     subst this;simp
    ·have:=ho (by omega)
     rw [hcs,this,List.drop_left,List.take_of_length_le (by rw [flat_len encWy_len];exact Nat.le_refl _)]
   conv=>whnf
   repeat ((refine ⟨_,[encWy x],.tail _ (.head _),⟨rfl,by simp [encWy],rfl⟩,by unfold AMAX;omega,cs,.head _,.inr ⟨by omega,hcs2,fun q=>?_⟩⟩);conv=>whnf)
   refine ⟨q,[],VLe.refl _,[(b,.vec cs),(vb,.vec (encWy x))],?_⟩
   rw [htk,hfl]
   exact .refl _
 ·have hin:i<Q.length:=by omega
  have hoff:=ho (by omega)
  subst hoff
  have z1:(i:Int).toNat - Int.toNat 0=i:=by simp
  have z2:c - Int.toNat 0=c:=by simp
  have z3:offC pre.length (Int.toNat 0) c 4=pre.length:=by unfold offC;split<;>simp
  have z4:(Q.length:Int)+((1:Nat):Int) - (i:Int)=((Q.length+1 - i:Nat):Int):=by omega
  have z5:offC pre.length (i:Int).toNat c 4=pre.length+i*4:=by unfold offC;rw [if_neg (by simp;omega)];simp
  have hd0:cs.drop pre.length=(Q.map encWy).flatten:=by rw [hcs,List.drop_left]
  have hdi:cs.drop (pre.length+i*4)=((Q.drop i).map encWy).flatten:=by rw [hcs,List.drop_append,List.drop_eq_nil_of_le (by omega),List.nil_append,Nat.add_sub_cancel_left,flat_drop encWy_len]
  conv=>whnf
  repeat (refine ⟨gP_of ⟨by omega,by omega⟩,?_⟩;conv=>whnf)
  refine ⟨fun hz=>?_,fun hz=>?_⟩<;>simp at hz
  ·conv=>whnf
   repeat (refine ⟨gP_of ⟨by omega,by omega⟩,?_⟩;conv=>whnf)
   rw [z1,z2,z3,z4]
   refine ⟨cs,.head _,⟨by omega,by omega,by omega,by omega⟩,fun q=>?_⟩
   rw [hd0,flat_take encWy_len,Int.toNat_natCast,show i+(Q.length+1 - i)=Q.length+1 by omega]
   conv=>whnf
   repeat (refine ⟨gP_of ⟨by omega,by omega⟩,?_⟩;conv=>whnf)
   have m1:min 1 (((Q.length+1:Nat):Int).toNat - (i:Int).toNat)=1:=by rw [Int.toNat_natCast,Int.toNat_natCast];omega
   have m2:0+(i:Int).toNat*4=i*4:=by simp
   have hTl:((Q.take i).map encWy).flatten.length=i*4:=by rw [flat_len encWy_len,List.length_take];omega
   have hDl:((Q.drop i).map encWy).flatten.length=(Q.length - i)*4:=by rw [flat_len encWy_len,List.length_drop]
   have hBl:(repC (Q.length+1 - i) [AV.int .i64 0,AV.int .i64 0,AV.int .i64 0,AV.int .i64 0]).length=(Q.length+1 - i)*4:=by unfold repC;simp
   rw [m1,m2]
   refine ⟨_,[encWy x],.tail _ (.tail _ (.head _)),⟨rfl,by simp [encWy],rfl⟩,_,_,.here _,⟨by omega,?_⟩,?_⟩
   ·rw [List.length_append,hTl,hBl]
    show i*4+4≤_
    omega
   conv=>whnf
   repeat ((first|refine ⟨gP_of ⟨by omega,by omega⟩,?_⟩|refine And.intro (by show drawOK (opsAt Tryz.f228 _) _=true;decide +kernel) ?_);conv=>whnf)
   have m3:min ((Q.length:Int).toNat - (i:Int).toNat) (((Q.length+1:Nat):Int).toNat - ((i:Int)+((1:Nat):Int)).toNat)=Q.length - i:=by
    rw [show (i:Int)+((1:Nat):Int)=((i+1:Nat):Int) by omega]
    simp only [Int.toNat_natCast]
    omega
   have m4:0+((i:Int)+((1:Nat):Int)).toNat*4=(i+1)*4:=by
    rw [show (i:Int)+((1:Nat):Int)=((i+1:Nat):Int) by omega,Int.toNat_natCast,Nat.zero_add]
   rw [m3,m4,z5]
   have hgr:=grow_eq (A:=((Q.take i).map encWy).flatten) (B:=repC (Q.length+1 - i) [AV.int .i64 0,AV.int .i64 0,AV.int .i64 0,AV.int .i64 0]) (X:=encWy x) (D:=((Q.drop i).map encWy).flatten) (n:=i*4) (m:=(i+1)*4) hTl.symm (by rw [hTl];show _=i*4+4;omega) (by rw [hBl,hDl];show _=4+_;omega)
   refine ⟨cs,(Q.drop i).map encWy,.tail _ (.head _),⟨?_,?_,by simp⟩,_,_,.here _,⟨by omega,?_⟩,?_⟩
   ·rw [hdi,List.take_of_length_le (by rw [hDl];exact Nat.le_refl _)]
   ·intro z hz
    obtain ⟨w,_,rfl⟩:=List.mem_map.1 hz
    rfl
   ·have h1:(setC (((Q.take i).map encWy).flatten++repC (Q.length+1 - i) [AV.int .i64 0,AV.int .i64 0,AV.int .i64 0,AV.int .i64 0]) (i*4) [encWy x].flatten).length=(Q.length+1)*4:=by
     rw [setC_length _ _ _ (by rw [List.length_append,hTl,hBl];show i*4+4≤_;omega),List.length_append,hTl,hBl]
     omega
    rw [h1,hDl]
    omega
   conv=>whnf
   skip
   refine ⟨q,[],VLe.refl _,[(b,.vec cs),(vb,.vec (encWy x))],?_⟩
   rw [show [encWy x].flatten=encWy x from by simp,hgr,List.map_append,List.flatten_append]
   exact .refl _
  ·conv=>whnf
   repeat (refine ⟨gP_of ⟨by omega,by omega⟩,?_⟩;conv=>whnf)
   rw [z2,z3]
   have z7:offC pre.length ((i:Int)+((1:Nat):Int)).toNat c 4=pre.length+(i+1)*4:=by
    rw [show (i:Int)+((1:Nat):Int)=((i+1:Nat):Int) by omega,Int.toNat_natCast]
    unfold offC;rw [if_neg (by omega)]
   have z9:((Q.length:Int)+((1:Nat):Int)).toNat - Int.toNat 0=Q.length+1:=by
    rw [show (Q.length:Int)+((1:Nat):Int)=((Q.length+1:Nat):Int) by omega];simp
   have z8:(((Q.length+1:Nat):Int)).toNat - ((i:Int)+((1:Nat):Int)).toNat=Q.length - i:=by
    rw [show (i:Int)+((1:Nat):Int)=((i+1:Nat):Int) by omega,Int.toNat_natCast,Int.toNat_natCast];omega
   rw [z7,z9,z8]
   refine overOK (fn:=Tryz.f258) rfl rfl rfl (by kernel_rfl) over224 rfl (by decide) (.tail _ (.head _)) (.head _) hne (by omega) (by omega) ?_
   conv=>whnf
   skip
   refine cT rfl ?_
   conv=>whnf
   repeat ((first|refine ⟨gP_of ⟨by omega,by omega⟩,?_⟩|refine And.intro (by show drawOK (opsAt Tryz.f228 _) _=true;decide +kernel) ?_);conv=>whnf)
   have hTl:((Q.take i).map encWy).flatten.length=i*4:=by rw [flat_len encWy_len,List.length_take];omega
   have hDl:((Q.drop i).map encWy).flatten.length=(Q.length - i)*4:=by rw [flat_len encWy_len,List.length_drop]
   have m3:min (((Q.length+1:Nat):Int).toNat - (i:Int).toNat) (((Q.length+1:Nat):Int).toNat - ((i:Int)+((1:Nat):Int)).toNat)=Q.length - i:=by
    rw [show (i:Int)+((1:Nat):Int)=((i+1:Nat):Int) by omega]
    simp only [Int.toNat_natCast]
    omega
   have hce:cs=(pre++((Q.take i).map encWy).flatten)++((Q.drop i).map encWy).flatten:=by
    rw [hcs,List.append_assoc,← List.flatten_append,← List.map_append,List.take_append_drop]
   have hal:(pre++((Q.take i).map encWy).flatten).length=pre.length+i*4:=by rw [List.length_append,hTl]
   have hsh:=shift_eq (A:=pre++((Q.take i).map encWy).flatten) (X:=encWy x) (D:=((Q.drop i).map encWy).flatten) (n:=pre.length+i*4) (m:=pre.length+(i+1)*4) hal.symm (by rw [hal];show _=_+4;omega) (by rw [hDl];show 4≤_;omega)
   rw [← hce] at hsh
   rw [m3,z5,z7]
   refine ⟨cs,(Q.drop i).map encWy,.head _,⟨?_,?_,by simp⟩,_,_,.here _,⟨by omega,by omega⟩,?_⟩
   ·rw [hdi,List.take_of_length_le (by rw [hDl];exact Nat.le_refl _)]
   ·intro z hz
    obtain ⟨w,_,rfl⟩:=List.mem_map.1 hz
    rfl
   conv=>whnf
   repeat (refine ⟨gP_of ⟨by omega,by omega⟩,?_⟩;conv=>whnf)
   have m1:min 1 (((Q.length+1:Nat):Int).toNat - (i:Int).toNat)=1:=by rw [Int.toNat_natCast,Int.toNat_natCast];omega
   rw [m1,z5]
   refine ⟨_,[encWy x],.tail _ (.head _),⟨rfl,by simp [encWy],rfl⟩,_,_,.here _,⟨by omega,?_⟩,?_⟩
   ·unfold setC
    simp only [List.length_append,List.length_take,List.length_drop]
    omega
   conv=>whnf
   skip
   refine ⟨b,pre,VLe.oslc,[(vb,.vec (encWy x))],?_⟩
   rw [show [encWy x].flatten=encWy x from by simp,hsh,show pre++((Q.take i++x::Q.drop i).map encWy).flatten=(pre++((Q.take i).map encWy).flatten)++(encWy x++((Q.drop i).map encWy).flatten) from by simp [List.append_assoc]]
def OpenR (Q:List Wy) (ov:AV) (oh:Heap):Prop:=(Q=[]∧ov=.nilS∧oh=[])∨∃ b pre,ov=.osl b pre.length Q.length 4∧oh=[(b,.vec (pre++(Q.map encWy).flatten))]
theorem insW_acalls (x:Wy) (Q:List Wy) (b vb:Nat) (pre:List AV) (hl:Q.length≤65536) :
  ACalls Tryz.prog 228 [.osl b pre.length Q.length 4,.int .i64 (idxW x Q),.osl vb 0 1 4] [(b,.vec (pre++(Q.map encWy).flatten)),(vb,.vec (encWy x))]
   (fun v h'=>∃ b' pre',v=.osl b' pre'.length (Q.length+1) 4∧h'=[(b',.vec (pre'++((insW x Q).map encWy).flatten))]):=by
 by_cases hne:vb=b
 ·subst hne
  refine ⟨fun X g w us hc hr=>?_⟩
  have:=hc.nodup
  simp [keys] at this
 refine ACalls.post (ACalls.capOr fun off' c ho hc=>insC x Q (idxW x Q) (idxW_le x Q) b vb off' c pre _ rfl ho hc hl hne) ?_
 rintro v h1 ⟨b',pre',hv,h2,hp⟩
 refine ⟨_,_,⟨b',pre',rfl,rfl⟩,hv,fun k o hm=>hp.mem_iff.2 (by cases List.mem_singleton.1 hm;exact List.mem_cons_self),fun _=>by simp [keys]⟩
def ndC (mv fv ov:AV) (due:Bool):List AV:=[mv,fv,ov,.fn 165 [],.bool due]
def c164:Cfg:=⟨[0,1,3,4],[26],[],[],[(1,[0,1,2,3,4,5,6,7,8,9,10,11,12,13,14],[]),(2,[0,1,2,3,4,5,6,7,8,9,10,11],[])],[26,27]⟩
theorem putW (x:Wy) (Q:List Wy) (hs:Q.Pairwise wlt) (nk:Nat) (mv fv:AV) (due:Bool) (ov:AV) (oh:Heap) (ho:OpenR Q ov oh) (hl:Q.length≤65536) :
  ACalls Tryz.prog 164 [.optr nk 2,.agg (encWy x)] ((nk,.vec (ndC mv fv ov due))::oh)
   (fun v h'=>v=.tup []∧∃ ov' oh',OpenR (insW x Q) ov' oh'∧h'=(nk,.vec (ndC mv fv ov' due))::oh'):=by
 have hil:=insW_length x Q
 refine ACalls.post (R:=fun v h'=>v=.tup []∧∃ ov' oh' g,OpenR (insW x Q) ov' oh'∧h'.Perm ((nk,.vec (ndC mv fv ov' due))::(oh'++g))) ?_ ?_
 ·rcases ho with ⟨rfl,rfl,rfl⟩|⟨b,pre,rfl,rfl⟩
  ·have hbn:QCall Tryz.prog 227 [.nilS,.agg (encWy x),.fn 165 []] [] (.tup [.int .i64 (idxW x []),.bool (fndW x [])]):=
    QCall.args (binNil x) (.cons (VLe.nil (by decide)) (VsLe.refl _))
   refine fcalls (F:=Tryz.f164) c164 rfl rfl rfl mixed rfl fun X=>?_
   conv=>whnf
   repeat ((first|refine gcall (hbn) ?_|refine ⟨_,_,.head _,rfl,?_⟩|refine And.intro (by show drawOK (opsAt Tryz.f164 _) _=true;decide +kernel) ?_|intro (nb:Nat));conv=>whnf)
   refine ACalls.mono ?_ (ACalls.frame (insNilW x nb) _)
   rintro v h1 ⟨h2,⟨q,rfl,rfl⟩,rfl⟩
   conv=>whnf
   repeat ((refine ⟨_,_,.there (.there (.here _)),leOK,?_⟩);conv=>whnf)
   exact ⟨rfl,.osl q 0 1 4,[(q,.vec (encWy x))],[(nb,.vec (encWy x))],.inr ⟨q,[],rfl,rfl⟩,List.perm_append_comm (l₁:=[(q,_),(nb,_)]) (l₂:=[(nk,_)])⟩
  ·have hbn:QCall Tryz.prog 227 [.osl b pre.length Q.length 4,.agg (encWy x),.fn 165 []] [(nk,.vec (ndC mv fv (.osl b pre.length Q.length 4) due)),(b,.vec (pre++(Q.map encWy).flatten))] (.tup [.int .i64 (idxW x Q),.bool (fndW x Q)]):=
    QCall.perm (h2:=[(nk,.vec (ndC mv fv (.osl b pre.length Q.length 4) due))]) (binW x Q hs b pre (by omega)) (List.perm_append_comm (l₁:=[_]) (l₂:=[_]))
   refine fcalls (F:=Tryz.f164) c164 rfl rfl rfl mixed rfl fun X=>?_
   conv=>whnf
   repeat ((first|(refine gcallH hbn ?_)|refine ⟨_,_,.head _,rfl,?_⟩|refine And.intro (by show drawOK (opsAt Tryz.f164 _) _=true;decide +kernel) ?_|intro (nb:Nat));conv=>whnf)
   refine ACalls.mono (R:=fun v h1=>∃ b' pre' g,v=.osl b' pre'.length (Q.length+1) 4∧h1=(b',.vec (pre'++((insW x Q).map encWy).flatten))::(nk,.vec (ndC mv fv (.osl b pre.length Q.length 4) due))::g) ?_ (ACalls.re (insW_acalls x Q b nb pre hl) (h2:=[(nk,.vec (ndC mv fv (.osl b pre.length Q.length 4) due))]) ?_ ?_)
   ·rintro v h1 ⟨b',pre',g,rfl,rfl⟩
    conv=>whnf
    repeat ((refine ⟨_,_,.there (.here _),leOK,?_⟩);conv=>whnf)
    exact ⟨rfl,.osl b' pre'.length (Q.length+1) 4,[(b',.vec (pre'++((insW x Q).map encWy).flatten))],g,.inr ⟨b',pre',by rw [hil],rfl⟩,List.Perm.swap _ _ _⟩
   ·exact (List.Perm.swap _ _ _).trans (List.Perm.cons _ (List.Perm.swap _ _ _))
   ·rintro v h1 ⟨b',pre',rfl,rfl⟩
    exact ⟨_,.refl _,b',pre',[],rfl,rfl⟩
 ·rintro v h1 ⟨rfl,ov',oh',g,ho',hp⟩
  refine ⟨_,_,⟨rfl,ov',oh',ho',rfl⟩,VLe.refl _,fun k o hm=>hp.mem_iff.2 ?_,fun hn=>?_⟩
  ·rcases List.mem_cons.1 hm with h|h
   ·rw [h];exact List.mem_cons_self
   ·exact List.mem_cons_of_mem _ (List.mem_append_left _ h)
  ·have h1:=((hp.map (fun p:Nat × Ob=>p.1)).nodup_iff).1 hn
   unfold keys
   simp only [List.map_cons,List.map_append,List.nodup_cons,List.mem_append,not_or,List.nodup_append] at h1 ⊢
   exact ⟨h1.1.1,h1.2.1⟩
end Go.Abs.Wall.Spl
namespace Go.Abs.Wall.Spl
open Go Go.Abs Go.Proofs Go.Abs.Wall
structure Hab where
 signs:List Int
 rpt:Int
 cls:Int
deriving DecidableEq
structure Sta where
 n:Int
 at_:Int
 cls:Bool
 hv:Int
deriving DecidableEq
structure Mv where
 sign:Int
 cost:Int
 use:Use
 to:Sta
structure Env where
 H:Hou
 B:Hab
 ent:Ent
 snd:List UInt8
 bnd:List Int
 wgt:Int
 mis:Int
 uses:List (List Use)
def encHab (b:Hab):List AV:=[.sl 1 none (ints b.signs),.int .i64 b.rpt,.int .i64 b.cls]
def encSta (x:Sta):List AV:=[.int .i64 x.n,.int .i64 x.at_,.bool x.cls,.int .i64 x.hv]
def encMv (m:Mv):List AV:=[.int .i64 m.sign,.int .i64 m.cost]++(encUse m.use++encSta m.to)
def seaC (E:Env) (nv cv:AV):List AV:=encHou E.H++(encHab E.B++(encEnt E.ent++[.str E.snd,.sl 1 none (ints E.bnd),.int .i64 E.wgt,.int .i64 E.mis,.sl 1 none (encRows E.uses),nv,cv]))
def hvU (u:Use):Bool:=decide (u.kind=2)||(decide (u.kind=1)&&decide (2≤(u.text.length:Int)))
def hv0 (u:Use):Int:=if hvU u=true then u.text.length else 0
def endGo:List Int→Int→Int
 | [],a=>a
 | n::t,a=>if a<n then n else endGo t a
def prefM (s t:List UInt8) (a e:Int):Bool:=decide (a+t.length≤e)&&begins (s.drop a.toNat) t
def nextM (E:Env) (x:Sta) (u:Use):Sta × Bool:=
 if ((decide (E.B.rpt=2)&&decide (0<x.hv))&&!decide (u.kind=3))=true then (x,false)
 else if u.kind=1 then (⟨x.n+1,x.at_+u.text.length,x.cls,hv0 u⟩,prefM E.snd u.text x.at_ (endGo E.bnd x.at_))
 else if u.kind=2 then (⟨x.n+1,u.text.length,x.cls,hv0 u⟩,decide (x.n=0)&&decide (u.text=E.ent.root))
 else if u.kind=3 then (⟨x.n+1,x.at_,x.cls,hv0 u⟩,(!decide (E.B.rpt=0)&&decide ((u.text.length:Int)≤x.hv))&&endsW (E.snd.take x.at_.toNat) u.text)
 else if u.kind=4 then (⟨x.n+1,x.at_,true,hv0 u⟩,(((!decide (E.B.cls=0))&&!x.cls)&&decide (u.text=E.ent.cls))&&decide (x.at_=E.bnd.headD 0))
 else (x,false)
def costM (E:Env) (u:Use):Int:=if u.kind=1 then E.H.costs.spell else if u.kind=2 then E.H.costs.stand else if u.kind=3 then E.H.costs.rpt else E.H.costs.cls
def lastM (E:Env) (x:Sta):Int × Bool:=
 if (decide (x.n=0)||(decide (x.at_<E.snd.length)||(decide (E.B.rpt=2)&&decide (0<x.hv))))=true then (0,false)
 else if (x.cls||decide (E.ent.cls=[]))=true then (E.wgt,true)
 else (E.wgt+E.mis,!decide (E.B.cls=2))
def mvOne (E:Env) (x:Sta) (s:Nat) (u:Use):List Mv:=if ((nextM E x u).2&&decide (0≤E.B.signs.getD s 0))=true then [⟨s,costM E u+E.B.signs.getD s 0,u,(nextM E x u).1⟩] else []
def mvUses (E:Env) (x:Sta) (s:Nat):List Use→List Mv
 | []=>[]
 | u::t=>mvOne E x s u++mvUses E x s t
def mvRows (E:Env) (x:Sta):Nat→List (List Use)→List Mv
 | _,[]=>[]
 | s,us::t=>mvUses E x s us++mvRows E x (s+1) t
def movesM (E:Env) (x:Sta):List Mv:=if x.n=12 then [] else mvRows E x 0 E.uses
structure EOK (E:Env):Prop where
 hab:E.B.signs.length=E.uses.length
 rows:E.uses.length≤200
 row:∀ us∈E.uses,us.length≤200
 text:∀ us∈E.uses,∀ u∈us,u.text.length≤8
 sgn:∀ n∈E.B.signs,-1≤n∧n≤1000
 snd:E.snd.length≤1000
 root:E.ent.root.length≤E.snd.length
 bnd:E.bnd≠[]∧E.bnd.length≤1000∧∀ n∈E.bnd,0≤n∧n≤E.snd.length
 wgt:0≤E.wgt∧E.wgt≤100000
 mis:0≤E.mis∧E.mis≤1000
 cost:∀ c∈costL E.H.costs,0≤c∧c≤1000
structure StOK (E:Env) (x:Sta):Prop where
 n:0≤x.n∧x.n≤12
 at_:0≤x.at_∧x.at_≤E.snd.length
 hv:0≤x.hv∧x.hv≤8
def c142:Cfg:=⟨[0,1,2],[],[],[],[],[]⟩
def c230:Cfg:=⟨[0,1,4,6,10,11,12,13,18],[],[],[],[],[]⟩
def c229:Cfg:=⟨[0,1,2,3,8],[],[],[],[],[]⟩
def c174:Cfg:=⟨[0,1,3,4,6,7,15,23],[],[],[],[],[]⟩
def c117:Cfg:=⟨[0,1,3,4,5,6,29],[],[],[],[(2,[0,1,2,3,4,5,6,7,8],[]),(7,[0,1,2,3,4,5,6,7,8,9,10,11,12,13,14,15,16],[])],[]⟩
def c173:Cfg:=⟨[0,1,2,4,5,6,7,8,24,35,41,42,65,85,114],[],[],[],[(9,[0,1,2,3,4,5,6,7,8,9,10,11,12,13,14,15],[]),(12,[0,1,2,3,4,5,6,7,8,9,10,11,12,13,14,15],[]),(14,[0,1,2,3,4,5,6,7,8,9,10,11,12,13,14,15,16,17,18,19,20,21,22,23,24,25,26,27,28],[]),(17,[0,1,2,3,4,5,6,7,8,9,10,11,12,13,14,15,16,17,18,19,20,21,22,23,24,25,26,27,28,29,30,31,32,33,34],[])],[]⟩
def c118:Cfg:=⟨[0,1,3,4,5,6,8,9,10,13,17,18,19,20,24,25,26,27,48],[],[8,9],[],[(11,[0,1,2,3,4,5,6,7,8,9,10,11,12,13,14,15,16,17,18,19],[])],[]⟩
theorem spHeavy (u:Use):QCall Tryz.prog 142 [.agg (encUse u)] [] (.bool (hvU u)):=by
 refine fcalls (F:=Tryz.f142) c142 rfl rfl rfl mixed rfl fun X=>?_
 conv=>whnf
 skip
 exact ⟨rfl,rfl⟩
theorem spEnd (E:Env) (nv cv:AV) (a:Int) (hE:EOK E):QCall Tryz.prog 230 [.iptr (seaC E nv cv),.int .i64 a] [] (.int .i64 (endGo E.bnd a)):=by
 have hb:=hE.bnd.2.1
 refine fcalls (F:=Tryz.f230) c230 rfl rfl rfl mixed rfl fun X=>?_
 conv=>whnf
 skip
 refine sloop rfl mixed [1,10,11,12] [] (fun m r h=>∃ (i:Nat),r=[(1,[],.int .i64 a),(10,[],.sl 1 none (ints E.bnd)),(11,[],.int .i64 (ints E.bnd).length),(12,[],.int .i64 i)]∧h=[]∧m=E.bnd.length - i∧i≤E.bnd.length∧endGo E.bnd a=endGo (E.bnd.drop i) a) ?_ ?_
 ·conv=>whnf
  exact ⟨_,0,rfl,rfl,rfl,by omega,rfl⟩
 ·rintro m r h ⟨i,rfl,rfl,rfl,hi,hg⟩
  conv=>whnf
  refine ⟨fun hc=>?_,fun hc=>?_⟩<;>rw [ints_length] at hc<;>simp at hc
  ·obtain ⟨n,hn⟩:=get_lt hc
   rw [drop_cons hn,endGo] at hg
   conv=>whnf
   repeat (refine ix (by assumption) ?_;conv=>whnf)
   refine ⟨fun hq=>?_,fun hq=>?_⟩<;>simp at hq
   ·rw [if_pos hq] at hg
    conv=>whnf
    skip
    exact ⟨congrArg _ hg.symm,rfl⟩
   ·rw [if_neg (by omega)] at hg
    conv=>whnf
    repeat (refine ⟨gP_of ⟨by omega,by omega⟩,?_⟩;conv=>whnf)
    exact ⟨_,by omega,i+1,rfl,rfl,rfl,by omega,hg⟩
  ·rw [drop_nil hc,endGo] at hg
   conv=>whnf
   skip
   exact ⟨congrArg _ hg.symm,rfl⟩
theorem spCost (E:Env) (nv cv:AV) (u:Use):QCall Tryz.prog 174 [.iptr (seaC E nv cv),.agg (encUse u)] [] (.int .i64 (costM E u)):=by
 refine fcalls (F:=Tryz.f174) c174 rfl rfl rfl mixed rfl fun X=>?_
 conv=>whnf
 skip
 refine ⟨fun h1=>?_,fun h1=>?_⟩<;>simp at h1
 ·rw [costM,if_pos h1]
  conv=>whnf
  skip
  exact ⟨rfl,rfl⟩
 conv=>whnf
 skip
 refine ⟨fun h2=>?_,fun h2=>?_⟩<;>simp at h2
 ·rw [costM,if_neg h1,if_pos h2]
  conv=>whnf
  skip
  exact ⟨rfl,rfl⟩
 conv=>whnf
 skip
 refine ⟨fun h3=>?_,fun h3=>?_⟩<;>simp at h3
 ·rw [costM,if_neg h1,if_neg h2,if_pos h3]
  conv=>whnf
  skip
  exact ⟨rfl,rfl⟩
 ·rw [costM,if_neg h1,if_neg h2,if_neg h3]
  conv=>whnf
  skip
  exact ⟨rfl,rfl⟩
theorem spPrefix (s t:List UInt8) (a e:Int) (hs:s.length≤1000) (ht:t.length≤8) (ha:0≤a∧a≤1000) (he:e≤s.length):QCall Tryz.prog 229 [.str s,.str t,.int .i64 a,.int .i64 e] [] (.bool (prefM s t a e)):=by
 have hp:=hasPrefix (s.drop a.toNat) t (by unfold LMAX;rw [List.length_drop];omega) (by unfold LMAX;omega)
 have hsl:(s.take ((s.length:Nat):Int).toNat).drop a.toNat=s.drop a.toNat:=by rw [Int.toNat_natCast,List.take_length]
 rw [← hsl] at hp
 refine fcalls (F:=Tryz.f229) c229 rfl rfl rfl mixed rfl fun X=>?_
 conv=>whnf
 repeat (refine ⟨gP_of ⟨by omega,by omega⟩,?_⟩;conv=>whnf)
 refine ⟨?_,?_⟩
 ·conv=>whnf
  intro hq
  simp at hq
  exact ⟨by omega,by omega,by omega⟩
 conv=>whnf
 repeat (refine gcall (hp) ?_;conv=>whnf)
 rw [hsl]
 exact ⟨rfl,rfl⟩
theorem endGo_bound {l:List Int} {B a:Int} (h:∀ n∈l,0≤n∧n≤B) (ha:0≤a∧a≤B):0≤endGo l a∧endGo l a≤B:=by
 induction l with
 | nil=>exact ha
 | cons n t ih=>
   rw [endGo]
   split
   ·exact h n (List.mem_cons_self ..)
   ·exact ih fun m hm=>h m (List.mem_cons_of_mem _ hm)
theorem spLast (E:Env) (nv cv:AV) (x:Sta) (hE:EOK E):QCall Tryz.prog 117 [.iptr (seaC E nv cv),.agg (encSta x)] [] (.tup [.int .i64 (lastM E x).1,.bool (lastM E x).2]):=by
 have h1:=hE.snd
 have h2:=hE.wgt
 have h3:=hE.mis
 refine fcalls (F:=Tryz.f117) c117 rfl rfl rfl mixed rfl fun X=>?_
 conv=>whnf
 skip
 refine ⟨fun ha=>?_,fun ha=>?_⟩<;>simp at ha
 ·rw [lastM,if_pos (by simp [ha])]
  conv=>whnf
  repeat ((refine cT ?_ ?_;(focus (simp<;>omega)));conv=>whnf)
  exact ⟨rfl,rfl⟩
 conv=>whnf
 repeat (refine And.intro (by show drawOK (opsAt Tryz.f117 _) _=true;decide +kernel) ?_;conv=>whnf)
 refine ⟨fun hb=>?_,fun hb=>?_⟩<;>simp at hb
 ·rw [lastM,if_pos (by simp [hb])]
  conv=>whnf
  repeat ((refine cT ?_ ?_;(focus (simp<;>omega)));conv=>whnf)
  exact ⟨rfl,rfl⟩
 conv=>whnf
 skip
 refine ⟨fun hc=>?_,fun hc=>?_⟩
 ·have hc:(decide (E.B.rpt=2)&&decide (0<x.hv))=true:=hc
  rw [lastM,if_pos (by rw [hc];simp)]
  conv=>whnf
  skip
  exact ⟨rfl,rfl⟩
 have hc:(decide (E.B.rpt=2)&&decide (0<x.hv))=false:=hc
 rw [lastM,if_neg (by rw [hc];simp [ha];omega)]
 conv=>whnf
 skip
 refine ⟨fun hd=>?_,fun hd=>?_⟩
 ·have hd:(x.cls||decide (E.ent.cls=[]))=true:=hd
  rw [if_pos hd]
  conv=>whnf
  skip
  exact ⟨rfl,rfl⟩
 ·have hd:(x.cls||decide (E.ent.cls=[]))=false:=hd
  rw [if_neg (by rw [hd];decide)]
  conv=>whnf
  repeat ((first|refine ⟨gP_of ⟨by omega,by omega⟩,?_⟩|refine And.intro (by show drawOK (opsAt Tryz.f117 _) _=true;decide +kernel) ?_);conv=>whnf)
  exact ⟨rfl,rfl⟩
theorem spNext (E:Env) (nv cv:AV) (x:Sta) (u:Use) (hE:EOK E) (hx:StOK E x) (hu:u.text.length≤8):QCall Tryz.prog 173 [.iptr (seaC E nv cv),.agg (encSta x),.agg (encUse u)] [] (.tup [.agg (encSta (nextM E x u).1),.bool (nextM E x u).2]):=by
 have h1:=hE.snd
 have hx1:=hx.n
 have hx2:=hx.at_
 have hx3:=hx.hv
 refine QCall.of' ?_
 refine fcalls (F:=Tryz.f173) c173 rfl rfl rfl mixed rfl fun X=>?_
 conv=>whnf
 repeat (intro (nb:Nat);conv=>whnf)
 refine ⟨fun hq=>?_,fun hq=>?_⟩
 ·have hq:((decide (E.B.rpt=2)&&decide (0<x.hv))&&!decide (u.kind=3))=true:=hq
  rw [nextM,if_pos hq]
  conv=>whnf
  repeat ((first|refine ⟨_,_,.head _,rfl,?_⟩|refine ⟨_,_,.here _,leOK,?_⟩);conv=>whnf)
  rfl
 ·have hq:((decide (E.B.rpt=2)&&decide (0<x.hv))&&!decide (u.kind=3))=false:=hq
  conv=>whnf
  repeat ((first|refine ⟨gP_of ⟨by omega,by omega⟩,?_⟩|refine QCall.k0 (spHeavy u) ?_|refine ⟨_,_,.here _,leOK,?_⟩|intro (nb:Nat));conv=>whnf)
  have hstart:nextM E x u=if u.kind=1 then (⟨x.n+1,x.at_+u.text.length,x.cls,hv0 u⟩,prefM E.snd u.text x.at_ (endGo E.bnd x.at_))
   else if u.kind=2 then (⟨x.n+1,u.text.length,x.cls,hv0 u⟩,decide (x.n=0)&&decide (u.text=E.ent.root))
   else if u.kind=3 then (⟨x.n+1,x.at_,x.cls,hv0 u⟩,(!decide (E.B.rpt=0)&&decide ((u.text.length:Int)≤x.hv))&&endsW (E.snd.take x.at_.toNat) u.text)
   else if u.kind=4 then (⟨x.n+1,x.at_,true,hv0 u⟩,(((!decide (E.B.cls=0))&&!x.cls)&&decide (u.text=E.ent.cls))&&decide (x.at_=E.bnd.headD 0))
   else (x,false):=by rw [nextM,if_neg (by rw [hq];decide)]
  rw [hstart]
  have heb:=endGo_bound hE.bnd.2.2 hx2
  have hpre:=spPrefix E.snd u.text x.at_ (endGo E.bnd x.at_) h1 hu (by omega) (by omega)
  have hend:=spEnd E nv cv x.at_ hE
  have hsu:=hasSuffix ((E.snd.take x.at_.toNat).drop (Int.toNat 0)) u.text (by unfold LMAX;rw [List.length_drop,List.length_take];omega) (by unfold LMAX;omega)
  obtain ⟨b0,hb0⟩:=get_lt (l:=E.bnd) (i:=0) (List.length_pos_iff.2 hE.bnd.1)
  have hbh:E.bnd.headD 0=b0:=by
   have:=hE.bnd.1
   cases hbb:E.bnd with
   | nil=>exact absurd hbb this
   | cons c t=>rw [hbb] at hb0;simpa using hb0
  refine ⟨fun hh=>?_,fun hh=>?_⟩
  ·have hv:hv0 u=u.text.length:=by rw [hv0,if_pos hh]
   rw [hv]
   conv=>whnf
   repeat (refine ⟨_,_,.here _,leOK,?_⟩;conv=>whnf)
   refine ⟨fun k1=>?_,fun k1=>?_⟩<;>simp at k1
   ·rw [if_pos k1]
    conv=>whnf
    repeat ((first|refine ⟨gP_of ⟨by omega,by omega⟩,?_⟩|refine gcall (hend) ?_|refine gcall (hpre) ?_|refine ⟨_,_,.head _,rfl,?_⟩|refine ⟨_,_,.tail _ (.head _),rfl,?_⟩|refine ⟨_,_,.here _,leOK,?_⟩|refine ⟨_,_,.there (.here _),leOK,?_⟩|refine And.intro (by show drawOK (opsAt Tryz.f173 _) _=true;decide +kernel) ?_);conv=>whnf)
    rfl
   rw [if_neg k1]
   conv=>whnf
   skip
   refine ⟨fun k2=>?_,fun k2=>?_⟩<;>simp at k2
   ·rw [if_pos k2]
    conv=>whnf
    repeat ((first|refine ⟨_,_,.head _,rfl,?_⟩|refine ⟨_,_,.tail _ (.head _),rfl,?_⟩|refine ⟨_,_,.here _,leOK,?_⟩|refine ⟨_,_,.there (.here _),leOK,?_⟩|refine And.intro (by show drawOK (opsAt Tryz.f173 _) _=true;decide +kernel) ?_);conv=>whnf)
    rfl
   rw [if_neg k2]
   conv=>whnf
   skip
   refine ⟨fun k3=>?_,fun k3=>?_⟩<;>simp at k3
   ·rw [if_pos k3]
    conv=>whnf
    repeat ((first|refine ⟨gP_of ⟨by omega,by omega⟩,?_⟩|refine gcall (hsu) ?_|refine ⟨_,_,.head _,rfl,?_⟩|refine ⟨_,_,.tail _ (.head _),rfl,?_⟩|refine ⟨_,_,.there (.here _),leOK,?_⟩|refine And.intro (by show drawOK (opsAt Tryz.f173 _) _=true;decide +kernel) ?_);conv=>whnf)
    rfl
   rw [if_neg k3]
   conv=>whnf
   skip
   refine ⟨fun k4=>?_,fun k4=>?_⟩<;>simp at k4
   ·rw [if_pos k4]
    conv=>whnf
    repeat ((first|refine ix (by assumption) ?_|refine ⟨_,_,.head _,rfl,?_⟩|refine ⟨_,_,.tail _ (.head _),rfl,?_⟩|refine ⟨_,_,.here _,leOK,?_⟩|refine ⟨_,_,.there (.here _),leOK,?_⟩|refine And.intro (by show drawOK (opsAt Tryz.f173 _) _=true;decide +kernel) ?_);conv=>whnf)
    rw [hbh]
    rfl
   ·rw [if_neg k4]
    conv=>whnf
    repeat ((first|refine ⟨_,_,.tail _ (.head _),rfl,?_⟩|refine ⟨_,_,.there (.here _),leOK,?_⟩);conv=>whnf)
    rfl
  ·have hv:hv0 u=0:=by rw [hv0,if_neg (by rw [hh];decide)]
   rw [hv]
   conv=>whnf
   skip
   refine ⟨fun k1=>?_,fun k1=>?_⟩<;>simp at k1
   ·rw [if_pos k1]
    conv=>whnf
    repeat ((first|refine ⟨gP_of ⟨by omega,by omega⟩,?_⟩|refine gcall (hend) ?_|refine gcall (hpre) ?_|refine ⟨_,_,.head _,rfl,?_⟩|refine ⟨_,_,.tail _ (.head _),rfl,?_⟩|refine ⟨_,_,.here _,leOK,?_⟩|refine ⟨_,_,.there (.here _),leOK,?_⟩|refine And.intro (by show drawOK (opsAt Tryz.f173 _) _=true;decide +kernel) ?_);conv=>whnf)
    rfl
   rw [if_neg k1]
   conv=>whnf
   skip
   refine ⟨fun k2=>?_,fun k2=>?_⟩<;>simp at k2
   ·rw [if_pos k2]
    conv=>whnf
    repeat ((first|refine ⟨_,_,.head _,rfl,?_⟩|refine ⟨_,_,.tail _ (.head _),rfl,?_⟩|refine ⟨_,_,.here _,leOK,?_⟩|refine ⟨_,_,.there (.here _),leOK,?_⟩|refine And.intro (by show drawOK (opsAt Tryz.f173 _) _=true;decide +kernel) ?_);conv=>whnf)
    rfl
   rw [if_neg k2]
   conv=>whnf
   skip
   refine ⟨fun k3=>?_,fun k3=>?_⟩<;>simp at k3
   ·rw [if_pos k3]
    conv=>whnf
    repeat ((first|refine ⟨gP_of ⟨by omega,by omega⟩,?_⟩|refine gcall (hsu) ?_|refine ⟨_,_,.head _,rfl,?_⟩|refine ⟨_,_,.tail _ (.head _),rfl,?_⟩|refine ⟨_,_,.there (.here _),leOK,?_⟩|refine And.intro (by show drawOK (opsAt Tryz.f173 _) _=true;decide +kernel) ?_);conv=>whnf)
    rfl
   rw [if_neg k3]
   conv=>whnf
   skip
   refine ⟨fun k4=>?_,fun k4=>?_⟩<;>simp at k4
   ·rw [if_pos k4]
    conv=>whnf
    repeat ((first|refine ix (by assumption) ?_|refine ⟨_,_,.head _,rfl,?_⟩|refine ⟨_,_,.tail _ (.head _),rfl,?_⟩|refine ⟨_,_,.here _,leOK,?_⟩|refine ⟨_,_,.there (.here _),leOK,?_⟩|refine And.intro (by show drawOK (opsAt Tryz.f173 _) _=true;decide +kernel) ?_);conv=>whnf)
    rw [hbh]
    rfl
   ·rw [if_neg k4]
    conv=>whnf
    repeat ((first|refine ⟨_,_,.tail _ (.head _),rfl,?_⟩|refine ⟨_,_,.there (.here _),leOK,?_⟩);conv=>whnf)
    rfl
theorem nextM_ok {E:Env} {x:Sta} {u:Use} (hE:EOK E) (hx:StOK E x) (hu:u.text.length≤8) (hn:x.n<12) (h:(nextM E x u).2=true):StOK E (nextM E x u).1∧(nextM E x u).1.n=x.n+1:=by
 have hx1:=hx.n
 have hx2:=hx.at_
 have hx3:=hx.hv
 have hv:0≤hv0 u∧hv0 u≤8:=by unfold hv0;split<;>omega
 have heb:=endGo_bound hE.bnd.2.2 hx2
 unfold nextM at h ⊢
 split at h
 ·cases h
 rename_i h0
 rw [if_neg h0]
 split at h
 ·rename_i h1
  rw [if_pos h1]
  unfold prefM at h
  simp only [Bool.and_eq_true,decide_eq_true_eq] at h
  exact ⟨⟨⟨by simp only;omega,by simp only;omega⟩,⟨by simp only;omega,by simp only;omega⟩,hv⟩,rfl⟩
 rename_i h1
 rw [if_neg h1]
 split at h
 ·rename_i h2
  rw [if_pos h2]
  simp only [Bool.and_eq_true,decide_eq_true_eq] at h
  have hr:=hE.root
  rw [← h.2] at hr
  exact ⟨⟨⟨by simp only;omega,by simp only;omega⟩,⟨by simp only;omega,by simp only;omega⟩,hv⟩,rfl⟩
 rename_i h2
 rw [if_neg h2]
 split at h
 ·rename_i h3
  rw [if_pos h3]
  exact ⟨⟨⟨by simp only;omega,by simp only;omega⟩,hx2,hv⟩,rfl⟩
 rename_i h3
 rw [if_neg h3]
 split at h
 ·rename_i h4
  rw [if_pos h4]
  exact ⟨⟨⟨by simp only;omega,by simp only;omega⟩,hx2,hv⟩,rfl⟩
 ·cases h
theorem mvOne_len (E:Env) (x:Sta) (s:Nat) (u:Use):(mvOne E x s u).length≤1:=by unfold mvOne;split<;>simp
theorem costM_bound {E:Env} (hE:EOK E) (u:Use):0≤costM E u∧costM E u≤1000:=by
 have h:=hE.cost
 unfold costL at h
 unfold costM
 split
 ·exact h _ (by simp)
 split
 ·exact h _ (by simp)
 split
 ·exact h _ (by simp)
 ·exact h _ (by simp)
theorem spMoves (E:Env) (nv cv:AV) (x:Sta) (hE:EOK E) (hx:StOK E x):QCall Tryz.prog 118 [.iptr (seaC E nv cv),.agg (encSta x)] [] (.sl 8 none ((movesM E x).map encMv)):=by
 refine QCall.of ?_
 by_cases hn:x.n=12
 ·rw [movesM,if_pos hn]
  refine fcalls (F:=Tryz.f118) c118 rfl rfl rfl mixed rfl fun X=>?_
  conv=>whnf
  skip
  refine cT (by simp [hn]) ?_
  conv=>whnf
  skip
  exact VLe.nil (by decide)
 rw [movesM,if_neg hn]
 have hxn:=hx.n
 have hrl:=hE.rows
 have hhab:=hE.hab
 refine fcalls (F:=Tryz.f118) c118 rfl rfl rfl mixed rfl fun X=>?_
 conv=>whnf
 skip
 refine cF (by simp [hn]) ?_
 conv=>whnf
 skip
 have hrn:(encRows E.uses).length=E.uses.length:=List.length_map _
 refine tloop rfl mixed [0,3,4,17,18,19] [] (fun m r h=>∃ (i:Nat) (ov:AV) (oh:Heap) (acc:List Mv),r=[(0,[],.iptr (seaC E nv cv)),(3,[],.iptr (encSta x)),(4,[],ov),(17,[],.sl 1 none (encRows E.uses)),(18,[],.int .i64 (encRows E.uses).length),(19,[],.int .i64 i)]∧h=oh∧m=E.uses.length - i∧i≤E.uses.length∧Out 8 encMv acc ov oh∧acc.length≤200*i∧mvRows E x 0 E.uses=acc++mvRows E x i (E.uses.drop i)) ?_ ?_
 ·conv=>whnf
  exact ⟨_,_,Turn.refl _ _,_,0,.nilS,[],[],rfl,rfl,rfl,by omega,.inl ⟨rfl,rfl,rfl⟩,by simp,rfl⟩
 ·rintro m r h' ⟨i,ov,oh,acc,rfl,rfl,rfl,hi,ho,hal,hm⟩
  conv=>whnf
  refine ⟨fun hi2=>?_,fun hi2=>?_⟩<;>rw [hrn] at hi2<;>simp at hi2
  ·obtain ⟨us,hus⟩:=get_lt hi2
   have husm:=List.mem_of_getElem? hus
   have hul:=hE.row us husm
   have htx:=hE.text us husm
   obtain ⟨sg,hsg⟩:=get_lt (l:=E.B.signs) (i:=i) (by omega)
   have hsb:=hE.sgn sg (List.mem_of_getElem? hsg)
   have hgd:E.B.signs.getD i 0=sg:=getD_of hsg
   rw [drop_cons hus,mvRows] at hm
   conv=>whnf
   repeat (refine ix (by assumption) ?_;conv=>whnf)
   refine tloop rfl mixed [0,3,4,5,17,18,19,24,25,26] [] (fun m r h=>∃ (k:Nat) (ov:AV) (oh:Heap) (acc:List Mv),r=[(0,[],.iptr (seaC E nv cv)),(3,[],.iptr (encSta x)),(4,[],ov),(5,[],.int .i64 i),(17,[],.sl 1 none (encRows E.uses)),(18,[],.int .i64 (encRows E.uses).length),(19,[],.int .i64 i),(24,[],.sl 2 none (us.map encUse)),(25,[],.int .i64 (us.map encUse).length),(26,[],.int .i64 k)]∧h=oh∧m=us.length - k∧k≤us.length∧Out 8 encMv acc ov oh∧acc.length≤200*i+k∧mvRows E x 0 E.uses=acc++(mvUses E x i (us.drop k)++mvRows E x (i+1) (E.uses.drop (i+1)))) ?_ ?_
   ·conv=>whnf
    exact ⟨_,_,Turn.refl _ _,_,0,ov,_,acc,rfl,rfl,rfl,by omega,ho,by omega,hm⟩
   ·rintro m r h' ⟨k,ov,oh,acc,rfl,rfl,rfl,hk,ho,hal2,hm⟩
    conv=>whnf
    refine ⟨fun hk2=>?_,fun hk2=>?_⟩<;>simp at hk2
    ·obtain ⟨u,hu⟩:=get_lt hk2
     have hut:=htx u (List.mem_of_getElem? hu)
     have hnx:=spNext E nv cv x u hE hx hut
     have hco:=spCost E nv cv u
     have hcb:=costM_bound hE u
     rw [drop_cons hu,mvUses,mvOne,hgd,← List.append_assoc,← List.append_assoc] at hm
     obtain ⟨to,hto⟩:∃ to,to=(nextM E x u).1:=⟨_,rfl⟩
     obtain ⟨is,his⟩:∃ b,b=(nextM E x u).2:=⟨_,rfl⟩
     rw [← hto,← his] at hnx hm
     rcases ho with ⟨he3,rfl,rfl⟩|⟨q,rfl,rfl⟩
     all_goals
      conv=>whnf
      repeat ((first|refine ix (by assumption) ?_|refine QCall.k0 (hnx) ?_|refine ⟨_,_,Rem.here _,⟨Nat.le_of_ble_eq_true rfl,rfl⟩,?_⟩|intro (nb:Nat));conv=>whnf)
      refine ⟨fun hq=>?_,fun hq=>?_⟩
      ·have hq:(is&&decide (0≤sg))=true:=hq
       rw [if_pos hq] at hm
       conv=>whnf
       repeat ((first|refine ⟨gP_of ⟨by omega,by omega⟩,?_⟩|refine ix (by assumption) ?_|refine gcall (hco) ?_|(refine ⟨Nat.le_of_ble_eq_true rfl,fun q'=>?_⟩)|(refine ⟨(by rw [List.length_append,List.length_map];simp;unfold AMAX;omega),fun q'=>⟨_,.here _,?_⟩⟩)|refine And.intro (by show drawOK (opsAt Tryz.f118 _) _=true;decide +kernel) ?_);conv=>whnf)
       refine ⟨_,_,Turn.refl _ _,_,(by omega),k+1,_,[(q',.tok)],acc++[⟨i,costM E u+sg,u,to⟩],rfl,rfl,rfl,by omega,.inr ⟨q',?_,rfl⟩,by simp;omega,by rw [List.append_assoc] at hm;exact hm⟩
       rw [List.map_append]
       first|done|rfl|(rw [he3];done)|(rw [he3];rfl)
      ·have hq:(is&&decide (0≤sg))=false:=hq
       rw [if_neg (by rw [hq];decide),List.append_nil,List.append_assoc] at hm
       conv=>whnf
       repeat (refine ⟨gP_of ⟨by omega,by omega⟩,?_⟩;conv=>whnf)
       refine ⟨_,_,Turn.refl _ _,_,(by omega),k+1,_,_,acc,rfl,rfl,rfl,by omega,?_,by omega,hm⟩
       first|exact .inl ⟨he3,rfl,rfl⟩|exact .inr ⟨q,rfl,rfl⟩
    ·rw [drop_nil hk2,mvUses,List.nil_append] at hm
     conv=>whnf
     repeat (refine ⟨gP_of ⟨by omega,by omega⟩,?_⟩;conv=>whnf)
     exact ⟨_,_,Turn.refl _ _,_,(by omega),i+1,ov,_,acc,rfl,rfl,rfl,by omega,ho,by omega,hm⟩
  ·rw [drop_nil hi2,mvRows,List.append_nil] at hm
   rw [hm]
   conv=>whnf
   skip
   exact ho.le (by decide)
end Go.Abs.Wall.Spl
namespace Go.Abs.Wall.Spl
open Go Go.Abs Go.Proofs Go.Abs.Wall
open Go.Abs.Wall.Lst hiding encWy wyCmp wyCmp_lt wayCompare fndW encWy_len idxW_iff binNil binW insNilW over224 InsR insC OpenR insW_acalls ndC putW
def lastL (E:Env) (x:Sta):List Int:=if (lastM E x).2=true then [(lastM E x).1*16] else []
def clsS (E:Env) (rec:Sta→List Wy) (x:Sta):List (List Int):=lastL E x::(movesM E x).map fun m=>(rec m.to).map fun w=>w.cost+(m.cost*16+1)
def wayD (E:Env):Nat→Sta→List Wy
 | 0,x=>mgW (clsS E (fun _=>[]) x)
 | d+1,x=>mgW (clsS E (wayD E d) x)
def wayS (E:Env) (x:Sta):List Wy:=wayD E (12 - x.n).toNat x
def clsX (E:Env) (x:Sta):List (List Int):=clsS E (wayS E) x
theorem mvOne_mem {E:Env} {x:Sta} {s:Nat} {u:Use} {m:Mv} (h:m∈mvOne E x s u):m=⟨s,costM E u+E.B.signs.getD s 0,u,(nextM E x u).1⟩∧(nextM E x u).2=true∧0≤E.B.signs.getD s 0:=by
 unfold mvOne at h
 split at h
 ·rename_i hc
  rw [Bool.and_eq_true,decide_eq_true_eq] at hc
  rw [List.mem_singleton] at h
  exact ⟨h,hc.1,hc.2⟩
 ·cases h
theorem mvUses_mem {E:Env} {x:Sta} {s:Nat} {m:Mv}:∀ {us:List Use},m∈mvUses E x s us→∃ u∈us,m∈mvOne E x s u
 | [],h=>by cases h
 | u::t,h=>by
   rw [mvUses,List.mem_append] at h
   rcases h with h|h
   ·exact ⟨u,List.mem_cons_self ..,h⟩
   ·obtain ⟨v,h1,h2⟩:=mvUses_mem h
    exact ⟨v,List.mem_cons_of_mem _ h1,h2⟩
theorem mvRows_mem {E:Env} {x:Sta} {m:Mv}:∀ {rs:List (List Use)} {s:Nat},m∈mvRows E x s rs→∃ (i:Nat) (us:List Use),rs[i]?=some us∧m∈mvUses E x (s+i) us
 | [],s,h=>by cases h
 | us::t,s,h=>by
   rw [mvRows,List.mem_append] at h
   rcases h with h|h
   ·exact ⟨0,us,rfl,h⟩
   ·obtain ⟨i,vs,h1,h2⟩:=mvRows_mem h
    exact ⟨i+1,vs,h1,by rw [show s+(i+1)=s+1+i by omega];exact h2⟩
structure MvOK (E:Env) (x:Sta) (m:Mv):Prop where
 to:StOK E m.to
 next:m.to.n=x.n+1
 cost:0≤m.cost∧m.cost≤2000
 sign:0≤m.sign∧m.sign<E.uses.length
theorem moves_ok {E:Env} {x:Sta} (hE:EOK E) (hx:StOK E x) {m:Mv} (h:m∈movesM E x):MvOK E x m:=by
 unfold movesM at h
 split at h
 ·cases h
 rename_i hn
 have hxn:=hx.n
 obtain ⟨i,us,hus,hm⟩:=mvRows_mem h
 rw [Nat.zero_add] at hm
 obtain ⟨u,hu,hm⟩:=mvUses_mem hm
 obtain ⟨rfl,h1,h2⟩:=mvOne_mem hm
 have hi:=(List.getElem?_eq_some_iff.1 hus).1
 obtain ⟨ho,hn1⟩:=nextM_ok hE hx (hE.text us (List.mem_of_getElem? hus) u hu) (by omega) h1
 have hc:=costM_bound hE u
 have hh:=hE.hab
 obtain ⟨sg,hsg⟩:=get_lt (l:=E.B.signs) (i:=i) (by omega)
 have hsb:=hE.sgn sg (List.mem_of_getElem? hsg)
 have hgd:E.B.signs.getD i 0=sg:=getD_of hsg
 rw [hgd] at h2
 refine ⟨ho,hn1,⟨?_,?_⟩,?_,?_⟩
 ·show 0≤costM E u+E.B.signs.getD i 0
  rw [hgd];omega
 ·show costM E u+E.B.signs.getD i 0≤2000
  rw [hgd];omega
 ·show (0:Int)≤(i:Int);omega
 ·show (i:Int)<E.uses.length;omega
theorem mvUses_len (E:Env) (x:Sta) (s:Nat):∀ us:List Use,(mvUses E x s us).length≤us.length
 | []=>Nat.le_refl _
 | u::t=>by
   have h1:=mvUses_len E x s t
   have h2:=mvOne_len E x s u
   rw [mvUses,List.length_append,List.length_cons]
   omega
theorem mvRows_len {E:Env} {x:Sta}:∀ (rs:List (List Use)) (s:Nat),(∀ us∈rs,us.length≤200)→(mvRows E x s rs).length≤200*rs.length
 | [],s,_=>Nat.le_refl _
 | us::t,s,h=>by
   have h1:=mvRows_len (E:=E) (x:=x) t (s+1) fun v hv=>h v (List.mem_cons_of_mem _ hv)
   have h2:=mvUses_len E x s us
   have h3:=h us (List.mem_cons_self ..)
   rw [mvRows,List.length_append,List.length_cons]
   omega
theorem moves_len {E:Env} {x:Sta} (hE:EOK E):(movesM E x).length≤40000:=by
 unfold movesM
 split
 ·simp
 ·have h1:=mvRows_len (E:=E) (x:=x) E.uses 0 hE.row
  have h2:=hE.rows
  omega
theorem clsS_congr {E:Env} {r r':Sta→List Wy} {x:Sta} (h:∀ m∈movesM E x,r m.to=r' m.to):clsS E r x=clsS E r' x:=by
 unfold clsS
 congr 1
 refine List.map_congr_left fun m hm=>?_
 rw [h m hm]
theorem wayS_eq {E:Env} {x:Sta} (hE:EOK E) (hx:StOK E x):wayS E x=mgW (clsX E x):=by
 have hn:=hx.n
 unfold wayS clsX
 by_cases h:x.n=12
 ·rw [show (12 - x.n).toNat=0 by omega,wayD]
  congr 1
  refine clsS_congr fun m hm=>?_
  unfold movesM at hm
  rw [if_pos h] at hm
  cases hm
 ·obtain ⟨d,hd⟩:∃ d,(12 - x.n).toNat=d+1:=⟨(11 - x.n).toNat,by omega⟩
  rw [hd,wayD]
  congr 1
  refine clsS_congr fun m hm=>?_
  have:=(moves_ok hE hx hm).next
  unfold wayS
  congr 1
  omega
theorem clsX_len (E:Env) (x:Sta):(clsX E x).length=(movesM E x).length+1:=by unfold clsX clsS;simp
theorem clsX_zero (E:Env) (x:Sta):(clsX E x)[0]?=some (lastL E x):=rfl
theorem clsX_get {E:Env} {x:Sta} {i:Nat} {m:Mv} (hm:(movesM E x)[i]?=some m):(clsX E x)[i+1]?=some ((wayS E m.to).map fun w=>w.cost+(m.cost*16+1)):=by
 unfold clsX clsS
 rw [List.getElem?_cons_succ,List.getElem?_map,hm]
 rfl
theorem lastM_bound {E:Env} (hE:EOK E) (x:Sta):0≤(lastM E x).1∧(lastM E x).1≤101000:=by
 have h1:=hE.wgt
 have h2:=hE.mis
 unfold lastM
 split
 ·exact ⟨by decide,by decide⟩
 split
 ·exact ⟨h1.1,by show E.wgt≤101000;omega⟩
 ·exact ⟨by show 0≤E.wgt+E.mis;omega,by show E.wgt+E.mis≤101000;omega⟩
theorem way_bound {E:Env} (hE:EOK E):∀ (d:Nat) (x:Sta),StOK E x→(12 - x.n).toNat=d→∀ w∈wayS E x,0≤w.cost∧w.cost≤(101000+2000*d)*16+d∧w.cost % 16≤d:=by
 intro d
 induction d with
 | zero=>
   intro x hx hd w hw
   have hn:=hx.n
   rw [wayS_eq hE hx] at hw
   obtain ⟨t,ht⟩:=List.mem_iff_getElem?.1 hw
   obtain ⟨_,l,hl,hc⟩:=mgW_cand ht
   have hml:(movesM E x).length=0:=by unfold movesM;rw [if_pos (by omega)];rfl
   have hel:=(List.getElem?_eq_some_iff.1 hl).1
   rw [clsX_len,hml] at hel
   have he:w.edge=0:=by omega
   rw [he,clsX_zero] at hl
   cases hl
   have hb:=lastM_bound hE x
   have hcm:=List.mem_of_getElem? hc
   unfold lastL at hcm
   split at hcm
   ·rw [List.mem_singleton] at hcm
    rw [hcm]
    omega
   ·cases hcm
 | succ d ih=>
   intro x hx hd w hw
   have hn:=hx.n
   rw [wayS_eq hE hx] at hw
   obtain ⟨t,ht⟩:=List.mem_iff_getElem?.1 hw
   obtain ⟨_,l,hl,hc⟩:=mgW_cand ht
   have hel:=(List.getElem?_eq_some_iff.1 hl).1
   rw [clsX_len] at hel
   have hcm:=List.mem_of_getElem? hc
   cases he:w.edge with
   | zero=>
     rw [he,clsX_zero] at hl
     cases hl
     have hb:=lastM_bound hE x
     unfold lastL at hcm
     split at hcm
     ·rw [List.mem_singleton] at hcm
      rw [hcm]
      omega
     ·cases hcm
   | succ i=>
     obtain ⟨m,hm⟩:=get_lt (l:=movesM E x) (i:=i) (by omega)
     rw [he,clsX_get hm] at hl
     cases hl
     have hmo:=moves_ok hE hx (List.mem_of_getElem? hm)
     obtain ⟨v,hv,hvc⟩:=List.mem_map.1 hcm
     have hnx:=hmo.next
     obtain ⟨b1,b2,b3⟩:=ih m.to hmo.to (by omega) v hv
     have hmc:=hmo.cost
     have hd12:d+1≤12:=by omega
     rw [← hvc]
     omega
structure NodeT (cls:List (List Int)) (t:Nat) (due:Bool) (Q:List Wy):Prop where
 ok:NodeOK cls t due Q
 few:Q.length+(if due=true then 1 else 0)≤60000
 asked:t≤65
def mvV (E:Env) (x:Sta):AV:=.sl 8 none ((movesM E x).map encMv)
def NodeX (E:Env) (x:Sta) (k:Nat) (hp:Heap):Prop:=∃ t due Q fv fh ov oh,NodeT (clsX E x) t due Q∧Out 4 encWy ((mgW (clsX E x)).take t) fv fh∧OpenR Q ov oh∧hp=(k,.vec (ndC (mvV E x) fv ov due))::(fh++oh)
abbrev Ents:=List (Sta × Nat)
inductive NdsE (E:Env) (d:Int):Ents→Heap→Prop
 | nil:NdsE E d [] []
 | skip {x:Sta} {k:Nat} {es:Ents} {hp:Heap}:x.n≠d→NdsE E d es hp→NdsE E d ((x,k)::es) hp
 | cons {x:Sta} {k:Nat} {es:Ents} {h1 hp:Heap}:x.n=d→NodeX E x k h1→NdsE E d es hp→NdsE E d ((x,k)::es) (h1++hp)
inductive Nds (E:Env):Nat→Int→Ents→Heap→Prop
 | done {d:Int} {es:Ents}:12<d→Nds E 0 d es []
 | step {c:Nat} {d:Int} {es:Ents} {hA hB:Heap}:NdsE E d es hA→Nds E c (d+1) es hB→Nds E (c+1) d es (hA++hB)
theorem NdsE.more {E:Env} {d:Int}:∀ {es:Ents} {hp:Heap} {ext:Ents},NdsE E d es hp→(∀ p∈ext,p.1.n≠d)→NdsE E d (es++ext) hp
 | _,_,[],h,_=>by rw [List.append_nil];exact h
 | _,_,(x,k)::ext,.nil,he=>.skip (he _ (List.mem_cons_self ..)) (NdsE.more (es:=[]) .nil fun p hp=>he p (List.mem_cons_of_mem _ hp))
 | _,_,y::ext,.skip h1 h2,he=>.skip h1 (h2.more he)
 | _,_,y::ext,.cons h1 h2 h3,he=>.cons h1 h2 (h3.more he)
theorem NdsE.snoc {E:Env} {d:Int} {x:Sta} {k:Nat} (hx:x.n=d) {h1:Heap} (hn:NodeX E x k h1):∀ {es:Ents} {hp:Heap},NdsE E d es hp→NdsE E d (es++[(x,k)]) (hp++h1)
 | _,_,.nil=>by
   have:=NdsE.cons hx hn .nil (E:=E)
   rwa [List.append_nil] at this
 | _,_,.skip h2 h3=>.skip h2 (h3.snoc hx hn)
 | _,_,.cons h2 h3 h4=>by
   rw [List.append_assoc]
   exact .cons h2 h3 (h4.snoc hx hn)
theorem NdsE.pick {E:Env} {d:Int} {x:Sta} {k:Nat} (hx:x.n=d):∀ {es:Ents} {hp:Heap},NdsE E d es hp→lookA x es=some k→∃ hA h1 hB,hp=hA++(h1++hB)∧NodeX E x k h1∧∀ h1',NodeX E x k h1'→NdsE E d es (hA++(h1'++hB))
 | _,_,.nil,h=>by cases h
 | _,_,.skip (x:=y) (k:=j) h2 h3,h=>by
   have hne:x≠y:=fun e=>h2 (by rw [← e];exact hx)
   rw [lookA,if_neg hne] at h
   obtain ⟨hA,h1,hB,e,n,f⟩:=h3.pick hx h
   exact ⟨hA,h1,hB,e,n,fun h1' hn=>.skip h2 (f h1' hn)⟩
 | _,_,.cons (x:=y) (k:=j) (h1:=g) h2 h3 h4,h=>by
   unfold lookA at h
   split at h
   ·rename_i e
    cases h
    subst e
    refine ⟨[],g,_,rfl,h3,fun h1' hn=>?_⟩
    rw [List.nil_append]
    exact .cons h2 hn h4
   ·obtain ⟨hA,h1,hB,e,n,f⟩:=h4.pick hx h
    refine ⟨g++hA,h1,hB,by rw [e,List.append_assoc],n,fun h1' hn=>?_⟩
    rw [List.append_assoc]
    exact .cons h2 h3 (f h1' hn)
theorem lookA_app {κ ν:Type} [DecidableEq κ] {k:κ} {es ext:List (κ × ν)}:lookA k (es++ext)=match lookA k es with
  | some v=>some v
  | none=>lookA k ext:=by
 induction es with
 | nil=>rfl
 | cons p t ih=>
   obtain ⟨x,v⟩:=p
   show (if k=x then some v else lookA k (t++ext))=match (if k=x then some v else lookA k t) with
    | some v=>some v
    | none=>lookA k ext
   by_cases h:k=x
   ·rw [if_pos h,if_pos h]
   ·rw [if_neg h,if_neg h]
    exact ih
theorem setA_new {κ ν:Type} [DecidableEq κ] {k:κ} {v:ν}:∀ {es:List (κ × ν)},lookA k es=none→setA k v es=es++[(k,v)]
 | [],_=>rfl
 | (x,u)::t,h=>by
   unfold lookA at h
   split at h
   ·cases h
   ·rename_i hne
    unfold setA
    rw [if_neg (by first|exact hne|exact fun e=>hne e.symm),setA_new h]
    rfl
end Go.Abs.Wall.Spl
namespace Go.Abs.Wall.Spl
open Go Go.Abs Go.Proofs Go.Abs.Wall
open Go.Abs.Wall.Lst hiding encWy wyCmp wyCmp_lt wayCompare fndW encWy_len idxW_iff binNil binW insNilW over224 InsR insC OpenR insW_acalls ndC putW
def pathD (E:Env):Nat→Sta→Wy→List Mv
 | 0,_,_=>[]
 | d+1,x,w=>match w.edge with
   | 0=>[]
   | i+1=>match (movesM E x)[i]? with
     | none=>[]
     | some m=>match (wayS E m.to)[w.rank]? with
       | none=>[]
       | some w'=>m::pathD E d m.to w'
def pathS (E:Env) (x:Sta) (w:Wy):List Mv:=pathD E (13 - x.n).toNat x w
theorem path_end {E:Env} {x:Sta} (hE:EOK E) (hx:StOK E x) {ρ:Nat} {w:Wy} (hw:(wayS E x)[ρ]?=some w) (he:w.edge=0):pathS E x w=[]∧w.cost=(lastM E x).1*16∧(lastM E x).2=true:=by
 have hn:=hx.n
 refine ⟨?_,?_⟩
 ·unfold pathS
  obtain ⟨d,hd⟩:∃ d,(13 - x.n).toNat=d+1:=⟨(12 - x.n).toNat,by omega⟩
  rw [hd,pathD,he]
 ·rw [wayS_eq hE hx] at hw
  obtain ⟨_,l,h2,h3⟩:=mgW_cand hw
  rw [he,clsX_zero] at h2
  cases h2
  unfold lastL at h3
  split at h3
  ·rename_i hq
   have:=List.mem_of_getElem? h3
   rw [List.mem_singleton] at this
   exact ⟨this,hq⟩
  ·cases h3
theorem path_step {E:Env} {x:Sta} (hE:EOK E) (hx:StOK E x) {ρ:Nat} {w:Wy} (hw:(wayS E x)[ρ]?=some w) (he:w.edge≠0) :
  ∃ m w',(movesM E x)[w.edge - 1]?=some m∧MvOK E x m∧(wayS E m.to)[w.rank]?=some w'∧pathS E x w=m::pathS E m.to w'∧w.cost=w'.cost+(m.cost*16+1)∧w.rank≤ρ:=by
 have hn:=hx.n
 rw [wayS_eq hE hx] at hw
 have hrk:=mgW_rank hw
 obtain ⟨_,l,h2,h3⟩:=mgW_cand hw
 have hlt:=(List.getElem?_eq_some_iff.1 h2).1
 rw [clsX_len] at hlt
 obtain ⟨m,hm⟩:=get_lt (l:=movesM E x) (i:=w.edge - 1) (by omega)
 have hmo:=moves_ok hE hx (List.mem_of_getElem? hm)
 have hnx:=hmo.next
 have hcl:=clsX_get hm
 rw [show w.edge - 1+1=w.edge by omega] at hcl
 rw [hcl] at h2
 cases h2
 rw [List.getElem?_map] at h3
 cases hq:(wayS E m.to)[w.rank]? with
 | none=>rw [hq] at h3;cases h3
 | some w'=>
   rw [hq] at h3
   refine ⟨m,w',hm,hmo,hq,?_,(Option.some.inj h3).symm,hrk⟩
   unfold pathS
   have hton:=hmo.to.n
   obtain ⟨d,hd⟩:∃ d,(13 - x.n).toNat=d+1:=⟨(12 - x.n).toNat,by omega⟩
   rw [hd,show (13 - m.to.n).toNat=d by omega]
   obtain ⟨i,hi⟩:∃ i,w.edge=i+1:=⟨w.edge - 1,by omega⟩
   rw [pathD,hi]
   rw [hi] at hm
   simp only [Nat.add_sub_cancel] at hm
   simp only [hm,hq]
end Go.Abs.Wall.Spl
