/- Small laws for the walks and contracts of functions; each theorem names its conditions. -/
import Derived.Test.YtdjdbggpgmddnaaGreatN16
import Derived.Test.YtdjdbggpgmddnaaGreatN14
import Derived.Test.YtdjdbggpgmddnaaGreatN15
import Derived.Lib.Overlaps
set_option maxRecDepth 100000
set_option maxHeartbeats 2000000
set_option linter.unusedVariables false
set_option linter.unusedSimpArgs false
namespace Go.Abs.Wall.Lst
open Go Go.Abs Go.Proofs Go.Abs.Wall
def encWy (w:Wy):List AV:=[.int .i64 w.cost,.int .i64 w.edge,.int .i64 w.rank]
def wyCmp (x y:Wy):Int:=orI [cmpI x.cost y.cost,cmpI x.edge y.edge]
theorem wyCmp_lt {x y:Wy}:wyCmp x y<0↔wlt x y:=by
 unfold wyCmp orI orI orI cmpI wlt;repeat' split
 all_goals first|omega|(simp at *;omega)
def c89:Cfg:=⟨[0,1,2,3,4],[],[],[],[(1,[0,1,2,3,4,5,6,7,8,9,10,11,12],[])],[]⟩
theorem wayCompare (x y:Wy):QCall Tryz.prog 89 [.agg (encWy x),.agg (encWy y)] [] (.int .i64 (wyCmp x y)):=by
 refine fcalls (F:=Tryz.f89) c89 rfl rfl rfl mixed rfl fun X=>?_;(conv=>whnf);repeat ((first|refine gcall (compareI _ _) ?_|refine gcall (orW [cmpI x.cost y.cost,cmpI x.edge y.edge] (by simp [LMAX])) ?_|refine And.intro (by show drawOK (opsAt Tryz.f89 _) _=true;decide +kernel) ?_);conv=>whnf)
 exact ⟨rfl,rfl⟩
theorem ldP {α:Type} {k:Nat} {enc:α->List AV} {P:Program} {t:TypeId} {b o i:Nat} {h:Heap} {pre:List AV} {L:List α} {x:α} {K:AV->Prop} (hk:∀ a,(enc a).length=k) (hm:(b,Ob.vec (pre++(L.map enc).flatten))∈h) (ho:o=pre.length+i*k) (hx:L[i]?=some x)
  (hl:loadI P t (enc x++((L.drop (i+1)).map enc).flatten) K):∃ cs l,(b,Ob.vec cs)∈h/\dropN o cs=some l/\loadI P t l K:=by
 obtain ⟨hi,hx'⟩:=List.getElem?_eq_some_iff.1 hx;refine ⟨_,_,hm,dropN_some ?_,?_⟩
 ·rw [List.length_append,flat_len hk,ho];have:=Nat.mul_le_mul_right k (show i<=L.length by omega);omega
 rw [ho,List.drop_append,List.drop_eq_nil_of_le (Nat.le_add_right _ _),List.nil_append,Nat.add_sub_cancel_left,flat_drop hk,List.drop_eq_getElem_cons hi,hx',List.map_cons,List.flatten_cons];exact hl
def fndW (x:Wy) (Q:List Wy):Bool:=match Q[idxW x Q]? with
 | none=>false
 | some y=>decide (wyCmp y x=0)
theorem encWy_len (w:Wy):(encWy w).length=3:=rfl
theorem idxW_iff {x:Wy} {Q:List Wy} (hs:Q.Pairwise wlt) {j:Nat} {y:Wy} (hy:Q[j]?=some y):wyCmp y x<0↔j<idxW x Q:=by
 rw [wyCmp_lt];constructor
 ·intro h;by_cases hj:j<idxW x Q
  ·exact hj
  exact absurd h (idxW_after hs (by omega) hy)
 intro h;exact idxW_before h hy
def c130:Cfg:=⟨[0,1,2,4,6,7,8,9,10,11,17,31],[],[],[],[(5,[0,1,2,3,4,5,6,7],[]),(8,[0,1,2,3,4,5,6,7,8,9,10,11,12,13,14,15],[])],[]⟩
theorem VLe.osl0 {b off k:Nat}:VLe (.osl b off 0 k) (.sl k none []):=by intro c u h;simp only [Rep] at h ⊢;obtain ⟨p,cap,o',h1,h2,rfl,h3,h4,h5,h6,h7,h8⟩:=h;exact ⟨_,cap,rfl,by simp,by simp,h5,by simp,by simp,by simp [RepEs],by simp⟩
theorem binNil (w:Wy):QCall Tryz.prog 130 [.sl 3 none [],.agg (encWy w),.fn 89 []] [] (.tup [.int .i64 (idxW w []),.bool (fndW w [])]):=by
 refine fcalls (F:=Tryz.f130) c130 rfl rfl rfl mixed rfl fun X=>?_;(conv=>whnf);refine uloop 60 rfl mixed ?_;(conv=>whnf);refine .inr ?_;(conv=>whnf);refine cF rfl ?_;(conv=>whnf);repeat ((first|(refine ⟨0,[.int .i64 0,.int .i64 0,.int .i64 0],?_,?_⟩;(focus (conv=>whnf;skip));(focus (intro hq;exact absurd hq (by decide))))|(refine ⟨.int .i64 0,?_,?_⟩;(focus (conv=>whnf;skip));(focus (intro hq;exact absurd hq (by decide))))|refine And.intro (by show drawOK (opsAt Tryz.f130 _) _=true;decide +kernel) ?_);conv=>whnf)
 exact ⟨rfl,rfl⟩
theorem binW (x:Wy) (Q:List Wy) (hs:Q.Pairwise wlt) (b:Nat) (pre:List AV) (hl:Q.length<=4294967296) :
  QCall Tryz.prog 130 [.osl b pre.length Q.length 3,.agg (encWy x),.fn 89 []] [(b,.vec (pre++(Q.map encWy).flatten))] (.tup [.int .i64 (idxW x Q),.bool (fndW x Q)]):=by
 have hile:=idxW_le x Q;by_cases hne:0<Q.length
 rotate_left
 ·have hq:Q=[]:=List.eq_nil_of_length_eq_zero (by omega);subst hq;exact QCall.args (QCall.wide (binNil x) _) (.cons VLe.osl0 (.cons (VLe.refl _) (.cons (VLe.refl _) .nil)))
 refine fcalls (F:=Tryz.f130) c130 rfl rfl rfl mixed rfl fun X=>?_;(conv=>whnf);skip;refine sloop rfl mixed [0,2,4,8,9,10] [] (fun m r h=>∃ (i j:Nat),r=[(0,[],.osl b pre.length Q.length 3),(2,[],.fn 89 []),(4,[],.iptr (encWy x)),(8,[],.int .i64 Q.length),(9,[],.int .i64 i),(10,[],.int .i64 j)]/\h=[(b,.vec (pre++(Q.map encWy).flatten))]/\m=j - i/\i<=idxW x Q/\idxW x Q<=j/\j<=Q.length) ?_ ?_
 ·(conv=>whnf);exact ⟨_,0,Q.length,rfl,rfl,rfl,by omega,by omega,by omega⟩
 rintro m r h ⟨i,j,rfl,rfl,rfl,hi,hj,hjl⟩;(conv=>whnf);refine ⟨fun hz=>?_,fun hz=>?_⟩<;>simp at hz
 ·have hmid:((i:Int)+(j:Int)) / 2=(((i+j) / 2:Nat):Int):=(by omega);obtain ⟨y,hy⟩:=get_lt (l:=Q) (i:=(i+j) / 2) (by omega);have hcm:=idxW_iff (x:=x) hs hy;have hw:IntKind.u64.wrap ((i:Int)+(j:Int))=(i:Int)+(j:Int):=by simp [IntKind.wrap,IntKind.signed,IntKind.bits];omega
  (conv=>whnf);repeat (refine ⟨gP_of ⟨by omega,by omega⟩,?_⟩;conv=>whnf)
  rw [hw];refine ⟨gP_of ⟨⟨rfl,rfl⟩,by omega,by omega⟩,?_⟩;rw [hmid];(conv=>whnf);repeat ((first|refine ⟨gP_of ⟨by omega,by omega⟩,?_⟩|(refine ⟨(i+j) / 2,gP_of ⟨rfl,by omega⟩,?_⟩)|(refine ldP encWy_len (.head _) rfl hy ?_)|refine gcall (wayCompare y x) ?_|refine And.intro (by show drawOK (opsAt Tryz.f130 _) _=true;decide +kernel) ?_);conv=>whnf)
  refine ⟨fun hc=>?_,fun hc=>?_⟩<;>simp at hc
  ·(conv=>whnf);repeat (refine ⟨gP_of ⟨by omega,by omega⟩,?_⟩;conv=>whnf)
   exact ⟨_,by omega,(i+j) / 2+1,j,rfl,rfl,rfl,by have:=hcm.1 hc;omega,hj,hjl⟩
  (conv=>whnf);skip;exact ⟨_,by omega,i,(i+j) / 2,rfl,rfl,rfl,hi,by have:=mt hcm.2 (by omega);omega,by omega⟩
 have hie:i=idxW x Q:=(by omega);subst hie;by_cases hlt:idxW x Q<Q.length
 ·obtain ⟨y,hy⟩:=get_lt (l:=Q) (i:=idxW x Q) hlt;(conv=>whnf);repeat ((first|(refine ⟨idxW x Q,gP_of ⟨rfl,by omega⟩,?_⟩)|(refine ldP encWy_len (.head _) rfl hy ?_)|refine gcall (wayCompare y x) ?_|refine And.intro (by show drawOK (opsAt Tryz.f130 _) _=true;decide +kernel) ?_);conv=>whnf)
  refine ⟨?_,rfl⟩;unfold fndW;rw [hy];simp [hlt]
 have hn:Q[idxW x Q]?=none:=List.getElem?_eq_none (by omega);obtain ⟨y,hy⟩:=get_lt (l:=Q) (i:=0) hne;have hdf:decide (((idxW x Q:Nat):Int)<(Q.length:Int))=false:=by simp;omega
 (conv=>whnf);repeat (refine And.intro (by show drawOK (opsAt Tryz.f130 _) _=true;decide +kernel) ?_;conv=>whnf)
 rw [hdf];repeat ((first|(refine ⟨0,(fun hq=>by cases hq),?_⟩)|(refine ldP (i:=0) encWy_len (.head _) rfl hy ?_)|refine gcall (wayCompare y x) ?_);conv=>whnf)
 refine ⟨?_,rfl⟩;unfold fndW;rw [hn];rfl
theorem overOK {P:Program} {f:FuncId} {fn:Func} {tS tR e:TypeId} {vb b vo o n m c k k2:Nat} {cs1 cs2:List AV} {h:Heap} {K:AV->Heap->Prop} (hf:P.funcs[f]?=some fn) (hname:(fn.name == "runtime.NumGoroutine")=false)
  (hb:fn.body.isNone=true) (hn:Extern.findNext fn=none) (he:Extern.find fn=some (Extern.SlicesOverlaps.overlaps #[tS,tS] #[tR])) (ht:P.underlying tS=some (.slice e)) (hz:P.info? e≠none)
  (h1:(vb,Ob.vec cs1)∈h) (h2:(b,Ob.vec cs2)∈h) (hne:vb≠b) (hc:0<cs2.length) (hn1:0<n) (hK:K (.bool false) h) :
  ACalls P f [.osl vb vo n k,.oslc b o m c k2] h K:=by
 refine ⟨fun X g w us hc2 hr=>.inr ?_⟩;simp only [RepVs] at hr;obtain ⟨u1,r1,hu,hx1,u2,r2,hu2,hx2,hu3⟩:=hr;subst hu2 hu3;obtain ⟨p1,cap1,a1,a2,rfl,a3,a4,a5,a6,_⟩:=hx1.oslE hn1;rw [Rep] at hx2;obtain ⟨p2,b1,b2,rfl,b3,b4,b5,b6,b7⟩:=hx2;obtain ⟨q1,cc1,t1,c1,c2,c3,c4,c5,c6⟩:=hc2.obj vb _ h1;obtain ⟨q2,cc2,t2,d1,d2,d3,d4,d5,d6⟩:=hc2.obj b _ h2;simp only at a1 b1 c1 c3 c4 d1 d3 d4;rw [c1] at a1;cases a1
 rw [d1] at b1;cases b1
 have hbk:p1.block≠p2.block:=by
  intro e;rw [e,d3] at c3;cases c3
  exact hne rfl
 have hus:us=#[.slice (some ⟨p1.block,p1.off+vo,none⟩) n cap1,.slice (some ⟨p2.block,p2.off+o,none⟩) m c]:=by rw [<- Array.toList_inj];exact hu
 subst hus;obtain ⟨i,hi⟩:=Option.ne_none_iff_exists'.1 hz
 have hrun:=Go.Lib.run_overlaps_apart (P:=P) w tS tR e ht i.size (fun w=>by simp [Go.sizeOf,typeInfo,hi]) ⟨p1.block,p1.off+vo,none⟩ ⟨p2.block,p2.off+o,none⟩ n cap1 m c hbk t1 t2 cc1.size cc2.size
  (by simp [World.shape?,c4]) (by simp [World.shape?,d4]) (by omega) (frozen_of_row w p1.block _ cc1 t1 c4) (frozen_of_row w p1.block _ cc1 t1 c4)
 refine ⟨.bool false,w,?_,.bool false,.bool false,g,h,rfl,hK,hc2,by rw [Rep],Step.refl _ _ _ _⟩;rw [run_callFunc_extern hf hname hb hn he,hrun];rfl
theorem VLe.oslc {b off n c k:Nat}:VLe (.oslc b off n c k) (.osl b off n k):=by intro v u h;simp only [Rep] at h ⊢;obtain ⟨p,h1,h2,h3,h4,h5,h6,h7,h8⟩:=h;exact ⟨p,c,off,h1,h2,h3,h4,h5,h6,h7,fun _=>rfl,h8⟩
theorem ACalls.capOr {P:Program} {f:FuncId} {b off len k:Nat} {vs:List AV} {h:Heap} {R:AV->Heap->Prop} (hc:∀ off' c,(0<c->off'=off)->len<=c->ACalls P f (.oslc b off' len c k::vs) h R):ACalls P f (.osl b off len k::vs) h R:=by refine ⟨fun X g w us hcw hr=>?_⟩;simp only [RepVs] at hr;obtain ⟨u,r,hu,hx,hr⟩:=hr;simp only [Rep] at hx;obtain ⟨p,cap,o',h1,h2,h3,h4,h5,h6,h7,h8,h9⟩:=hx;refine (hc o' cap h8 h4).1 X g w us hcw ?_;simp only [RepVs];exact ⟨u,r,hu,by simp only [Rep];exact ⟨p,h1,h2,h3,h4,h5,h6,h7,h9⟩,hr⟩
def c131:Cfg:=⟨[0,1,2,6,7,8,9,16,22,31,68],[],[],[],[(11,[0,1,2,3,4,5,6,7,8],[]),(15,[0,1,2,3,4,5,6,7,8],[])],[]⟩
theorem insNilW (x:Wy) (vb:Nat):ACalls Tryz.prog 131 [.nilS,.int .i64 0,.osl vb 0 1 3] [(vb,.vec (encWy x))] (fun v h'=>∃ q,v=.osl q 0 1 3/\h'=[(q,.vec (encWy x)),(vb,.vec (encWy x))]):=by
 refine fcalls (F:=Tryz.f131) c131 rfl rfl rfl mixed rfl fun X=>?_;(conv=>whnf);repeat (refine ⟨gP_of ⟨by omega,by omega⟩,?_⟩;conv=>whnf)
 refine cF rfl ?_;(conv=>whnf);skip;refine cT rfl ?_;(conv=>whnf);repeat ((refine ⟨_,[encWy x],.head _,⟨rfl,by simp [encWy],rfl⟩,⟨Nat.le_of_ble_eq_true rfl,Nat.le_of_ble_eq_true rfl⟩,fun q=>?_⟩);conv=>whnf)
 exact ⟨q,rfl,rfl⟩
theorem setC_at {A B X:List AV}:setC (A++B) A.length X=A++(X++B.drop X.length):=by unfold setC;rw [List.take_left,List.append_assoc,<- List.drop_drop,List.drop_left]
theorem grow_eq {A B X D:List AV} {n m:Nat} (hn:n=A.length) (hm:m=A.length+X.length) (hb:B.length=X.length+D.length):setC (setC (A++B) n X) m D=A++(X++D):=by subst hn;rw [setC_at,<- List.append_assoc,show m=(A++X).length by rw [List.length_append];omega,setC_at,List.drop_drop,List.drop_eq_nil_of_le (by omega),List.append_nil,List.append_assoc]
theorem shift_eq {A X D:List AV} {n m:Nat} (hn:n=A.length) (hm:m=A.length+X.length) (hb:X.length<=D.length):setC (setC (A++D) m D) n X=A++(X++D):=by
 subst hn hm;have h1:setC (A++D) (A.length+X.length) D=A++(D.take X.length++D):=by unfold setC;rw [List.drop_eq_nil_of_le (by rw [List.length_append];omega),List.append_nil,List.take_append,List.take_of_length_le (by omega),Nat.add_sub_cancel_left,List.append_assoc]
 rw [h1,setC_at];congr 2;rw [List.drop_append,List.drop_eq_nil_of_le (by rw [List.length_take];omega),List.nil_append,List.length_take];have:X.length - min X.length D.length=0:=(by omega);rw [this];rfl
theorem over224:Extern.find Tryz.f148=some (Extern.SlicesOverlaps.overlaps #[196,196] #[4]):=by kernel_rfl
def InsR (x:Wy) (Q:List Wy) (i vb:Nat) (v:AV) (h':Heap):Prop:=∃ b' pre',VLe v (.osl b' pre'.length (Q.length+1) 3)/\∃ h2,h'.Perm ((b',.vec (pre'++((Q.take i++x::Q.drop i).map encWy).flatten))::h2)
theorem insC (x:Wy) (Q:List Wy) (i:Nat) (hi:i<=Q.length) (b vb off c:Nat) (pre cs:List AV) (hcs:cs=pre++(Q.map encWy).flatten) (ho:0<c->off=pre.length) (hc:Q.length<=c) (hl:Q.length<=65536) (hne:vb≠b) :
  ACalls Tryz.prog 131 [.oslc b off Q.length c 3,.int .i64 i,.osl vb 0 1 3] [(b,.vec cs),(vb,.vec (encWy x))] (InsR x Q i vb):=by
 have hcl:cs.length=pre.length+Q.length*3:=(by rw [hcs,List.length_append,flat_len encWy_len]);refine fcalls (F:=Tryz.f131) c131 rfl rfl rfl mixed rfl fun X=>?_;(conv=>whnf);repeat (refine ⟨gP_of ⟨by omega,by omega⟩,?_⟩;conv=>whnf)
 refine cF rfl ?_;(conv=>whnf);skip;refine ⟨fun he=>?_,fun he=>?_⟩<;>simp at he
 ·have he:i=Q.length:=(by omega);subst he;have hfl:((Q.take Q.length++x::Q.drop Q.length).map encWy).flatten=(Q.map encWy).flatten++[encWy x].flatten:=by rw [List.take_length,List.drop_length,List.map_append,List.flatten_append];rfl
  by_cases hroom:Q.length+1<=c
  ·have:=ho (by omega);subst this;(conv=>whnf);repeat ((refine ⟨_,[encWy x],.tail _ (.head _),⟨rfl,by simp [encWy],rfl⟩,by unfold AMAX;omega,cs,.head _,.inl ⟨hroom,hcl,_,.here _,?_⟩⟩);conv=>whnf)
   refine ⟨b,pre,VLe.oslc,[(vb,.vec (encWy x))],?_⟩;rw [hcs,hfl,<- List.append_assoc]
  have hcs2:Q.length=0\/off+Q.length*3<=cs.length:=by
   by_cases h0:Q.length=0
   ·exact .inl h0
   have:=ho (by omega);exact .inr (by omega)
  have htk:(cs.drop off).take (Q.length*3)=(Q.map encWy).flatten:=by
   by_cases h0:Q.length=0
   ·have:Q=[]:=List.eq_nil_of_length_eq_zero h0;subst this;simp
   have:=ho (by omega);rw [hcs,this,List.drop_left,List.take_of_length_le (by rw [flat_len encWy_len];exact Nat.le_refl _)]
  (conv=>whnf);repeat ((refine ⟨_,[encWy x],.tail _ (.head _),⟨rfl,by simp [encWy],rfl⟩,by unfold AMAX;omega,cs,.head _,.inr ⟨by omega,hcs2,fun q=>?_⟩⟩);conv=>whnf)
  refine ⟨q,[],VLe.refl _,[(b,.vec cs),(vb,.vec (encWy x))],?_⟩;rw [htk,hfl];exact .refl _
 have hin:i<Q.length:=(by omega);have hoff:=ho (by omega);subst hoff;have z1:(i:Int).toNat - Int.toNat 0=i:=(by simp);have z2:c - Int.toNat 0=c:=(by simp);have z3:offC pre.length (Int.toNat 0) c 3=pre.length:=by unfold offC;split<;>simp
 have z4:(Q.length:Int)+((1:Nat):Int) - (i:Int)=((Q.length+1 - i:Nat):Int):=(by omega);have z5:offC pre.length (i:Int).toNat c 3=pre.length+i*3:=by unfold offC;rw [if_neg (by simp;omega)];simp
 have hd0:cs.drop pre.length=(Q.map encWy).flatten:=(by rw [hcs,List.drop_left]);have hdi:cs.drop (pre.length+i*3)=((Q.drop i).map encWy).flatten:=(by rw [hcs,List.drop_append,List.drop_eq_nil_of_le (by omega),List.nil_append,Nat.add_sub_cancel_left,flat_drop encWy_len]);(conv=>whnf);repeat (refine ⟨gP_of ⟨by omega,by omega⟩,?_⟩;conv=>whnf)
 refine ⟨fun hz=>?_,fun hz=>?_⟩<;>simp at hz
 ·(conv=>whnf);repeat (refine ⟨gP_of ⟨by omega,by omega⟩,?_⟩;conv=>whnf)
  rw [z1,z2,z3,z4];refine ⟨cs,.head _,⟨by omega,by omega,by omega,by omega⟩,fun q=>?_⟩;rw [hd0,flat_take encWy_len,Int.toNat_natCast,show i+(Q.length+1 - i)=Q.length+1 by omega];(conv=>whnf);repeat (refine ⟨gP_of ⟨by omega,by omega⟩,?_⟩;conv=>whnf)
  have m1:min 1 (((Q.length+1:Nat):Int).toNat - (i:Int).toNat)=1:=by rw [Int.toNat_natCast,Int.toNat_natCast];omega
  have m2:0+(i:Int).toNat*3=i*3:=(by simp);have hTl:((Q.take i).map encWy).flatten.length=i*3:=by rw [flat_len encWy_len,List.length_take];omega
  have hDl:((Q.drop i).map encWy).flatten.length=(Q.length - i)*3:=(by rw [flat_len encWy_len,List.length_drop]);have hBl:(repC (Q.length+1 - i) [AV.int .i64 0,AV.int .i64 0,AV.int .i64 0]).length=(Q.length+1 - i)*3:=by unfold repC;simp
  rw [m1,m2];refine ⟨_,[encWy x],.tail _ (.tail _ (.head _)),⟨rfl,by simp [encWy],rfl⟩,_,_,.here _,⟨by omega,?_⟩,?_⟩
  ·rw [List.length_append,hTl,hBl];show i*3+3<=_;omega
  (conv=>whnf);repeat ((first|refine ⟨gP_of ⟨by omega,by omega⟩,?_⟩|refine And.intro (by show drawOK (opsAt Tryz.f131 _) _=true;decide +kernel) ?_);conv=>whnf)
  have m3:min ((Q.length:Int).toNat - (i:Int).toNat) (((Q.length+1:Nat):Int).toNat - ((i:Int)+((1:Nat):Int)).toNat)=Q.length - i:=by rw [show (i:Int)+((1:Nat):Int)=((i+1:Nat):Int) by omega];simp only [Int.toNat_natCast];omega
  have m4:0+((i:Int)+((1:Nat):Int)).toNat*3=(i+1)*3:=(by rw [show (i:Int)+((1:Nat):Int)=((i+1:Nat):Int) by omega,Int.toNat_natCast,Nat.zero_add]);rw [m3,m4,z5];have hgr:=grow_eq (A:=((Q.take i).map encWy).flatten) (B:=repC (Q.length+1 - i) [AV.int .i64 0,AV.int .i64 0,AV.int .i64 0]) (X:=encWy x) (D:=((Q.drop i).map encWy).flatten) (n:=i*3) (m:=(i+1)*3) hTl.symm (by rw [hTl];show _=i*3+3;omega) (by rw [hBl,hDl];show _=3+_;omega);refine ⟨cs,(Q.drop i).map encWy,.tail _ (.head _),⟨?_,?_,by simp⟩,_,_,.here _,⟨by omega,?_⟩,?_⟩
  ·rw [hdi,List.take_of_length_le (by rw [hDl];exact Nat.le_refl _)]
  ·intro z hz;obtain ⟨w,_,rfl⟩:=List.mem_map.1 hz;rfl
  ·have h1:(setC (((Q.take i).map encWy).flatten++repC (Q.length+1 - i) [AV.int .i64 0,AV.int .i64 0,AV.int .i64 0]) (i*3) [encWy x].flatten).length=(Q.length+1)*3:=by
    rw [setC_length _ _ _ (by rw [List.length_append,hTl,hBl];show i*3+3<=_;omega),List.length_append,hTl,hBl];omega
   rw [h1,hDl];omega
  (conv=>whnf);skip;refine ⟨q,[],VLe.refl _,[(b,.vec cs),(vb,.vec (encWy x))],?_⟩;rw [show [encWy x].flatten=encWy x from by simp,hgr,List.map_append,List.flatten_append];exact .refl _
 (conv=>whnf);repeat (refine ⟨gP_of ⟨by omega,by omega⟩,?_⟩;conv=>whnf)
 rw [z2,z3];have z7:offC pre.length ((i:Int)+((1:Nat):Int)).toNat c 3=pre.length+(i+1)*3:=by rw [show (i:Int)+((1:Nat):Int)=((i+1:Nat):Int) by omega,Int.toNat_natCast];unfold offC;rw [if_neg (by omega)]
 have z9:((Q.length:Int)+((1:Nat):Int)).toNat - Int.toNat 0=Q.length+1:=by rw [show (Q.length:Int)+((1:Nat):Int)=((Q.length+1:Nat):Int) by omega];simp
 have z8:(((Q.length+1:Nat):Int)).toNat - ((i:Int)+((1:Nat):Int)).toNat=Q.length - i:=by rw [show (i:Int)+((1:Nat):Int)=((i+1:Nat):Int) by omega,Int.toNat_natCast,Int.toNat_natCast];omega
 rw [z7,z9,z8];refine overOK (fn:=Tryz.f148) rfl rfl rfl (by kernel_rfl) over224 rfl (by decide) (.tail _ (.head _)) (.head _) hne (by omega) (by omega) ?_;(conv=>whnf);skip;refine cT rfl ?_;(conv=>whnf);repeat ((first|refine ⟨gP_of ⟨by omega,by omega⟩,?_⟩|refine And.intro (by show drawOK (opsAt Tryz.f131 _) _=true;decide +kernel) ?_);conv=>whnf)
 have hTl:((Q.take i).map encWy).flatten.length=i*3:=by rw [flat_len encWy_len,List.length_take];omega
 have hDl:((Q.drop i).map encWy).flatten.length=(Q.length - i)*3:=(by rw [flat_len encWy_len,List.length_drop]);have m3:min (((Q.length+1:Nat):Int).toNat - (i:Int).toNat) (((Q.length+1:Nat):Int).toNat - ((i:Int)+((1:Nat):Int)).toNat)=Q.length - i:=by rw [show (i:Int)+((1:Nat):Int)=((i+1:Nat):Int) by omega];simp only [Int.toNat_natCast];omega
 have hce:cs=(pre++((Q.take i).map encWy).flatten)++((Q.drop i).map encWy).flatten:=(by rw [hcs,List.append_assoc,<- List.flatten_append,<- List.map_append,List.take_append_drop]);have hal:(pre++((Q.take i).map encWy).flatten).length=pre.length+i*3:=(by rw [List.length_append,hTl]);have hsh:=shift_eq (A:=pre++((Q.take i).map encWy).flatten) (X:=encWy x) (D:=((Q.drop i).map encWy).flatten) (n:=pre.length+i*3) (m:=pre.length+(i+1)*3) hal.symm (by rw [hal];show _=_+3;omega) (by rw [hDl];show 3<=_;omega);rw [<- hce] at hsh;rw [m3,z5,z7];refine ⟨cs,(Q.drop i).map encWy,.head _,⟨?_,?_,by simp⟩,_,_,.here _,⟨by omega,by omega⟩,?_⟩
 ·rw [hdi,List.take_of_length_le (by rw [hDl];exact Nat.le_refl _)]
 ·intro z hz;obtain ⟨w,_,rfl⟩:=List.mem_map.1 hz;rfl
 (conv=>whnf);repeat (refine ⟨gP_of ⟨by omega,by omega⟩,?_⟩;conv=>whnf)
 have m1:min 1 (((Q.length+1:Nat):Int).toNat - (i:Int).toNat)=1:=by rw [Int.toNat_natCast,Int.toNat_natCast];omega
 rw [m1,z5];refine ⟨_,[encWy x],.tail _ (.head _),⟨rfl,by simp [encWy],rfl⟩,_,_,.here _,⟨by omega,?_⟩,?_⟩
 ·unfold setC;simp only [List.length_append,List.length_take,List.length_drop];omega
 (conv=>whnf);skip;refine ⟨b,pre,VLe.oslc,[(vb,.vec (encWy x))],?_⟩;rw [show [encWy x].flatten=encWy x from by simp,hsh,show pre++((Q.take i++x::Q.drop i).map encWy).flatten=(pre++((Q.take i).map encWy).flatten)++(encWy x++((Q.drop i).map encWy).flatten) from by simp [List.append_assoc]]
theorem ACalls.re {f:FuncId} {vs:List AV} {h h2 H:Heap} {R R':AV->Heap->Prop} (hf:ACalls Tryz.prog f vs h R) (hp:(h++h2).Perm H)
  (hr:∀ v h1,R v h1->∃ H',(h1++h2).Perm H'/\R' v H'):ACalls Tryz.prog f vs H R':=by
 refine ACalls.post (ACalls.perm (ACalls.frame hf h2) hp) ?_;rintro v h3 ⟨h1,hR,rfl⟩;obtain ⟨H',hp',hR'⟩:=hr v h1 hR;exact ⟨v,H',hR',VLe.refl _,fun k o hm=>hp'.mem_iff.2 hm,fun hn=>by unfold keys at hn ⊢;exact ((hp'.map _).nodup_iff).1 hn⟩
def OpenR (Q:List Wy) (ov:AV) (oh:Heap):Prop:=(Q=[]/\ov=.nilS/\oh=[])\/∃ b pre,ov=.osl b pre.length Q.length 3/\oh=[(b,.vec (pre++(Q.map encWy).flatten))]
theorem insW_acalls (x:Wy) (Q:List Wy) (b vb:Nat) (pre:List AV) (hl:Q.length<=65536) :
  ACalls Tryz.prog 131 [.osl b pre.length Q.length 3,.int .i64 (idxW x Q),.osl vb 0 1 3] [(b,.vec (pre++(Q.map encWy).flatten)),(vb,.vec (encWy x))]
   (fun v h'=>∃ b' pre',v=.osl b' pre'.length (Q.length+1) 3/\h'=[(b',.vec (pre'++((insW x Q).map encWy).flatten))]):=by
 by_cases hne:vb=b
 ·subst hne;refine ⟨fun X g w us hc hr=>?_⟩;have:=hc.nodup;simp [keys] at this
 refine ACalls.post (ACalls.capOr fun off' c ho hc=>insC x Q (idxW x Q) (idxW_le x Q) b vb off' c pre _ rfl ho hc hl hne) ?_;rintro v h1 ⟨b',pre',hv,h2,hp⟩;refine ⟨_,_,⟨b',pre',rfl,rfl⟩,hv,fun k o hm=>hp.mem_iff.2 (by cases List.mem_singleton.1 hm;exact List.mem_cons_self),fun _=>by simp [keys]⟩
def ndC (fv ov:AV) (due:Bool):List AV:=[fv,ov,.fn 89 [],.bool due]
def c90:Cfg:=⟨[0,1,3,4],[26],[],[],[(1,[0,1,2,3,4,5,6,7,8,9,10,11,12,13,14],[]),(2,[0,1,2,3,4,5,6,7,8,9,10,11],[])],[26,27]⟩
theorem putW (x:Wy) (Q:List Wy) (hs:Q.Pairwise wlt) (nk:Nat) (fv:AV) (due:Bool) (ov:AV) (oh:Heap) (ho:OpenR Q ov oh) (hl:Q.length<=65536) :
  ACalls Tryz.prog 90 [.optr nk 1,.agg (encWy x)] ((nk,.vec (ndC fv ov due))::oh)
   (fun v h'=>v=.tup []/\∃ ov' oh',OpenR (insW x Q) ov' oh'/\h'=(nk,.vec (ndC fv ov' due))::oh'):=by
 have hil:=insW_length x Q;refine ACalls.post (R:=fun v h'=>v=.tup []/\∃ ov' oh' g,OpenR (insW x Q) ov' oh'/\h'.Perm ((nk,.vec (ndC fv ov' due))::(oh'++g))) ?_ ?_
 ·rcases ho with ⟨rfl,rfl,rfl⟩|⟨b,pre,rfl,rfl⟩
  ·have hbn:QCall Tryz.prog 130 [.nilS,.agg (encWy x),.fn 89 []] [] (.tup [.int .i64 (idxW x []),.bool (fndW x [])]):=
    QCall.args (binNil x) (.cons (VLe.nil (by decide)) (VsLe.refl _))
   refine fcalls (F:=Tryz.f90) c90 rfl rfl rfl mixed rfl fun X=>?_;(conv=>whnf);repeat ((first|refine gcall (hbn) ?_|refine ⟨_,_,.head _,rfl,?_⟩|refine And.intro (by show drawOK (opsAt Tryz.f90 _) _=true;decide +kernel) ?_|intro (nb:Nat));conv=>whnf)
   refine ACalls.mono ?_ (ACalls.frame (insNilW x nb) _);rintro v h1 ⟨h2,⟨q,rfl,rfl⟩,rfl⟩;(conv=>whnf);repeat ((refine ⟨_,_,.there (.there (.here _)),leOK,?_⟩);conv=>whnf)
   exact ⟨rfl,.osl q 0 1 3,[(q,.vec (encWy x))],[(nb,.vec (encWy x))],.inr ⟨q,[],rfl,rfl⟩,List.perm_append_comm (l₁:=[(q,_),(nb,_)]) (l₂:=[(nk,_)])⟩
  have hbn:QCall Tryz.prog 130 [.osl b pre.length Q.length 3,.agg (encWy x),.fn 89 []] [(nk,.vec (ndC fv (.osl b pre.length Q.length 3) due)),(b,.vec (pre++(Q.map encWy).flatten))] (.tup [.int .i64 (idxW x Q),.bool (fndW x Q)]):=
   QCall.perm (h2:=[(nk,.vec (ndC fv (.osl b pre.length Q.length 3) due))]) (binW x Q hs b pre (by omega)) (List.perm_append_comm (l₁:=[_]) (l₂:=[_]))
  refine fcalls (F:=Tryz.f90) c90 rfl rfl rfl mixed rfl fun X=>?_;(conv=>whnf);repeat ((first|(refine gcallH hbn ?_)|refine ⟨_,_,.head _,rfl,?_⟩|refine And.intro (by show drawOK (opsAt Tryz.f90 _) _=true;decide +kernel) ?_|intro (nb:Nat));conv=>whnf)
  refine ACalls.mono (R:=fun v h1=>∃ b' pre' g,v=.osl b' pre'.length (Q.length+1) 3/\h1=(b',.vec (pre'++((insW x Q).map encWy).flatten))::(nk,.vec (ndC fv (.osl b pre.length Q.length 3) due))::g) ?_ (ACalls.re (insW_acalls x Q b nb pre hl) (h2:=[(nk,.vec (ndC fv (.osl b pre.length Q.length 3) due))]) ?_ ?_)
  ·rintro v h1 ⟨b',pre',g,rfl,rfl⟩;(conv=>whnf);repeat ((refine ⟨_,_,.there (.here _),leOK,?_⟩);conv=>whnf)
   exact ⟨rfl,.osl b' pre'.length (Q.length+1) 3,[(b',.vec (pre'++((insW x Q).map encWy).flatten))],g,.inr ⟨b',pre',by rw [hil],rfl⟩,List.Perm.swap _ _ _⟩
  ·exact (List.Perm.swap _ _ _).trans (List.Perm.cons _ (List.Perm.swap _ _ _))
  rintro v h1 ⟨b',pre',rfl,rfl⟩;exact ⟨_,.refl _,b',pre',[],rfl,rfl⟩
 rintro v h1 ⟨rfl,ov',oh',g,ho',hp⟩;refine ⟨_,_,⟨rfl,ov',oh',ho',rfl⟩,VLe.refl _,fun k o hm=>hp.mem_iff.2 ?_,fun hn=>?_⟩
 ·rcases List.mem_cons.1 hm with h|h
  ·rw [h];exact List.mem_cons_self
  exact List.mem_cons_of_mem _ (List.mem_append_left _ h)
 have h1:=((hp.map (fun p:Nat × Ob=>p.1)).nodup_iff).1 hn;unfold keys;simp only [List.map_cons,List.map_append,List.nodup_cons,List.mem_append,not_or,List.nodup_append] at h1 ⊢;exact ⟨h1.1.1,h1.2.1⟩
end Go.Abs.Wall.Lst
namespace Go.Abs.Wall
open Go Go.Abs Go.Proofs
abbrev Pth:=Int × List Edg
def extC (x:Edg) (l:List Pth):List Int:=l.map fun p=>x.cost+p.1
def mkR (es:List Edg) (T:Edg->List Pth) (w:Wy):Pth:=match es[w.edge]? with
 | none=>(w.cost,[])
 | some x=>(w.cost,x::((T x).getD w.rank (0,[])).2)
def tabE (T:List (List Pth)) (x:Edg):List Pth:=T.getD (x.word.uses.length - 1) []
def rdT:List (List Edg)->List (List Pth)
 | []=>[[(0,[])]]
 | es::g=>((mgW (es.map fun x=>extC x (tabE (rdT g) x))).map (mkR es (tabE (rdT g))))::rdT g
def rdV (g:List (List Edg)) (i:Nat):List Pth:=(rdT (g.drop i)).headD []
theorem rdT_get:∀ (g:List (List Edg)) (i:Nat),i<=g.length->(rdT g)[i]?=some (rdV g i)
 | [],i,h=>by have:i=0:=(by simpa using h);subst this;rfl
 | es::g,0,_=>by simp [rdT,rdV]
 | es::g,i+1,h=>by have:=rdT_get g i (by simpa using h);simp only [rdT,List.getElem?_cons_succ];rw [this];rfl
theorem rdV_drop (g:List (List Edg)) (a i:Nat):rdV (g.drop a) i=rdV g (a+i):=by unfold rdV;rw [List.drop_drop]
theorem rdV_end (g:List (List Edg)):rdV g g.length=[(0,[])]:=by unfold rdV;rw [List.drop_length];rfl
theorem tabE_eq {g:List (List Edg)} {i:Nat} {x:Edg} (hx:EdgOK g.length i x):tabE (rdT (g.drop (i+1))) x=rdV g x.to.toNat:=by have h1:=hx.lo;have h2:=hx.hi;have h3:=hx.to;unfold tabE;have h4:=rdT_get (g.drop (i+1)) (x.word.uses.length - 1) (by rw [List.length_drop];omega);rw [rdV_drop,show i+1+(x.word.uses.length - 1)=x.to.toNat by omega] at h4;rw [List.getD_eq_getElem?_getD,h4];rfl
def clsG (g:List (List Edg)) (es:List Edg):List (List Int):=es.map fun x=>extC x (rdV g x.to.toNat)
def wayAt (g:List (List Edg)) (i:Nat):List Wy:=match g[i]? with
 | none=>[⟨0,0,0⟩]
 | some es=>mgW (clsG g es)
theorem mkR_congr {es:List Edg} {T T':Edg->List Pth} (h:∀ x∈es,T x=T' x) (w:Wy):mkR es T w=mkR es T' w:=by
 unfold mkR;cases hx:es[w.edge]? with
 | none=>rfl
 | some x=>simp only [h x (List.mem_of_getElem? hx)]
theorem rdV_cons {g:List (List Edg)} {i:Nat} {es:List Edg} (h:g[i]?=some es) (hx:∀ x∈es,EdgOK g.length i x) :
  rdV g i=(mgW (clsG g es)).map (mkR es fun x=>rdV g x.to.toNat):=by
 have e1:rdV g i=(mgW (es.map fun x=>extC x (tabE (rdT (g.drop (i+1))) x))).map (mkR es (tabE (rdT (g.drop (i+1))))):=by unfold rdV;rw [drop_cons h];rfl
 have e2:(es.map fun x=>extC x (tabE (rdT (g.drop (i+1))) x))=clsG g es:=by unfold clsG;exact List.map_congr_left fun x hm=>by rw [tabE_eq (hx x hm)]
 rw [e1,e2];exact List.map_congr_left fun w _=>mkR_congr (fun x hm=>tabE_eq (hx x hm)) w
theorem mkR_cost {es:List Edg} {T:Edg->List Pth} {w:Wy}:(mkR es T w).1=w.cost:=by unfold mkR;cases es[w.edge]?<;>rfl
theorem wayAt_rd {g:List (List Edg)} (hg:GOK g) {i:Nat} (hi:i<=g.length) (r:Nat):((rdV g i)[r]?).map (·.1)=((wayAt g i)[r]?).map (·.cost):=by
 by_cases h:i<g.length
 ·obtain ⟨es,hes⟩:=get_lt h;rw [rdV_cons hes (hg.edge i es hes)];unfold wayAt;rw [hes];simp only [List.getElem?_map,Option.map_map];congr 1;funext w;exact mkR_cost
 have:i=g.length:=(by omega);subst this;rw [rdV_end];unfold wayAt;rw [List.getElem?_eq_none (Nat.le_refl _)];cases r<;>simp
theorem clsG_get {g:List (List Edg)} (hg:GOK g) {i:Nat} {es:List Edg} (hes:g[i]?=some es) {k:Nat} {x:Edg} (hx:es[k]?=some x) :
  ∃ l:List Int,(clsG g es)[k]?=some l/\∀ r:Nat,l[r]?=((wayAt g x.to.toNat)[r]?).map (fun (w:Wy)=>x.cost+w.cost):=by
 have ho:=hg.edge i es hes x (List.mem_of_getElem? hx);refine ⟨extC x (rdV g x.to.toNat),by unfold clsG;rw [List.getElem?_map,hx];rfl,fun r=>?_⟩;have:=wayAt_rd hg (i:=x.to.toNat) (by have:=ho.hi;omega) r;unfold extC;rw [List.getElem?_map];have e:∀ o:Option Pth,o.map (fun p=>x.cost+p.1)=(o.map (·.1)).map fun c=>x.cost+c:=fun o=>by cases o<;>rfl
 rw [e,this];cases (wayAt g x.to.toNat)[r]?<;>rfl
theorem clsG_len (g:List (List Edg)) (es:List Edg):(clsG g es).length=es.length:=by simp [clsG]
theorem rdV_bound {g:List (List Edg)} (hg:GOK g):∀ (d i:Nat),i+d=g.length->∀ p∈rdV g i,0<=p.1/\p.1<=18000*(d:Int):=by
 intro d;induction d using Nat.strongRecOn with
 | _ d ih=>
   intro i hi p hp;by_cases h:i<g.length
   ·obtain ⟨es,hes⟩:=get_lt h;have hE:=hg.edge i es hes;rw [rdV_cons hes hE,List.mem_map] at hp;obtain ⟨w,hw,rfl⟩:=hp;rw [mkR_cost];obtain ⟨t,ht⟩:=List.mem_iff_getElem?.1 hw;obtain ⟨_,l,h2,h3⟩:=mgW_cand ht;unfold clsG at h2;rw [List.getElem?_map] at h2;cases hx:es[w.edge]? with
    | none=>rw [hx] at h2;cases h2
    | some x=>
      rw [hx] at h2;cases h2
      have ho:=hE x (List.mem_of_getElem? hx);unfold extC at h3;rw [List.getElem?_map] at h3;cases hq:(rdV g x.to.toNat)[w.rank]? with
      | none=>rw [hq] at h3;cases h3
      | some q=>
        rw [hq] at h3;have h3:x.cost+q.1=w.cost:=(by simpa using h3);have h5:=ho.lo;have h6:=ho.hi;have h7:=ho.cost;have:=ih (g.length - x.to.toNat) (by omega) x.to.toNat (by omega) q (List.mem_of_getElem? hq);omega
   have:i=g.length:=(by omega);subst this;rw [rdV_end] at hp;simp at hp;subst hp;simp;omega
theorem wayAt_bound {g:List (List Edg)} (hg:GOK g) {i:Nat} (hi:i<=g.length):∀ w∈wayAt g i,0<=w.cost/\w.cost<=1080000:=by
 intro w hw;obtain ⟨t,ht⟩:=List.mem_iff_getElem?.1 hw;have:=wayAt_rd hg hi t;rw [ht] at this;cases hq:(rdV g i)[t]? with
 | none=>rw [hq] at this;cases this
 | some p=>
   rw [hq] at this;have hc:p.1=w.cost:=(by simpa using this);have h1:=rdV_bound hg (g.length - i) i (by omega) p (List.mem_of_getElem? hq);have:=hg.few;omega
theorem foldE_spec (t:List Int) (v:Edg->Int):∀ (es:List Edg) (r:Int),(∀ x∈es,t.getD (x.word.uses.length - 1) 0=v x)->(∀ x∈es,-1<=v x/\0<=x.cost)->-1<=r ->
  (es.foldl (edgeR t) r=r\/∃ x∈es,v x≠-1/\es.foldl (edgeR t) r=x.cost+v x)/\(r≠-1->es.foldl (edgeR t) r≠-1/\es.foldl (edgeR t) r<=r)/\(∀ x∈es,v x≠-1->es.foldl (edgeR t) r≠-1/\es.foldl (edgeR t) r<=x.cost+v x)
 | [],r,_,_,_=>⟨.inl rfl,fun h=>⟨h,Int.le_refl _⟩,fun x hx=>by cases hx⟩
 | x::es,r,hv,hc,hr=>by
   rw [List.foldl_cons];have hq:edgeR t r x=edgeStep (v x) r x.cost:=by unfold edgeR;rw [hv x (by simp)]
   have hcx:=hc x (by simp);obtain ⟨r',hr'⟩:∃ r',r'=edgeR t r x:=⟨_,rfl⟩;rw [<- hr']
   have hst:(r'=r\/v x≠-1/\r'=x.cost+v x)/\(r≠-1->r'≠-1/\r'<=r)/\(v x≠-1->r'≠-1/\r'<=x.cost+v x):=by
    rw [hr',hq];unfold edgeStep;split
    ·rename_i h;simp at h;refine ⟨.inr ⟨h.1,rfl⟩,fun h2=>?_,fun h2=>?_⟩<;>omega
    rename_i h;simp at h;refine ⟨.inl rfl,fun h2=>⟨h2,Int.le_refl _⟩,fun h2=>?_⟩;have:=h h2;omega
   obtain ⟨s1,s2,s3⟩:=hst;obtain ⟨h1,h2,h3⟩:=foldE_spec t v es r' (fun y hy=>hv y (by simp [hy])) (fun y hy=>hc y (by simp [hy])) (by rcases s1 with e|⟨e1,e2⟩<;>omega)
   obtain ⟨z,hz⟩:∃ z,z=es.foldl (edgeR t) r':=⟨_,rfl⟩;rw [<- hz] at h1 h2 h3 ⊢;refine ⟨?_,fun hn=>?_,fun y hy hvy=>?_⟩
   ·rcases h1 with e|⟨y,hy,e⟩
    ·rcases s1 with e2|⟨e2,e3⟩
     ·exact .inl (e.trans e2)
     exact .inr ⟨x,by simp,e2,e.trans e3⟩
    exact .inr ⟨y,by simp [hy],e⟩
   ·obtain ⟨a,b⟩:=s2 hn;obtain ⟨c,d⟩:=h2 a;exact ⟨c,by omega⟩
   rcases List.mem_cons.1 hy with rfl|hy
   ·obtain ⟨a,b⟩:=s3 hvy;obtain ⟨c,d⟩:=h2 a;exact ⟨c,by omega⟩
   exact h3 y hy hvy
theorem restV_consM {g:List (List Edg)} {i:Nat} {es:List Edg} (h:g[i]?=some es):restV g i=es.foldl (edgeR (restT (g.drop (i+1)))) (-1):=by unfold restV;rw [drop_cons h];rfl
theorem rest_first {g:List (List Edg)} (hg:GOK g):∀ (d i:Nat),i+d=g.length->restV g i=match (wayAt g i)[0]? with
  | none=>-1
  | some w=>w.cost:=by
 intro d;induction d using Nat.strongRecOn with
 | _ d ih=>
   intro i hi;by_cases h:i<g.length
   ·obtain ⟨es,hes⟩:=get_lt h;have hE:=hg.edge i es hes;have hto:∀ x∈es,(restT (g.drop (i+1))).getD (x.word.uses.length - 1) 0=restV g x.to.toNat:=by intro x hx;have ho:=hE x hx;have h1:=ho.lo;have h2:=ho.hi;have h3:=ho.to;have h4:=restT_get (g.drop (i+1)) (x.word.uses.length - 1) (by rw [List.length_drop];omega);rw [restV_drop,show i+1+(x.word.uses.length - 1)=x.to.toNat by omega] at h4;rw [List.getD_eq_getElem?_getD,h4];rfl
    have hrec:∀ x∈es,restV g x.to.toNat=match (wayAt g x.to.toNat)[0]? with
      | none=>-1
      | some w=>w.cost:=by
     intro x hx;have ho:=hE x hx;have h1:=ho.lo;have h2:=ho.hi;exact ih (g.length - x.to.toNat) (by omega) _ (by omega)
    have hpos:∀ x∈es,∀ w,(wayAt g x.to.toNat)[0]?=some w->0<=w.cost:=by intro x hx w hw;exact (wayAt_bound hg (by have:=(hE x hx).hi;omega) w (List.mem_of_getElem? hw)).1
    have hvb:∀ x∈es,-1<=restV g x.to.toNat/\0<=x.cost:=by
     intro x hx;refine ⟨?_,(hE x hx).cost.1⟩;rw [hrec x hx];cases hw:(wayAt g x.to.toNat)[0]? with
     | none=>simp
     | some w=>have:=hpos x hx w hw;simp only;omega
    obtain ⟨f1,f2,f3⟩:=foldE_spec (restT (g.drop (i+1))) (fun x=>restV g x.to.toNat) es (-1) hto hvb (by omega);rw [restV_consM hes];obtain ⟨z,hz⟩:∃ z,z=es.foldl (edgeR (restT (g.drop (i+1)))) (-1):=⟨_,rfl⟩;rw [<- hz] at f1 f3 ⊢;have hwa:wayAt g i=mgW (clsG g es):=by unfold wayAt;rw [hes]
    rw [hwa,mgW_get]
    have hcand:∀ y,Cand (clsG g es) (stS (clsG g es) 0) y↔∃ x w,es[y.edge]?=some x/\(wayAt g x.to.toNat)[0]?=some w/\y.cost=x.cost+w.cost/\y.rank=0:=by
     intro y;constructor
     ·rintro ⟨q1,l,q2,q3⟩;have q1:y.rank=0:=q1;rw [q1] at q3;have hlt:=(List.getElem?_eq_some_iff.1 q2).1;rw [clsG_len] at hlt;obtain ⟨x,hx⟩:=get_lt hlt;obtain ⟨l',e1,e2⟩:=clsG_get hg hes hx;rw [q2] at e1;cases e1
      rw [e2] at q3;cases hw:(wayAt g x.to.toNat)[0]? with
      | none=>rw [hw] at q3;cases q3
      | some w=>rw [hw] at q3;exact ⟨x,w,hx,hw,by simpa using q3.symm,q1⟩
     rintro ⟨x,w,hx,hw,hc,h0⟩;obtain ⟨l',e1,e2⟩:=clsG_get hg hes hx;exact ⟨h0,l',e1,by rw [h0,e2,hw,hc];rfl⟩
    cases hb:best (clsG g es) (stS (clsG g es) 0) with
    | none=>
      rcases f1 with e|⟨x,hx,hv,e⟩
      ·exact e
      obtain ⟨k,hk⟩:=List.mem_iff_getElem?.1 hx;rw [hrec x hx] at hv;cases hw:(wayAt g x.to.toNat)[0]? with
      | none=>rw [hw] at hv;exact absurd rfl hv
      | some w=>exact absurd ((hcand ⟨x.cost+w.cost,k,0⟩).2 ⟨x,w,hk,hw,rfl,rfl⟩) (best_none hb _)
    | some y=>
      obtain ⟨b1,b2⟩:=best_some hb;obtain ⟨x,w,hx,hw,hc,h0⟩:=(hcand y).1 b1;have hxm:=List.mem_of_getElem? hx;have hrx:restV g x.to.toNat=w.cost:=(by rw [hrec x hxm,hw]);have hw0:=hpos x hxm w hw;obtain ⟨g1,g2⟩:=f3 x hxm (by omega);simp only at g2 ⊢;rcases f1 with e|⟨x',hx',hv',e⟩
      ·exact absurd e g1
      obtain ⟨k,hk⟩:=List.mem_iff_getElem?.1 hx';rw [hrec x' hx'] at hv' e;cases hw':(wayAt g x'.to.toNat)[0]? with
      | none=>rw [hw'] at hv';exact absurd rfl hv'
      | some w'=>
        rw [hw'] at e;have hm:=b2 ⟨x'.cost+w'.cost,k,0⟩ ((hcand _).2 ⟨x',w',hk,hw',rfl,rfl⟩);rcases hm with e2|hl
        ·have:x'.cost+w'.cost=y.cost:=(by rw [<- e2]);simp only at e;omega
        unfold wlt at hl;simp only at hl e;omega
   have:i=g.length:=(by omega);subst this;rw [restV_end];unfold wayAt;rw [List.getElem?_eq_none (Nat.le_refl _)];rfl
end Go.Abs.Wall
namespace Go.Abs.Wall.Lst
open Go Go.Abs Go.Proofs Go.Abs.Wall
structure NodeS (cls:List (List Int)) (t:Nat) (due:Bool) (Q:List Wy):Prop where
 ok:NodeOK cls t due Q
 few:Q.length+(if due=true then 1 else 0)<=2000
 asked:t<=65
def NodeH (cls:List (List Int)) (nk:Nat) (hp:Heap):Prop:=∃ t due Q fv fh ov oh,NodeS cls t due Q/\Out 3 encWy ((mgW cls).take t) fv fh/\OpenR Q ov oh/\hp=(nk,.vec (ndC fv ov due))::(fh++oh)
def clsAt (g:List (List Edg)) (i:Nat):List (List Int):=clsG g (g.getD i [])
inductive Nodes (g:List (List Edg)):Nat->List Nat->Heap->Prop
 | nil (i:Nat):Nodes g i [] []
 | cons {i k:Nat} {ks:List Nat} {h1 h2:Heap}:NodeH (clsAt g i) k h1->Nodes g (i+1) ks h2->Nodes g i (k::ks) (h1++h2)
theorem Nodes.split {g:List (List Edg)}:∀ {i:Nat} {ks:List Nat} {hp:Heap} (n:Nat),Nodes g i ks hp->n<=ks.length->∃ hA hB,hp=hA++hB/\Nodes g i (ks.take n) hA/\Nodes g (i+n) (ks.drop n) hB
 | i,ks,hp,0,h,_=>⟨[],hp,rfl,by simpa using .nil i,by simpa using h⟩
 | i,_,_,n+1,.nil _,hn=>by simp at hn
 | i,_,_,n+1,.cons (k:=k) (ks:=ks) (h1:=h1) (h2:=h2) h1' h2',hn=>by obtain ⟨hA,hB,rfl,e1,e2⟩:=Nodes.split n h2' (by simpa using hn);refine ⟨h1++hA,hB,by rw [List.append_assoc],.cons h1' e1,?_⟩;rw [show i+(n+1)=i+1+n by omega];exact e2
theorem Nodes.join {g:List (List Edg)}:∀ {i:Nat} {ks ks2:List Nat} {hA hB:Heap},Nodes g i ks hA->Nodes g (i+ks.length) ks2 hB->Nodes g i (ks++ks2) (hA++hB)
 | i,_,ks2,_,hB,.nil _,h2=>by simpa using h2
 | i,_,ks2,_,hB,.cons (k:=k) (ks:=ks) (h1:=h1) (h2:=h2) h1' h2',h3=>by rw [List.append_assoc];refine .cons h1' (Nodes.join h2' ?_);rw [show i+1+ks.length=i+(k::ks).length by simp;omega];exact h3
def wy0:Wy:=⟨0,0,0⟩
def getV (g:List (List Edg)) (i rank:Nat):AV:=match (wayAt g i)[rank]? with
 | some w=>.tup [.agg (encWy w),.bool true]
 | none=>.tup [.agg (encWy wy0),.bool false]
def encKey (k:Nat):List AV:=[.optr k 0]
def tOb (g:List (List Edg)) (R:List Int) (nv:AV):Ob:=.vec [.iptr (encForest g R),nv]
def GetC (g:List (List Edg)) (at_:Nat):Prop:=
 ∀ (tb:Nat) (R:List Int) (pre ks:List Nat) (nq:Option Nat) (nv:AV) (rank:Nat) (hp:Heap),pre.length=at_->(pre++ks).length=g.length->(g=[]\/nv=.sl 1 nq ((pre++ks).map encKey))->Nodes g at_ ks hp->rank<=64 ->
  ACalls Tryz.prog 91 [.optr tb 0,.int .i64 at_,.int .i64 rank] ((tb,tOb g R nv)::hp) (fun v h'=>v=getV g at_ rank/\∃ hp',Nodes g at_ ks hp'/\h'=(tb,tOb g R nv)::hp')
theorem mgW_over {cls:List (List Int)} {t r:Nat} (h:(mgW cls)[t]?=none) (hr:t<=r):(mgW cls)[r]?=none:=by rw [List.getElem?_eq_none_iff] at h ⊢;omega
theorem take_one {cls:List (List Int)} {t:Nat} {x:Wy} (h:(mgW cls)[t]?=some x):(mgW cls).take (t+1)=(mgW cls).take t++[x]:=take_snoc h
theorem Out.len {α:Type} {k:Nat} {enc:α->List AV} {o:List α} {v:AV} {hp:Heap} (h:Out k enc o v hp):lenOf? v=some o.length:=by
 rcases h with ⟨rfl,rfl,rfl⟩|⟨q,rfl,rfl⟩
 ·rfl
 simp [lenOf?]
theorem permR {a b c:Nat × Ob} {fh oh h2:Heap}:(a::b::c::(fh++(oh++h2))).Perm (a::b::((c::(fh++oh))++h2)):=by rw [List.cons_append,List.append_assoc]
theorem perm3 {A B C D:Heap}:(D++(A++(B++C))).Perm (A++(B++(C++D))):=by have h:A++(B++(C++D))=(A++(B++C))++D:=(by simp [List.append_assoc]);rw [h];exact List.perm_append_comm
theorem permM {A B C D:Heap}:(D++(A++(B++C))).Perm (A++(B++(D++C))):=by have h:A++(B++(D++C))=(A++B)++(D++C):=(by simp [List.append_assoc]);have h2:D++(A++(B++C))=D++((A++B)++C):=(by simp [List.append_assoc]);rw [h,h2];exact List.perm_append_comm_assoc _ _ _
theorem recCall {g:List (List Edg)} {at_ j:Nat} (IH:GetC g j) (hj:at_<j) (hj2:j<=g.length) {tb:Nat} {R:List Int} {pre ks:List Nat} {k:Nat} {nq:Option Nat} (hpl:pre.length=at_) (hkl:(pre++k::ks).length=g.length) {rank:Nat} (hr:rank<=64) {h2:Heap} (hn:Nodes g (at_+1) ks h2) (A B:Heap) :
  ACalls Tryz.prog 91 [.optr tb 0,.int .i64 j,.int .i64 rank] (A++(tb,tOb g R (.sl 1 nq ((pre++k::ks).map encKey)))::(B++h2))
   (fun v H'=>v=getV g j rank/\∃ h2',Nodes g (at_+1) ks h2'/\H'=A++(tb,tOb g R (.sl 1 nq ((pre++k::ks).map encKey)))::(B++h2')):=by
 rw [List.length_append,List.length_cons] at hkl;obtain ⟨m,rfl⟩:∃ m,j=at_+1+m:=⟨j - (at_+1),by omega⟩;obtain ⟨hA,hB,rfl,nA,nB⟩:=hn.split m (by omega);have he:(pre++k::ks.take m)++ks.drop m=pre++k::ks:=(by rw [List.append_assoc,List.cons_append,List.take_append_drop]);have htl:(ks.take m).length=m:=by rw [List.length_take];omega
 have h1:=IH tb R (pre++k::ks.take m) (ks.drop m) nq (.sl 1 nq ((pre++k::ks).map encKey)) rank hB (by rw [List.length_append,List.length_cons,htl];omega) (by rw [he,List.length_append,List.length_cons];omega) (.inr (by rw [he])) nB hr;refine ACalls.re h1 (h2:=A++(B++hA)) ?_ ?_
 ·have p1:((tb,tOb g R (.sl 1 nq ((pre++k::ks).map encKey)))::hB++(A++(B++hA))).Perm ((tb,tOb g R (.sl 1 nq ((pre++k::ks).map encKey)))::(A++(B++(hA++hB)))):=by
   exact List.Perm.cons _ perm3
  exact p1.trans List.perm_middle.symm
 rintro v h3 ⟨rfl,hp',hn',rfl⟩;refine ⟨_,?_,rfl,hA++hp',?_,rfl⟩
 ·have p1:((tb,tOb g R (.sl 1 nq ((pre++k::ks).map encKey)))::hp'++(A++(B++hA))).Perm ((tb,tOb g R (.sl 1 nq ((pre++k::ks).map encKey)))::(A++(B++(hA++hp')))):=by
   exact List.Perm.cons _ perm3
  exact p1.trans List.perm_middle.symm
 have:=Nodes.join nA (by rw [htl];exact hn');rwa [List.take_append_drop] at this
theorem putCall {x:Wy} {Q:List Wy} (hs:Q.Pairwise wlt) {nk:Nat} {fv:AV} {due:Bool} {ov:AV} {oh:Heap} (ho:OpenR Q ov oh) (hl:Q.length<=65536) (A B C:Heap) :
  ACalls Tryz.prog 90 [.optr nk 1,.agg (encWy x)] (A++(nk,.vec (ndC fv ov due))::(B++(oh++C)))
   (fun v H'=>v=.tup []/\∃ ov' oh',OpenR (insW x Q) ov' oh'/\H'=A++(nk,.vec (ndC fv ov' due))::(B++(oh'++C))):=by
 have key:∀ (o:Nat × Ob) (oh:Heap),(o::oh++(A++(B++C))).Perm (A++o::(B++(oh++C))):=by intro o oh;refine List.Perm.trans ?_ List.perm_middle.symm;exact List.Perm.cons _ permM
 refine ACalls.re (putW x Q hs nk fv due ov oh ho hl) (key _ _) ?_;rintro v h3 ⟨rfl,ov',oh',ho',rfl⟩;exact ⟨_,key _ _,rfl,ov',oh',ho',rfl⟩
def c91:Cfg:=⟨[0,1,2,6,7,8,9,10,11,12,22,39,43,83,105],[],[9,10,11],[],[(7,[0,1,2,3,4,5,6,7,8,9,10,11,12,13],[9]),(8,[0,1,2,3,4,5,6,7,8,9,10,11,12,13,14,15],[10]),(11,[0,1,2,3,4,5,6,7,8,9,10,11,12,13,14],[]),(14,[0,1,2,3,4,5,6,7,8,9,10,11,12,13,14,15,16],[])],[98]⟩
set_option maxHeartbeats 2000000 in
theorem getStep (g:List (List Edg)) (hg:GOK g) (at_:Nat) (hat:at_<=g.length) (IH:∀ j,at_<j->j<=g.length->GetC g j):GetC g at_:=by
 intro tb R pre ks nq nv rank hp hpl hkl hnv hN hr;have hgf:=hg.few;refine ACalls.post (R:=fun v h'=>v=getV g at_ rank/\∃ hp',Nodes g at_ ks hp'/\∃ rb o,h'.Perm ((rb,o)::(tb,tOb g R nv)::hp')) ?_ ?_
 ·by_cases he:at_=g.length
  ·have hwa:wayAt g at_=[wy0]:=by unfold wayAt;rw [he,List.getElem?_eq_none (Nat.le_refl _)];rfl
   refine fcalls (F:=Tryz.f91) c91 rfl rfl rfl mixed rfl fun X=>?_;(conv=>whnf);repeat ((first|refine ⟨_,_,.tail _ (.head _),rfl,?_⟩|intro (nb:Nat));conv=>whnf)
   refine cT (by simp;omega) ?_;(conv=>whnf);repeat ((first|refine ⟨_,_,.head _,rfl,?_⟩|refine ⟨_,_,.here _,leOK,?_⟩);conv=>whnf)
   refine ⟨?_,hp,hN,nb,_,.refl _⟩;unfold getV;rw [hwa];cases rank with
   | zero=>rfl
   | succ r=>rfl
  have hat2:at_<g.length:=(by omega);obtain ⟨es,hes⟩:=get_lt hat2;have hE:=hg.edge at_ es hes;have hwa:wayAt g at_=mgW (clsG g es):=by unfold wayAt;rw [hes]
  have hca:clsAt g at_=clsG g es:=by unfold clsAt;rw [List.getD_eq_getElem?_getD,hes];rfl
  cases hN with
  | nil=>rw [List.append_nil] at hkl;omega
  | cons hn1 hn2=>
  rename_i k ks h1 h2
  have hnv2:nv=.sl 1 nq ((pre++k::ks).map encKey):=by
   rcases hnv with h|h
   ·rw [h] at hat2;simp at hat2
   exact h
  subst hnv2;have hkat:(pre++k::ks)[at_]?=some k:=by rw [<- hpl];simp
  unfold NodeH at hn1;rw [hca] at hn1;obtain ⟨t0,due0,Q0,fv0,fh0,ov0,oh0,hok0,hfo0,hoo0,rfl⟩:=hn1;refine fcalls (F:=Tryz.f91) c91 rfl rfl rfl mixed rfl fun X=>?_;(conv=>whnf);repeat ((first|refine ⟨_,_,.tail _ (.head _),rfl,?_⟩|intro (nb:Nat));conv=>whnf)
  refine cF (by simp;omega) ?_;(conv=>whnf);repeat ((first|refine ix (by assumption) ?_|refine ⟨_,_,.tail _ (.head _),rfl,?_⟩);conv=>whnf)
  refine tloop rfl mixed [0,1,2,6,8] [] (fun m r h=>∃ (t:Nat) (due:Bool) (Q:List Wy) (fv:AV) (fh:Heap) (ov:AV) (oh h2:Heap) (rb:Nat),r=[(0,[],.optr tb 0),(1,[],.int .i64 at_),(2,[],.int .i64 rank),(6,[],.optr rb 0),(8,[],.optr k 0)]/\h=(rb,.vec (encWy wy0))::(tb,tOb g R (.sl 1 nq ((pre++k::ks).map encKey)))::(k,.vec (ndC fv ov due))::(fh++(oh++h2))/\m=66 - t/\NodeS (clsG g es) t due Q/\Out 3 encWy ((mgW (clsG g es)).take t) fv fh/\OpenR Q ov oh/\Nodes g (at_+1) ks h2) ?_ ?_
  ·(conv=>whnf);refine ⟨_,_,Turn.refl _ _,_,t0,due0,Q0,fv0,fh0,ov0,oh0,h2,nb,rfl,?_,rfl,hok0,hfo0,hoo0,hn2⟩;rw [List.cons_append,List.append_assoc];rfl
  clear hok0 hfo0 hoo0 hn2;rintro m r h' ⟨t,due,Q,fv,fh,ov,oh,h2,rb,rfl,rfl,rfl,hok,hfo,hoo,hn2⟩;have htl:=hok.ok.le;have hfo':=hfo;have hlen:((mgW (clsG g es)).take t).length=t:=by rw [List.length_take];omega
  have hml:(((mgW (clsG g es)).take t).map encWy).length=t:=by rw [List.length_map];exact hlen
  have htk65:=hok.asked;rcases hfo with ⟨hF,rfl,rfl⟩|⟨q,rfl,rfl⟩
  ·have ht0:t=0:=by rw [hF] at hlen;exact hlen.symm
   have hdue:due=false:=by
    cases due with
    | false=>rfl
    | true=>have:=hok.ok.pos rfl;omega
   subst hdue;have htr:t<=rank:=(by omega);(conv=>whnf);repeat ((refine ⟨_,_,.tail _ (.tail _ (.head _)),rfl,?_⟩);conv=>whnf)
   refine cT (by simp) ?_;(conv=>whnf);repeat ((refine ⟨_,_,.tail _ (.tail _ (.head _)),rfl,?_⟩);conv=>whnf)
   refine cF rfl ?_;cases hQ:Q with
   | nil=>
     subst hQ;have hgv:getV g at_ rank=.tup [.agg (encWy wy0),.bool false]:=by unfold getV;rw [hwa,mgW_over hok.ok.empty htr]
     have hoo':=hoo;rcases hoo with ⟨_,rfl,rfl⟩|⟨ob,pr,rfl,rfl⟩
     all_goals
      (conv=>whnf);repeat ((refine ⟨_,_,.tail _ (.tail _ (.head _)),rfl,?_⟩);conv=>whnf)
      refine cT rfl ?_;(conv=>whnf);repeat ((first|(refine ⟨_,_,.here _,leOK,?_⟩)|refine ⟨_,_,.head _,rfl,?_⟩);conv=>whnf)
      refine ⟨hgv.symm,_,.cons ⟨t,false,[],_,_,_,_,by rw [hca];exact hok,by rw [hca];exact hfo',hoo',rfl⟩ hn2,rb,_,by first|exact permR|exact .refl _|(refine List.Perm.of_eq ?_;simp)⟩
   | cons x Q'=>
     rcases hoo with ⟨h0,rfl,rfl⟩|⟨ob,pr,rfl,rfl⟩
     ·rw [hQ] at h0;cases h0
     subst hQ;obtain ⟨hx,hok2⟩:=hok.ok.pop;have htk:=take_one hx;have hfew:=hok.few;have hlc:(x::Q').length=Q'.length+1:=rfl;have htb:((mgW (clsG g es)).take t).length<=65:=(by omega);(conv=>whnf);repeat ((refine ⟨_,_,.tail _ (.tail _ (.head _)),rfl,?_⟩);conv=>whnf)
     refine cF (decide_eq_false (by omega)) ?_;(conv=>whnf);repeat ((first|(refine ⟨_,_,.tail _ (.tail _ (.head _)),rfl,?_⟩)|(refine ⟨0,gP_of ⟨rfl,by omega⟩,?_⟩)|(refine ldP (i:=0) encWy_len (.tail _ (.tail _ (.tail _ (.head _)))) rfl rfl ?_)|refine And.intro (by show drawOK (opsAt Tryz.f91 _) _=true;decide +kernel) ?_);conv=>whnf)
     first|refine ⟨Nat.le_of_ble_eq_true rfl,fun q'=>?_⟩|refine ⟨(by simp;unfold AMAX;omega),fun q'=>⟨_,.there (.there (.there (.here _))),?_⟩⟩
     (conv=>whnf);repeat ((first|refine ⟨gP_of ⟨by omega,by omega⟩,?_⟩|(refine ⟨_,_,.there (.there (.there (.here _))),leOK,?_⟩)|(refine ⟨_,_,.tail _ (.tail _ (.tail _ (.head _))),rfl,?_⟩));conv=>whnf)
     have e1:pr.length+Int.toNat 1*3=(pr++encWy x).length:=by rw [List.length_append];rfl
     have e2:(((x::Q').length:Nat):Int).toNat - Int.toNat 1=Q'.length:=by rw [Int.toNat_natCast];rfl
     have e3:pr++((x::Q').map encWy).flatten=(pr++encWy x)++(Q'.map encWy).flatten:=(by simp);have hfew2:Q'.length+(if true=true then 1 else 0)<=2000:=by simp at hfew ⊢;omega
     rw [e1,e2,e3]
     first
      | exact ⟨_,_,Turn.refl _ _,_,(by omega),t+1,true,Q',_,[(q',.tok)],_,[(ob,_)],h2,rb,rfl,rfl,rfl,⟨hok2,hfew2,by omega⟩,.inr ⟨q',by rw [htk,List.map_append];rfl,rfl⟩,.inr ⟨ob,pr++encWy x,rfl,rfl⟩,hn2⟩
      | exact ⟨_,_,Turn.perm (List.perm_middle (l₁:=[_,_,_])).symm,_,(by omega),t+1,true,Q',_,[(q',.tok)],_,[(ob,_)],h2,rb,rfl,rfl,rfl,⟨hok2,hfew2,by omega⟩,.inr ⟨q',by rw [htk,hF];rfl,rfl⟩,.inr ⟨ob,pr++encWy x,rfl,rfl⟩,hn2⟩
  (conv=>whnf);repeat ((refine ⟨_,_,.tail _ (.tail _ (.head _)),rfl,?_⟩);conv=>whnf)
  refine ⟨fun hz=>?_,fun hz=>?_⟩<;>simp at hz
  ·have htr:t<=rank:=(by omega);cases due with
   | false=>
     (conv=>whnf);repeat ((refine ⟨_,_,.tail _ (.tail _ (.head _)),rfl,?_⟩);conv=>whnf)
     refine cF rfl ?_;cases hQ:Q with
     | nil=>
       subst hQ;have hgv:getV g at_ rank=.tup [.agg (encWy wy0),.bool false]:=by unfold getV;rw [hwa,mgW_over hok.ok.empty htr]
       have hoo':=hoo;rcases hoo with ⟨_,rfl,rfl⟩|⟨ob,pr,rfl,rfl⟩
       all_goals
        (conv=>whnf);repeat ((refine ⟨_,_,.tail _ (.tail _ (.head _)),rfl,?_⟩);conv=>whnf)
        refine cT rfl ?_;(conv=>whnf);repeat ((first|(refine ⟨_,_,.here _,leOK,?_⟩)|refine ⟨_,_,.head _,rfl,?_⟩);conv=>whnf)
        refine ⟨hgv.symm,_,.cons ⟨t,false,[],_,_,_,_,by rw [hca];exact hok,by rw [hca];exact hfo',hoo',rfl⟩ hn2,rb,_,by first|exact permR|exact .refl _|(refine List.Perm.of_eq ?_;simp)⟩
     | cons x Q'=>
       rcases hoo with ⟨h0,rfl,rfl⟩|⟨ob,pr,rfl,rfl⟩
       ·rw [hQ] at h0;cases h0
       subst hQ;obtain ⟨hx,hok2⟩:=hok.ok.pop;have htk:=take_one hx;have hfew:=hok.few;have hlc:(x::Q').length=Q'.length+1:=rfl;have htb:((mgW (clsG g es)).take t).length<=65:=(by omega);(conv=>whnf);repeat ((refine ⟨_,_,.tail _ (.tail _ (.head _)),rfl,?_⟩);conv=>whnf)
       refine cF (decide_eq_false (by omega)) ?_;(conv=>whnf);repeat ((first|(refine ⟨_,_,.tail _ (.tail _ (.head _)),rfl,?_⟩)|(refine ⟨0,gP_of ⟨rfl,by omega⟩,?_⟩)|(refine ldP (i:=0) encWy_len (.tail _ (.tail _ (.tail _ (.tail _ (.head _))))) rfl rfl ?_)|refine And.intro (by show drawOK (opsAt Tryz.f91 _) _=true;decide +kernel) ?_);conv=>whnf)
       first|refine ⟨Nat.le_of_ble_eq_true rfl,fun q'=>?_⟩|refine ⟨(by simp;unfold AMAX;omega),fun q'=>⟨_,.there (.there (.there (.here _))),?_⟩⟩
       (conv=>whnf);repeat ((first|refine ⟨gP_of ⟨by omega,by omega⟩,?_⟩|(refine ⟨_,_,.there (.there (.here _)),leOK,?_⟩)|(refine ⟨_,_,.tail _ (.tail _ (.head _)),rfl,?_⟩));conv=>whnf)
       have e1:pr.length+Int.toNat 1*3=(pr++encWy x).length:=by rw [List.length_append];rfl
       have e2:(((x::Q').length:Nat):Int).toNat - Int.toNat 1=Q'.length:=by rw [Int.toNat_natCast];rfl
       have e3:pr++((x::Q').map encWy).flatten=(pr++encWy x)++(Q'.map encWy).flatten:=(by simp);have hfew2:Q'.length+(if true=true then 1 else 0)<=2000:=by simp at hfew ⊢;omega
       rw [e1,e2,e3]
       first
        | exact ⟨_,_,Turn.refl _ _,_,(by omega),t+1,true,Q',_,[(q',.tok)],_,[(ob,_)],h2,rb,rfl,rfl,rfl,⟨hok2,hfew2,by omega⟩,.inr ⟨q',by rw [htk,List.map_append];rfl,rfl⟩,.inr ⟨ob,pr++encWy x,rfl,rfl⟩,hn2⟩
        | exact ⟨_,_,Turn.perm (List.perm_middle (l₁:=[_,_,_])).symm,_,(by omega),t+1,true,Q',_,[(q',.tok)],_,[(ob,_)],h2,rb,rfl,rfl,rfl,⟨hok2,hfew2,by omega⟩,.inr ⟨q',by rw [htk,hF];rfl,rfl⟩,.inr ⟨ob,pr++encWy x,rfl,rfl⟩,hn2⟩
   | true=>
     obtain ⟨y,hy⟩:=hok.ok.last;have ht1:=hok.ok.pos rfl;have hyr:=mgW_rank hy;have hyt:((mgW (clsG g es)).take t)[t - 1]?=some y:=by rw [List.getElem?_take_of_lt (by omega)];exact hy
     obtain ⟨_,cl,hcl,hcc⟩:=mgW_cand hy;obtain ⟨xe,hxe⟩:=get_lt (l:=es) (i:=y.edge) (by have:=(List.getElem?_eq_some_iff.1 hcl).1;rw [clsG_len] at this;exact this);have hxo:=hE xe (List.mem_of_getElem? hxe);(conv=>whnf);repeat ((refine ⟨_,_,.tail _ (.tail _ (.head _)),rfl,?_⟩);conv=>whnf)
     refine cT rfl ?_;(conv=>whnf);repeat ((first|refine ⟨gP_of ⟨by omega,by omega⟩,?_⟩|refine ix (by assumption) ?_|(refine ⟨_,_,.there (.there (.here _)),leOK,?_⟩)|(refine ⟨_,_,.tail _ (.tail _ (.head _)),rfl,?_⟩)|(refine ixn (t - 1) (by omega) hyt ?_)|refine ⟨_,_,Rem.here _,?_⟩|refine ⟨_,_,.tail _ (.head _),rfl,?_⟩|refine ⟨_,_,.here _,leOK,?_⟩|refine And.intro (by show drawOK (opsAt Tryz.f91 _) _=true;decide +kernel) ?_|intro (nb:Nat));conv=>whnf)
     have hxlo:=hxo.lo;have hxhi:=hxo.hi;have hxc:=hxo.cost;have hto:((xe.to.toNat:Nat):Int)=xe.to:=Int.toNat_of_nonneg (by omega);have hrc:=recCall (IH xe.to.toNat (by omega) (by omega)) (by omega) (by omega) (tb:=tb) (R:=R) (nq:=nq) hpl hkl (rank:=y.rank+1) (by omega) hn2 [(rb,.vec (encWy wy0))] ((k,.vec (ndC (.sl 3 (some q) (((mgW (clsG g es)).take t).map encWy)) ov false))::(q,.tok)::oh);rw [hto] at hrc;obtain ⟨l,hl1,hl2⟩:=clsG_get hg hes hxe;have hl3:=hl2 (y.rank+1);have hfew:=hok.few;have hfew3:Q.length+1<=2000:=(by simpa using hfew);refine ACalls.mono ?_ hrc;clear hn2;rintro v h1 ⟨rfl,h2,hn2,rfl⟩;cases hw:(wayAt g xe.to.toNat)[y.rank+1]? with
     | none=>
       have hgv:getV g xe.to.toNat (y.rank+1)=.tup [.agg (encWy wy0),.bool false]:=by unfold getV;rw [hw]
       rw [hw] at hl3;rw [hgv];have hok:NodeS (clsG g es) t false Q:=⟨hok.ok.skip hy hl1 hl3,by simp;omega,hok.asked⟩;(conv=>whnf);repeat ((first|refine ⟨_,_,Rem.here _,⟨Nat.le_of_ble_eq_true rfl,rfl⟩,?_⟩|intro (nb:Nat));conv=>whnf)
       refine cF rfl ?_;cases hQ:Q with
       | nil=>
         subst hQ;have hgv:getV g at_ rank=.tup [.agg (encWy wy0),.bool false]:=by unfold getV;rw [hwa,mgW_over hok.ok.empty htr]
         have hoo':=hoo;rcases hoo with ⟨_,rfl,rfl⟩|⟨ob,pr,rfl,rfl⟩
         all_goals
          (conv=>whnf);repeat ((refine ⟨_,_,.tail _ (.tail _ (.head _)),rfl,?_⟩);conv=>whnf)
          refine cT rfl ?_;(conv=>whnf);repeat ((first|(refine ⟨_,_,.here _,leOK,?_⟩)|refine ⟨_,_,.head _,rfl,?_⟩);conv=>whnf)
          refine ⟨hgv.symm,_,.cons ⟨t,false,[],_,_,_,_,by rw [hca];exact hok,by rw [hca];exact hfo',hoo',rfl⟩ hn2,rb,_,by first|exact permR|exact .refl _|(refine List.Perm.of_eq ?_;simp)⟩
       | cons x Q'=>
         rcases hoo with ⟨h0,rfl,rfl⟩|⟨ob,pr,rfl,rfl⟩
         ·rw [hQ] at h0;cases h0
         subst hQ;obtain ⟨hx,hok2⟩:=hok.ok.pop;have htk:=take_one hx;have hfew:=hok.few;have hlc:(x::Q').length=Q'.length+1:=rfl;have htb:((mgW (clsG g es)).take t).length<=65:=(by omega);(conv=>whnf);repeat ((refine ⟨_,_,.tail _ (.tail _ (.head _)),rfl,?_⟩);conv=>whnf)
         refine cF (decide_eq_false (by omega)) ?_;(conv=>whnf);repeat ((first|(refine ⟨_,_,.tail _ (.tail _ (.head _)),rfl,?_⟩)|(refine ⟨0,gP_of ⟨rfl,by omega⟩,?_⟩)|(refine ldP (i:=0) encWy_len (.tail _ (.tail _ (.tail _ (.tail _ (.head _))))) rfl rfl ?_)|refine And.intro (by show drawOK (opsAt Tryz.f91 _) _=true;decide +kernel) ?_);conv=>whnf)
         first|refine ⟨Nat.le_of_ble_eq_true rfl,fun q'=>?_⟩|refine ⟨(by simp;unfold AMAX;omega),fun q'=>⟨_,.there (.there (.there (.here _))),?_⟩⟩
         (conv=>whnf);repeat ((first|refine ⟨gP_of ⟨by omega,by omega⟩,?_⟩|(refine ⟨_,_,.there (.there (.here _)),leOK,?_⟩)|(refine ⟨_,_,.tail _ (.tail _ (.head _)),rfl,?_⟩));conv=>whnf)
         have e1:pr.length+Int.toNat 1*3=(pr++encWy x).length:=by rw [List.length_append];rfl
         have e2:(((x::Q').length:Nat):Int).toNat - Int.toNat 1=Q'.length:=by rw [Int.toNat_natCast];rfl
         have e3:pr++((x::Q').map encWy).flatten=(pr++encWy x)++(Q'.map encWy).flatten:=(by simp);have hfew2:Q'.length+(if true=true then 1 else 0)<=2000:=by simp at hfew ⊢;omega
         rw [e1,e2,e3]
         first
          | exact ⟨_,_,Turn.refl _ _,_,(by omega),t+1,true,Q',_,[(q',.tok)],_,[(ob,_)],h2,rb,rfl,rfl,rfl,⟨hok2,hfew2,by omega⟩,.inr ⟨q',by rw [htk,List.map_append];rfl,rfl⟩,.inr ⟨ob,pr++encWy x,rfl,rfl⟩,hn2⟩
          | exact ⟨_,_,Turn.perm (List.perm_middle (l₁:=[_,_,_])).symm,_,(by omega),t+1,true,Q',_,[(q',.tok)],_,[(ob,_)],h2,rb,rfl,rfl,rfl,⟨hok2,hfew2,by omega⟩,.inr ⟨q',by rw [htk,hF];rfl,rfl⟩,.inr ⟨ob,pr++encWy x,rfl,rfl⟩,hn2⟩
     | some w=>
       have hgv:getV g xe.to.toNat (y.rank+1)=.tup [.agg (encWy w),.bool true]:=by unfold getV;rw [hw]
       rw [hw] at hl3;have hwb:=wayAt_bound hg (i:=xe.to.toNat) (by omega) w (List.mem_of_getElem? hw);rw [hgv];(conv=>whnf);repeat ((first|refine ⟨_,_,Rem.here _,⟨Nat.le_of_ble_eq_true rfl,rfl⟩,?_⟩|intro (nb:Nat));conv=>whnf)
       refine cT rfl ?_;(conv=>whnf);repeat ((first|refine ⟨gP_of ⟨by omega,by omega⟩,?_⟩|refine And.intro (by show drawOK (opsAt Tryz.f91 _) _=true;decide +kernel) ?_);conv=>whnf)
       refine ACalls.mono ?_ (putCall (x:=⟨xe.cost+w.cost,y.edge,y.rank+1⟩) hok.ok.sorted (nk:=k) (fv:=.sl 3 (some q) (((mgW (clsG g es)).take t).map encWy)) (due:=false) hoo (by omega) [(rb,.vec (encWy wy0)),(tb,tOb g R (.sl 1 nq ((pre++k::ks).map encKey)))] [(q,.tok)] h2);have hok2:NodeS (clsG g es) t false (insW ⟨xe.cost+w.cost,y.edge,y.rank+1⟩ Q):=⟨hok.ok.push hy hl1 hl3,by rw [insW_length];simp;omega,hok.asked⟩;clear hok hoo;rintro v h1 ⟨rfl,ov,oh,hoo,rfl⟩;obtain ⟨Q,hQe⟩:∃ Q',Q'=insW ⟨xe.cost+w.cost,y.edge,y.rank+1⟩ Q:=⟨_,rfl⟩;rw [<- hQe] at hoo hok2;have hok:=hok2;(conv=>whnf);repeat ((refine ⟨_,_,.tail _ (.tail _ (.head _)),rfl,?_⟩);conv=>whnf)
       cases hQ:Q with
       | nil=>
         subst hQ;have hgv:getV g at_ rank=.tup [.agg (encWy wy0),.bool false]:=by unfold getV;rw [hwa,mgW_over hok.ok.empty htr]
         have hoo':=hoo;rcases hoo with ⟨_,rfl,rfl⟩|⟨ob,pr,rfl,rfl⟩
         all_goals
          (conv=>whnf);skip;refine cT rfl ?_;(conv=>whnf);repeat ((first|(refine ⟨_,_,.here _,leOK,?_⟩)|refine ⟨_,_,.head _,rfl,?_⟩);conv=>whnf)
          refine ⟨hgv.symm,_,.cons ⟨t,false,[],_,_,_,_,by rw [hca];exact hok,by rw [hca];exact hfo',hoo',rfl⟩ hn2,rb,_,by first|exact permR|exact .refl _|(refine List.Perm.of_eq ?_;simp)⟩
       | cons x Q'=>
         rcases hoo with ⟨h0,rfl,rfl⟩|⟨ob,pr,rfl,rfl⟩
         ·rw [hQ] at h0;cases h0
         subst hQ;obtain ⟨hx,hok2⟩:=hok.ok.pop;have htk:=take_one hx;have hfew:=hok.few;have hlc:(x::Q').length=Q'.length+1:=rfl;have htb:((mgW (clsG g es)).take t).length<=65:=(by omega);(conv=>whnf);skip;refine cF (decide_eq_false (by omega)) ?_;(conv=>whnf);repeat ((first|(refine ⟨_,_,.tail _ (.tail _ (.head _)),rfl,?_⟩)|(refine ⟨0,gP_of ⟨rfl,by omega⟩,?_⟩)|(refine ldP (i:=0) encWy_len (.tail _ (.tail _ (.tail _ (.tail _ (.head _))))) rfl rfl ?_)|refine And.intro (by show drawOK (opsAt Tryz.f91 _) _=true;decide +kernel) ?_);conv=>whnf)
         first|refine ⟨Nat.le_of_ble_eq_true rfl,fun q'=>?_⟩|refine ⟨(by simp;unfold AMAX;omega),fun q'=>⟨_,.there (.there (.there (.here _))),?_⟩⟩
         (conv=>whnf);repeat ((first|refine ⟨gP_of ⟨by omega,by omega⟩,?_⟩|(refine ⟨_,_,.there (.there (.here _)),leOK,?_⟩)|(refine ⟨_,_,.tail _ (.tail _ (.head _)),rfl,?_⟩));conv=>whnf)
         have e1:pr.length+Int.toNat 1*3=(pr++encWy x).length:=by rw [List.length_append];rfl
         have e2:(((x::Q').length:Nat):Int).toNat - Int.toNat 1=Q'.length:=by rw [Int.toNat_natCast];rfl
         have e3:pr++((x::Q').map encWy).flatten=(pr++encWy x)++(Q'.map encWy).flatten:=(by simp);have hfew2:Q'.length+(if true=true then 1 else 0)<=2000:=by simp at hfew ⊢;omega
         rw [e1,e2,e3]
         first
          | exact ⟨_,_,Turn.refl _ _,_,(by omega),t+1,true,Q',_,[(q',.tok)],_,[(ob,_)],h2,rb,rfl,rfl,rfl,⟨hok2,hfew2,by omega⟩,.inr ⟨q',by rw [htk,List.map_append];rfl,rfl⟩,.inr ⟨ob,pr++encWy x,rfl,rfl⟩,hn2⟩
          | exact ⟨_,_,Turn.perm (List.perm_middle (l₁:=[_,_,_])).symm,_,(by omega),t+1,true,Q',_,[(q',.tok)],_,[(ob,_)],h2,rb,rfl,rfl,rfl,⟨hok2,hfew2,by omega⟩,.inr ⟨q',by rw [htk,hF];rfl,rfl⟩,.inr ⟨ob,pr++encWy x,rfl,rfl⟩,hn2⟩
  obtain ⟨w,hw⟩:=get_lt (l:=(mgW (clsG g es)).take t) (i:=rank) (by omega);have hw2:=hw;rw [List.getElem?_take_of_lt (by omega)] at hw2;(conv=>whnf);repeat ((first|refine ix (by assumption) ?_|(refine ⟨_,_,.tail _ (.tail _ (.head _)),rfl,?_⟩)|(refine ⟨_,_,.here _,leOK,?_⟩)|refine ⟨_,_,.head _,rfl,?_⟩);conv=>whnf)
  refine ⟨?_,_,.cons ⟨t,due,Q,_,_,_,_,by rw [hca];exact hok,by rw [hca];exact hfo',hoo,rfl⟩ hn2,rb,_,permR⟩;unfold getV;rw [hwa,hw2];rfl
 rintro v h1 ⟨hv,hp',hn',rb,o,hpm⟩;refine ⟨v,_,⟨hv,hp',hn',rfl⟩,VLe.refl _,fun k o hm=>hpm.mem_iff.2 (List.mem_cons_of_mem _ hm),fun hn=>?_⟩;have:=((hpm.map (fun p:Nat × Ob=>p.1)).nodup_iff).1 hn;exact (List.nodup_cons.1 this).2
theorem getAll (g:List (List Edg)) (hg:GOK g):∀ (d j:Nat),j+d=g.length->GetC g j:=by
 intro d;induction d using Nat.strongRecOn with
 | _ d ih=>exact fun j hj=>getStep g hg j (by omega) fun i h1 h2=>ih (g.length - i) (by omega) i (by omega)
end Go.Abs.Wall.Lst
namespace Go.Abs.Wall.Lst
open Go Go.Abs Go.Proofs Go.Abs.Wall
theorem zeroNode (g:List (List Edg)) (i:Nat) (k:Nat) (Q:List Wy) (ov:AV) (oh:Heap) (hq:begQ (clsAt g i) (clsAt g i).length Q) (hl:Q.length<=2000) (ho:OpenR Q ov oh):Nodes g i [k] ((k,.vec (ndC .nilS ov false))::oh):=by have:=Nodes.cons (g:=g) (i:=i) (k:=k) (ks:=[]) (h1:=(k,.vec (ndC .nilS ov false))::([]++oh)) (h2:=[]) ⟨0,false,Q,.nilS,[],ov,oh,⟨begQ_end hq,by simpa using hl,by omega⟩,.inl ⟨by simp,rfl,rfl⟩,ho,rfl⟩ (.nil _);simpa using this
def c61:Cfg:=⟨[0,2,3,4,5,6,7,8,16,17,18,29,30,31,32,45],[11,22],[7],[],[(9,[0,1,2,3,4,5,6,7,8],[]),(11,[0,1,2,3,4,5,6,7,8,9],[])],[55]⟩
theorem beginW (g:List (List Edg)) (hg:GOK g):ACalls Tryz.prog 61 [.iptr (encForest g (restT g))] [] (fun v h'=>∃ tb ks nq nv hp,v=.optr tb 0/\ks.length=g.length/\(g=[]\/nv=.sl 1 nq (ks.map encKey))/\Nodes g 0 ks hp/\h'=(tb,tOb g (restT g) nv)::hp):=by
 have hgf:=hg.few;refine ACalls.post (R:=fun v h'=>∃ tb ks nv nh hp,v=.optr tb 0/\ks.length=g.length/\Out 1 encKey ks nv nh/\Nodes g 0 ks hp/\h'=(tb,tOb g (restT g) nv)::(nh++hp)) ?_ ?_
 ·refine fcalls (F:=Tryz.f61) c61 rfl rfl rfl mixed rfl fun X=>?_;(conv=>whnf);repeat (intro (nb:Nat);conv=>whnf)
  refine tloop rfl mixed [0,3,16,17] [] (fun m r h=>∃ (tb i:Nat) (ks:List Nat) (nv:AV) (nh hp:Heap),r=[(0,[],.iptr (encForest g (restT g))),(3,[],.optr tb 0),(16,[],.int .i64 g.length),(17,[],.int .i64 i)]/\h=(tb,tOb g (restT g) nv)::(nh++hp)/\m=g.length - i/\i<=g.length/\ks.length=i/\Out 1 encKey ks nv nh/\Nodes g 0 ks hp) ?_ ?_
  ·(conv=>whnf);exact ⟨_,_,Turn.refl _ _,_,nb,0,[],.nilS,[],[],by rw [List.length_map];rfl,rfl,rfl,by omega,rfl,.inl ⟨rfl,rfl,rfl⟩,.nil _⟩
  rintro m r h' ⟨tb,i,ks,nv,nh,hp,rfl,rfl,rfl,hi,hkl,hno,hN⟩;(conv=>whnf);refine ⟨fun hz=>?_,fun hz=>?_⟩<;>simp at hz
  ·obtain ⟨es,hes⟩:=get_lt (l:=g) (i:=i) hz;have hE:=hg.edge i es hes;have hca:clsAt g i=clsG g es:=by unfold clsAt;rw [List.getD_eq_getElem?_getD,hes];rfl
   have hmany:=hg.many i es hes;(conv=>whnf);repeat ((first|refine ix (by assumption) ?_|intro (nb:Nat));conv=>whnf)
   refine tloop rfl mixed [0,3,5,16,17,29,30,31] [] (fun m r h=>∃ (j:Nat) (Q:List Wy) (ov:AV) (oh:Heap) (k:Nat),r=[(0,[],.iptr (encForest g (restT g))),(3,[],.optr tb 0),(5,[],.optr k 0),(16,[],.int .i64 g.length),(17,[],.int .i64 i),(29,[],.sl 7 none (es.map encEdg)),(30,[],.int .i64 (es.map encEdg).length),(31,[],.int .i64 j)]/\h=(tb,tOb g (restT g) nv)::(k,.vec (ndC .nilS ov false))::(nh++(oh++hp))/\m=es.length - j/\j<=es.length/\begQ (clsG g es) j Q/\Q.length<=j/\OpenR Q ov oh) ?_ ?_
   ·(conv=>whnf);exact ⟨_,_,Turn.perm (List.Perm.swap _ _ _),_,0,[],.nilS,[],nb,rfl,rfl,rfl,by omega,begQ_zero _,by simp,.inl ⟨rfl,rfl,rfl⟩⟩
   rintro m r h' ⟨j,Q,ov,oh,k,rfl,rfl,rfl,hj,hbq,hQl,hoo⟩;(conv=>whnf);refine ⟨fun hz2=>?_,fun hz2=>?_⟩<;>simp at hz2
   ·obtain ⟨x,hx⟩:=get_lt (l:=es) (i:=j) hz2;have hxo:=hE x (List.mem_of_getElem? hx);have hxlo:=hxo.lo;have hxhi:=hxo.hi;have hxc:=hxo.cost;have hto:x.to=((x.to.toNat:Nat):Int):=(Int.toNat_of_nonneg (by omega)).symm;have hrg:=restT_get g x.to.toNat (by omega);have hrf:=rest_first hg (g.length - x.to.toNat) x.to.toNat (by omega);obtain ⟨l,hl1,hl2⟩:=clsG_get hg hes hx;have hl3:=hl2 0;(conv=>whnf);repeat ((first|refine ix (by assumption) ?_|(refine ixn x.to.toNat hto hrg ?_)|refine ⟨_,_,Rem.here _,⟨Nat.le_of_ble_eq_true rfl,rfl⟩,?_⟩|refine And.intro (by show drawOK (opsAt Tryz.f61 _) _=true;decide +kernel) ?_|intro (nb:Nat));conv=>whnf)
    cases hw:(wayAt g x.to.toNat)[0]? with
    | none=>
      rw [hw] at hrf hl3;rw [hrf];refine cF rfl ?_;(conv=>whnf);repeat (refine ⟨gP_of ⟨by omega,by omega⟩,?_⟩;conv=>whnf)
      exact ⟨_,_,Turn.refl _ _,_,(by omega),j+1,Q,ov,oh,k,rfl,rfl,rfl,by omega,begQ_skip hbq hl1 hl3,by omega,hoo⟩
    | some w=>
      rw [hw] at hrf hl3;have hwb:=wayAt_bound hg (i:=x.to.toNat) (by omega) w (List.mem_of_getElem? hw);have hrf:restV g x.to.toNat=w.cost:=hrf;rw [hrf];refine cT (by simp;omega) ?_;(conv=>whnf);repeat ((first|refine ⟨gP_of ⟨by omega,by omega⟩,?_⟩|refine And.intro (by show drawOK (opsAt Tryz.f61 _) _=true;decide +kernel) ?_);conv=>whnf)
      refine ACalls.mono ?_ (putCall (x:=⟨x.cost+w.cost,j,0⟩) hbq.1 (nk:=k) (fv:=.nilS) (due:=false) hoo (by omega) [(tb,tOb g (restT g) nv)] nh hp);clear hoo;rintro v h1 ⟨rfl,ov,oh,hoo,rfl⟩;(conv=>whnf);repeat (refine ⟨gP_of ⟨by omega,by omega⟩,?_⟩;conv=>whnf)
      exact ⟨_,_,Turn.refl _ _,_,(by omega),j+1,_,ov,oh,k,rfl,rfl,rfl,by omega,begQ_put hbq hl1 hl3,by rw [insW_length];omega,hoo⟩
   have hje:j=es.length:=(by omega);subst hje;have hnN:Nodes g i [k] ((k,.vec (ndC .nilS ov false))::oh):=zeroNode g i k Q ov oh (by rw [hca,clsG_len];exact hbq) (by omega) hoo;have hNj:=hN.join (by rw [hkl,Nat.zero_add];exact hnN);have hml:(ks.map encKey).length=ks.length:=List.length_map _;have hp1:∀ (o:Ob) (q:Nat × Ob),((tb,o)::(k,Ob.vec (ndC .nilS ov false))::q::(oh++hp)).Perm ((tb,o)::([q]++(hp++((k,.vec (ndC .nilS ov false))::oh)))):=by intro o q;refine List.Perm.cons _ ((List.Perm.swap _ _ _).trans (List.Perm.cons _ ?_));exact List.perm_append_comm (l₁:=(k,Ob.vec (ndC .nilS ov false))::oh) (l₂:=hp)
   rcases hno with ⟨hk0,rfl,rfl⟩|⟨q0,rfl,rfl⟩
   ·subst hk0;(conv=>whnf);repeat ((first|refine ⟨gP_of ⟨by omega,by omega⟩,?_⟩|(refine ⟨Nat.le_of_ble_eq_true rfl,fun q=>?_⟩)|refine ⟨_,_,.head _,rfl,?_⟩|refine ⟨_,_,.there (.here _),leOK,?_⟩);conv=>whnf)
    exact ⟨_,_,Turn.perm ((List.perm_middle (l₁:=[_,_])).symm.trans (hp1 _ (q,.tok))),_,(by omega),tb,i+1,[k],.sl 1 (some q) [[.optr k 0]],[(q,.tok)],_,rfl,rfl,rfl,by omega,by simp at hkl ⊢;omega,.inr ⟨q,rfl,rfl⟩,hNj⟩
   (conv=>whnf);repeat ((first|refine ⟨gP_of ⟨by omega,by omega⟩,?_⟩|(refine ⟨(by rw [List.length_append,hml];simp;unfold AMAX;omega),fun q=>⟨_,.there (.there (.here _)),?_⟩⟩)|refine ⟨_,_,.head _,rfl,?_⟩|refine ⟨_,_,.here _,leOK,?_⟩);conv=>whnf)
   exact ⟨_,_,Turn.perm (hp1 _ (q,.tok)),_,(by omega),tb,i+1,ks++[k],.sl 1 (some q) (ks.map encKey++[[.optr k 0]]),[(q,.tok)],_,rfl,rfl,rfl,by omega,by rw [List.length_append,hkl];rfl,.inr ⟨q,by rw [List.map_append];rfl,rfl⟩,hNj⟩
  have:i=g.length:=(by omega);subst this;(conv=>whnf);skip;exact ⟨tb,ks,nv,nh,hp,rfl,hkl,hno,hN,rfl⟩
 rintro v h1 ⟨tb,ks,nv,nh,hp,rfl,hkl,ho,hN,rfl⟩;refine ⟨.optr tb 0,(tb,tOb g (restT g) nv)::hp,?_,VLe.refl _,fun k o hm=>?_,fun hn=>?_⟩
 ·rcases ho with ⟨rfl,rfl,rfl⟩|⟨q,rfl,rfl⟩
  ·exact ⟨tb,[],none,.nilS,hp,rfl,hkl,.inl (List.eq_nil_of_length_eq_zero hkl.symm),hN,rfl⟩
  exact ⟨tb,ks,some q,_,hp,rfl,hkl,.inr rfl,hN,rfl⟩
 ·rcases List.mem_cons.1 hm with h|h
  ·rw [h];exact List.mem_cons_self
  exact List.mem_cons_of_mem _ (List.mem_append_right _ h)
 unfold keys at hn ⊢;simp only [List.map_cons,List.map_append,List.nodup_cons,List.mem_append,not_or,List.nodup_append] at hn ⊢;exact ⟨hn.1.2,hn.2.2.1⟩
end Go.Abs.Wall.Lst
