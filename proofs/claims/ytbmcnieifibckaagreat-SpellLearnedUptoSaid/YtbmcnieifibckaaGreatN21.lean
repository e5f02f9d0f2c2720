/- What is proved: small laws for the walks of this seat, and contracts of its functions. No condition but those each theorem names. -/
import Derived.Test.YtbmcnieifibckaaGreatN14
import Derived.Test.YtbmcnieifibckaaGreatN6
import Derived.Test.YtbmcnieifibckaaGreatN11
set_option maxRecDepth 100000
set_option maxHeartbeats 2000000
set_option linter.unusedVariables false
set_option linter.unusedSimpArgs false
namespace Go.Abs.Wall.Spl
open Go Go.Abs Go.Proofs Go.Abs.Wall
open Go.Abs.Wall.Lst hiding aq ic lH jx gE dn lI kH lJ lK lL lM lN eA lO ch lP
def aq (w:Wy):List AV:=[.int .i64 (w.cost / 16),.int .i64 (w.cost % 16),.int .i64 ((w.aO:Int) - 1),.int .i64 w.aM]
def ic (x y:Wy):Int:=ig [cB (x.cost / 16) (y.cost / 16),cB (x.cost % 16) (y.cost % 16),cB ((x.aO:Int) - 1) ((y.aO:Int) - 1)]
theorem lH {x y:Wy}:ic x y<0↔dm x y:=by
 unfold ic ig ig ig ig cB dm;repeat' split
 all_goals first|omega|(simp at *;omega)
def c165:az:=⟨[0,1,2,3,4],[],[],[],[(1,[0,1,2,3,4,5,6,7,8,9,10,11,12,13,14,15,16,17,18,19,20,21],[])],[]⟩
theorem jx (x y:Wy):ae Tryz.prog 165 [.agg (aq x),.agg (aq y)] [] (.int .i64 (ic x y)):=by
 refine aG (F:=Tryz.f165) c165 rfl rfl rfl mixed rfl fun X=>?_;(conv=>whnf);repeat ((first|refine ba (Cu _ _) ?_|refine ba (FN [cB (x.cost / 16) (y.cost / 16),cB (x.cost % 16) (y.cost % 16),cB ((x.aO:Int) - 1) ((y.aO:Int) - 1)] (by simp [aw])) ?_|refine And.intro (by show aP (aN Tryz.f165 _) _=true;decide +kernel) ?_);conv=>whnf)
 exact ⟨rfl,rfl⟩
def gE (x:Wy) (Q:List Wy):Bool:=match Q[cY x Q]? with
 | none=>false
 | some y=>decide (ic y x=0)
theorem dn (w:Wy):(aq w).length=4:=rfl
theorem lI {x:Wy} {Q:List Wy} (hs:Q.Pairwise dm) {j:Nat} {y:Wy} (hy:Q[j]?=some y):ic y x<0↔j<cY x Q:=by
 rw [lH];constructor
 ·intro h;by_cases hj:j<cY x Q
  ·exact hj
  exact absurd h (FK hs (by omega) hy)
 intro h;exact FJ h hy
def c227:az:=⟨[0,1,2,4,6,7,8,9,10,11,17,31],[],[],[],[(5,[0,1,2,3,4,5,6,7],[]),(8,[0,1,2,3,4,5,6,7,8,9,10,11,12,13,14,15],[])],[]⟩
theorem kH (w:Wy):ae Tryz.prog 227 [.sl 4 none [],.agg (aq w),.fn 165 []] [] (.aH [.int .i64 (cY w []),.bool (gE w [])]):=by
 refine aG (F:=Tryz.f227) c227 rfl rfl rfl mixed rfl fun X=>?_;(conv=>whnf);refine yx 60 rfl mixed ?_;(conv=>whnf);refine .inr ?_;(conv=>whnf);refine cF rfl ?_;(conv=>whnf);repeat ((first|(refine ⟨0,[.int .i64 0,.int .i64 0,.int .i64 0,.int .i64 0],?_,?_⟩;(focus (conv=>whnf;skip));(focus (intro hq;exact absurd hq (by decide))))|(refine ⟨.int .i64 0,?_,?_⟩;(focus (conv=>whnf;skip));(focus (intro hq;exact absurd hq (by decide))))|refine And.intro (by show aP (aN Tryz.f227 _) _=true;decide +kernel) ?_);conv=>whnf)
 exact ⟨rfl,rfl⟩
theorem lJ (x:Wy) (Q:List Wy) (hs:Q.Pairwise dm) (b:Nat) (pre:List AV) (hl:Q.length<=4294967296) :
  ae Tryz.prog 227 [.aQ b pre.length Q.length 4,.agg (aq x),.fn 165 []] [(b,.vec (pre++(Q.map aq).flatten))] (.aH [.int .i64 (cY x Q),.bool (gE x Q)]):=by
 have VS:=Aw x Q;by_cases aJ:0<Q.length
 rotate_left
 ·have hq:Q=[]:=List.eq_nil_of_length_eq_zero (by omega);subst hq;exact ae.args (ae.wide (kH x) _) (.cons ag.Ox (.cons (ag.refl _) (.cons (ag.refl _) .nil)))
 refine aG (F:=Tryz.f227) c227 rfl rfl rfl mixed rfl fun X=>?_;(conv=>whnf);skip;refine bR rfl mixed [0,2,4,8,9,10] [] (fun m r h=>∃ (i j:Nat),r=[(0,[],.aQ b pre.length Q.length 4),(2,[],.fn 165 []),(4,[],.au (aq x)),(8,[],.int .i64 Q.length),(9,[],.int .i64 i),(10,[],.int .i64 j)]/\h=[(b,.vec (pre++(Q.map aq).flatten))]/\m=j - i/\i<=cY x Q/\cY x Q<=j/\j<=Q.length) ?_ ?_
 ·(conv=>whnf);exact ⟨_,0,Q.length,rfl,rfl,rfl,by omega,by omega,by omega⟩
 rintro m r h ⟨i,j,rfl,rfl,rfl,hi,hj,gl⟩;(conv=>whnf);refine ⟨fun hz=>?_,fun hz=>?_⟩<;>simp at hz
 ·have Jb:((i:Int)+(j:Int)) / 2=(((i+j) / 2:Nat):Int):=(by omega);obtain ⟨y,hy⟩:=aL (l:=Q) (i:=(i+j) / 2) (by omega);have fK:=lI (x:=x) hs hy;have hw:IntKind.u64.wrap ((i:Int)+(j:Int))=(i:Int)+(j:Int):=by simp [IntKind.wrap,IntKind.signed,IntKind.bits];omega
  (conv=>whnf);repeat (refine ⟨ah ⟨by omega,by omega⟩,?_⟩;conv=>whnf)
  rw [hw];refine ⟨ah ⟨⟨rfl,rfl⟩,by omega,by omega⟩,?_⟩;rw [Jb];(conv=>whnf);repeat ((first|refine ⟨ah ⟨by omega,by omega⟩,?_⟩|(refine ⟨(i+j) / 2,ah ⟨rfl,by omega⟩,?_⟩)|(refine oM dn (.head _) rfl hy ?_)|refine ba (jx y x) ?_|refine And.intro (by show aP (aN Tryz.f227 _) _=true;decide +kernel) ?_);conv=>whnf)
  refine ⟨fun hc=>?_,fun hc=>?_⟩<;>simp at hc
  ·(conv=>whnf);repeat (refine ⟨ah ⟨by omega,by omega⟩,?_⟩;conv=>whnf)
   exact ⟨_,by omega,(i+j) / 2+1,j,rfl,rfl,rfl,by have:=fK.1 hc;omega,hj,gl⟩
  (conv=>whnf);skip;exact ⟨_,by omega,i,(i+j) / 2,rfl,rfl,rfl,hi,by have:=mt fK.2 (by omega);omega,by omega⟩
 have bC:i=cY x Q:=(by omega);subst bC;by_cases aI:cY x Q<Q.length
 ·obtain ⟨y,hy⟩:=aL (l:=Q) (i:=cY x Q) aI;(conv=>whnf);repeat ((first|(refine ⟨cY x Q,ah ⟨rfl,by omega⟩,?_⟩)|(refine oM dn (.head _) rfl hy ?_)|refine ba (jx y x) ?_|refine And.intro (by show aP (aN Tryz.f227 _) _=true;decide +kernel) ?_);conv=>whnf)
  refine ⟨?_,rfl⟩;unfold gE;rw [hy];simp [aI]
 have hn:Q[cY x Q]?=none:=List.getElem?_eq_none (by omega);obtain ⟨y,hy⟩:=aL (l:=Q) (i:=0) aJ;have Jc:decide (((cY x Q:Nat):Int)<(Q.length:Int))=false:=by simp;omega
 (conv=>whnf);repeat (refine And.intro (by show aP (aN Tryz.f227 _) _=true;decide +kernel) ?_;conv=>whnf)
 rw [Jc];repeat ((first|(refine ⟨0,(fun hq=>by cases hq),?_⟩)|(refine oM (i:=0) dn (.head _) rfl hy ?_)|refine ba (jx y x) ?_);conv=>whnf)
 refine ⟨?_,rfl⟩;unfold gE;rw [hn];rfl
def c228:az:=⟨[0,1,2,6,7,8,9,16,22,31,68],[],[],[],[(11,[0,1,2,3,4,5,6,7,8],[]),(15,[0,1,2,3,4,5,6,7,8],[])],[]⟩
theorem lK (x:Wy) (vb:Nat):aB Tryz.prog 228 [.aT,.int .i64 0,.aQ vb 0 1 4] [(vb,.vec (aq x))] (fun v h'=>∃ q,v=.aQ q 0 1 4/\h'=[(q,.vec (aq x)),(vb,.vec (aq x))]):=by
 refine aG (F:=Tryz.f228) c228 rfl rfl rfl mixed rfl fun X=>?_;(conv=>whnf);repeat (refine ⟨ah ⟨by omega,by omega⟩,?_⟩;conv=>whnf)
 refine cF rfl ?_;(conv=>whnf);skip;refine cT rfl ?_;(conv=>whnf);repeat ((refine ⟨_,[aq x],.head _,⟨rfl,by simp [aq],rfl⟩,⟨Nat.le_of_ble_eq_true rfl,Nat.le_of_ble_eq_true rfl⟩,fun q=>?_⟩);conv=>whnf)
 exact ⟨q,rfl,rfl⟩
theorem lL:Extern.find Tryz.f258=some (Extern.SlicesOverlaps.overlaps #[196,196] #[4]):=by kernel_rfl
def lM (x:Wy) (Q:List Wy) (i vb:Nat) (v:AV) (h':af):Prop:=∃ b' fy,ag v (.aQ b' fy.length (Q.length+1) 4)/\∃ h2,h'.Perm ((b',.vec (fy++((Q.take i++x::Q.drop i).map aq).flatten))::h2)
theorem lN (x:Wy) (Q:List Wy) (i:Nat) (hi:i<=Q.length) (b vb off c:Nat) (pre cs:List AV) (bV:cs=pre++(Q.map aq).flatten) (ho:0<c->off=pre.length) (hc:Q.length<=c) (hl:Q.length<=65536) (aJ:vb≠b) :
  aB Tryz.prog 228 [.eM b off Q.length c 4,.int .i64 i,.aQ vb 0 1 4] [(b,.vec cs),(vb,.vec (aq x))] (lM x Q i vb):=by
 have bz:cs.length=pre.length+Q.length*4:=(by rw [bV,List.length_append,nM dn]);refine aG (F:=Tryz.f228) c228 rfl rfl rfl mixed rfl fun X=>?_;(conv=>whnf);repeat (refine ⟨ah ⟨by omega,by omega⟩,?_⟩;conv=>whnf)
 refine cF rfl ?_;(conv=>whnf);skip;refine ⟨fun he=>?_,fun he=>?_⟩<;>simp at he
 ·have he:i=Q.length:=(by omega);subst he;have dP:((Q.take Q.length++x::Q.drop Q.length).map aq).flatten=(Q.map aq).flatten++[aq x].flatten:=by rw [List.take_length,List.drop_length,List.map_append,List.flatten_append];rfl
  by_cases jT:Q.length+1<=c
  ·have:=ho (by omega);subst this;(conv=>whnf);repeat ((refine ⟨_,[aq x],.tail _ (.head _),⟨rfl,by simp [aq],rfl⟩,by unfold aU;omega,cs,.head _,.inl ⟨jT,bz,_,.here _,?_⟩⟩);conv=>whnf)
   refine ⟨b,pre,ag.eM,[(vb,.vec (aq x))],?_⟩;rw [bV,dP,<- List.append_assoc]
  have Cw:Q.length=0\/off+Q.length*4<=cs.length:=by
   by_cases h0:Q.length=0
   ·exact .inl h0
   have:=ho (by omega);exact .inr (by omega)
  have cj:(cs.drop off).take (Q.length*4)=(Q.map aq).flatten:=by
   by_cases h0:Q.length=0
   ·have:Q=[]:=List.eq_nil_of_length_eq_zero h0;subst this;simp
   have:=ho (by omega);rw [bV,this,List.drop_left,List.take_of_length_le (by rw [nM dn];exact Nat.le_refl _)]
  (conv=>whnf);repeat ((refine ⟨_,[aq x],.tail _ (.head _),⟨rfl,by simp [aq],rfl⟩,by unfold aU;omega,cs,.head _,.inr ⟨by omega,Cw,fun q=>?_⟩⟩);conv=>whnf)
  refine ⟨q,[],ag.refl _,[(b,.vec cs),(vb,.vec (aq x))],?_⟩;rw [cj,dP];exact .refl _
 have cu:i<Q.length:=(by omega);have sC:=ho (by omega);subst sC;have z1:(i:Int).toNat - Int.toNat 0=i:=(by simp);have z2:c - Int.toNat 0=c:=(by simp);have z3:pf pre.length (Int.toNat 0) c 4=pre.length:=by unfold pf;split<;>simp
 have z4:(Q.length:Int)+((1:Nat):Int) - (i:Int)=((Q.length+1 - i:Nat):Int):=(by omega);have z5:pf pre.length (i:Int).toNat c 4=pre.length+i*4:=by unfold pf;rw [if_neg (by simp;omega)];simp
 have Je:cs.drop pre.length=(Q.map aq).flatten:=(by rw [bV,List.drop_left]);have Cy:cs.drop (pre.length+i*4)=((Q.drop i).map aq).flatten:=(by rw [bV,List.drop_append,List.drop_eq_nil_of_le (by omega),List.nil_append,Nat.add_sub_cancel_left,yp dn]);(conv=>whnf);repeat (refine ⟨ah ⟨by omega,by omega⟩,?_⟩;conv=>whnf)
 refine ⟨fun hz=>?_,fun hz=>?_⟩<;>simp at hz
 ·(conv=>whnf);repeat (refine ⟨ah ⟨by omega,by omega⟩,?_⟩;conv=>whnf)
  rw [z1,z2,z3,z4];refine ⟨cs,.head _,⟨by omega,by omega,by omega,by omega⟩,fun q=>?_⟩;rw [Je,FO dn,Int.toNat_natCast,show i+(Q.length+1 - i)=Q.length+1 by omega];(conv=>whnf);repeat (refine ⟨ah ⟨by omega,by omega⟩,?_⟩;conv=>whnf)
  have m1:min 1 (((Q.length+1:Nat):Int).toNat - (i:Int).toNat)=1:=by rw [Int.toNat_natCast,Int.toNat_natCast];omega
  have m2:0+(i:Int).toNat*4=i*4:=(by simp);have fH:((Q.take i).map aq).flatten.length=i*4:=by rw [nM dn,List.length_take];omega
  have qB:((Q.drop i).map aq).flatten.length=(Q.length - i)*4:=(by rw [nM dn,List.length_drop]);have vk:(gM (Q.length+1 - i) [AV.int .i64 0,AV.int .i64 0,AV.int .i64 0,AV.int .i64 0]).length=(Q.length+1 - i)*4:=by unfold gM;simp
  rw [m1,m2];refine ⟨_,[aq x],.tail _ (.tail _ (.head _)),⟨rfl,by simp [aq],rfl⟩,_,_,.here _,⟨by omega,?_⟩,?_⟩
  ·rw [List.length_append,fH,vk];show i*4+4<=_;omega
  (conv=>whnf);repeat ((first|refine ⟨ah ⟨by omega,by omega⟩,?_⟩|refine And.intro (by show aP (aN Tryz.f228 _) _=true;decide +kernel) ?_);conv=>whnf)
  have m3:min ((Q.length:Int).toNat - (i:Int).toNat) (((Q.length+1:Nat):Int).toNat - ((i:Int)+((1:Nat):Int)).toNat)=Q.length - i:=by rw [show (i:Int)+((1:Nat):Int)=((i+1:Nat):Int) by omega];simp only [Int.toNat_natCast];omega
  have m4:0+((i:Int)+((1:Nat):Int)).toNat*4=(i+1)*4:=(by rw [show (i:Int)+((1:Nat):Int)=((i+1:Nat):Int) by omega,Int.toNat_natCast,Nat.zero_add]);rw [m3,m4,z5];have Jf:=OC (A:=((Q.take i).map aq).flatten) (B:=gM (Q.length+1 - i) [AV.int .i64 0,AV.int .i64 0,AV.int .i64 0,AV.int .i64 0]) (X:=aq x) (D:=((Q.drop i).map aq).flatten) (n:=i*4) (m:=(i+1)*4) fH.symm (by rw [fH];show _=i*4+4;omega) (by rw [vk,qB];show _=4+_;omega);refine ⟨cs,(Q.drop i).map aq,.tail _ (.head _),⟨?_,?_,by simp⟩,_,_,.here _,⟨by omega,?_⟩,?_⟩
  ·rw [Cy,List.take_of_length_le (by rw [qB];exact Nat.le_refl _)]
  ·intro z hz;obtain ⟨w,_,rfl⟩:=List.mem_map.1 hz;rfl
  ·have h1:(dt (((Q.take i).map aq).flatten++gM (Q.length+1 - i) [AV.int .i64 0,AV.int .i64 0,AV.int .i64 0,AV.int .i64 0]) (i*4) [aq x].flatten).length=(Q.length+1)*4:=by
    rw [Jg _ _ _ (by rw [List.length_append,fH,vk];show i*4+4<=_;omega),List.length_append,fH,vk];omega
   rw [h1,qB];omega
  (conv=>whnf);skip;refine ⟨q,[],ag.refl _,[(b,.vec cs),(vb,.vec (aq x))],?_⟩;rw [show [aq x].flatten=aq x from by simp,Jf,List.map_append,List.flatten_append];exact .refl _
 (conv=>whnf);repeat (refine ⟨ah ⟨by omega,by omega⟩,?_⟩;conv=>whnf)
 rw [z2,z3];have z7:pf pre.length ((i:Int)+((1:Nat):Int)).toNat c 4=pre.length+(i+1)*4:=by rw [show (i:Int)+((1:Nat):Int)=((i+1:Nat):Int) by omega,Int.toNat_natCast];unfold pf;rw [if_neg (by omega)]
 have z9:((Q.length:Int)+((1:Nat):Int)).toNat - Int.toNat 0=Q.length+1:=by rw [show (Q.length:Int)+((1:Nat):Int)=((Q.length+1:Nat):Int) by omega];simp
 have z8:(((Q.length+1:Nat):Int)).toNat - ((i:Int)+((1:Nat):Int)).toNat=Q.length - i:=by rw [show (i:Int)+((1:Nat):Int)=((i+1:Nat):Int) by omega,Int.toNat_natCast,Int.toNat_natCast];omega
 rw [z7,z9,z8];refine Oy (fn:=Tryz.f258) rfl rfl rfl (by kernel_rfl) lL rfl (by decide) (.tail _ (.head _)) (.head _) aJ (by omega) (by omega) ?_;(conv=>whnf);skip;refine cT rfl ?_;(conv=>whnf);repeat ((first|refine ⟨ah ⟨by omega,by omega⟩,?_⟩|refine And.intro (by show aP (aN Tryz.f228 _) _=true;decide +kernel) ?_);conv=>whnf)
 have fH:((Q.take i).map aq).flatten.length=i*4:=by rw [nM dn,List.length_take];omega
 have qB:((Q.drop i).map aq).flatten.length=(Q.length - i)*4:=(by rw [nM dn,List.length_drop]);have m3:min (((Q.length+1:Nat):Int).toNat - (i:Int).toNat) (((Q.length+1:Nat):Int).toNat - ((i:Int)+((1:Nat):Int)).toNat)=Q.length - i:=by rw [show (i:Int)+((1:Nat):Int)=((i+1:Nat):Int) by omega];simp only [Int.toNat_natCast];omega
 have Jh:cs=(pre++((Q.take i).map aq).flatten)++((Q.drop i).map aq).flatten:=(by rw [bV,List.append_assoc,<- List.flatten_append,<- List.map_append,List.take_append_drop]);have jy:(pre++((Q.take i).map aq).flatten).length=pre.length+i*4:=(by rw [List.length_append,fH]);have yC:=OD (A:=pre++((Q.take i).map aq).flatten) (X:=aq x) (D:=((Q.drop i).map aq).flatten) (n:=pre.length+i*4) (m:=pre.length+(i+1)*4) jy.symm (by rw [jy];show _=_+4;omega) (by rw [qB];show 4<=_;omega);rw [<- Jh] at yC;rw [m3,z5,z7];refine ⟨cs,(Q.drop i).map aq,.head _,⟨?_,?_,by simp⟩,_,_,.here _,⟨by omega,by omega⟩,?_⟩
 ·rw [Cy,List.take_of_length_le (by rw [qB];exact Nat.le_refl _)]
 ·intro z hz;obtain ⟨w,_,rfl⟩:=List.mem_map.1 hz;rfl
 (conv=>whnf);repeat (refine ⟨ah ⟨by omega,by omega⟩,?_⟩;conv=>whnf)
 have m1:min 1 (((Q.length+1:Nat):Int).toNat - (i:Int).toNat)=1:=by rw [Int.toNat_natCast,Int.toNat_natCast];omega
 rw [m1,z5];refine ⟨_,[aq x],.tail _ (.head _),⟨rfl,by simp [aq],rfl⟩,_,_,.here _,⟨by omega,?_⟩,?_⟩
 ·unfold dt;simp only [List.length_append,List.length_take,List.length_drop];omega
 (conv=>whnf);skip;refine ⟨b,pre,ag.eM,[(vb,.vec (aq x))],?_⟩;rw [show [aq x].flatten=aq x from by simp,yC,show pre++((Q.take i++x::Q.drop i).map aq).flatten=(pre++((Q.take i).map aq).flatten)++(aq x++((Q.drop i).map aq).flatten) from by simp [List.append_assoc]]
def eA (Q:List Wy) (ov:AV) (oh:af):Prop:=(Q=[]/\ov=.aT/\oh=[])\/∃ b pre,ov=.aQ b pre.length Q.length 4/\oh=[(b,.vec (pre++(Q.map aq).flatten))]
theorem lO (x:Wy) (Q:List Wy) (b vb:Nat) (pre:List AV) (hl:Q.length<=65536) :
  aB Tryz.prog 228 [.aQ b pre.length Q.length 4,.int .i64 (cY x Q),.aQ vb 0 1 4] [(b,.vec (pre++(Q.map aq).flatten)),(vb,.vec (aq x))]
   (fun v h'=>∃ b' fy,v=.aQ b' fy.length (Q.length+1) 4/\h'=[(b',.vec (fy++((iK x Q).map aq).flatten))]):=by
 by_cases aJ:vb=b
 ·subst aJ;refine ⟨fun X g w us hc hr=>?_⟩;have:=hc.nodup;simp [keys] at this
 refine aB.post (aB.OB fun Ax c ho hc=>lN x Q (cY x Q) (Aw x Q) b vb Ax c pre _ rfl ho hc hl aJ) ?_;rintro v h1 ⟨b',fy,hv,h2,hp⟩;refine ⟨_,_,⟨b',fy,rfl,rfl⟩,hv,fun k o hm=>hp.mem_iff.2 (by cases List.mem_singleton.1 hm;exact List.mem_cons_self),fun _=>by simp [keys]⟩
def ch (mv fv ov:AV) (due:Bool):List AV:=[mv,fv,ov,.fn 165 [],.bool due]
def c164:az:=⟨[0,1,3,4],[26],[],[],[(1,[0,1,2,3,4,5,6,7,8,9,10,11,12,13,14],[]),(2,[0,1,2,3,4,5,6,7,8,9,10,11],[])],[26,27]⟩
theorem lP (x:Wy) (Q:List Wy) (hs:Q.Pairwise dm) (nk:Nat) (mv fv:AV) (due:Bool) (ov:AV) (oh:af) (ho:eA Q ov oh) (hl:Q.length<=65536) :
  aB Tryz.prog 164 [.bj nk 2,.agg (aq x)] ((nk,.vec (ch mv fv ov due))::oh)
   (fun v h'=>v=.aH []/\∃ iM iN,eA (iK x Q) iM iN/\h'=(nk,.vec (ch mv fv iM due))::iN):=by
 have jv:=wM x Q;refine aB.post (R:=fun v h'=>v=.aH []/\∃ iM iN g,eA (iK x Q) iM iN/\h'.Perm ((nk,.vec (ch mv fv iM due))::(iN++g))) ?_ ?_
 ·rcases ho with ⟨rfl,rfl,rfl⟩|⟨b,pre,rfl,rfl⟩
  ·have mT:ae Tryz.prog 227 [.aT,.agg (aq x),.fn 165 []] [] (.aH [.int .i64 (cY x []),.bool (gE x [])]):=
    ae.args (kH x) (.cons (ag.nil (by decide)) (cW.refl _))
   refine aG (F:=Tryz.f164) c164 rfl rfl rfl mixed rfl fun X=>?_;(conv=>whnf);repeat ((first|refine ba (mT) ?_|refine ⟨_,_,.head _,rfl,?_⟩|refine And.intro (by show aP (aN Tryz.f164 _) _=true;decide +kernel) ?_|intro (nb:Nat));conv=>whnf)
   refine aB.mono ?_ (aB.frame (lK x nb) _);rintro v h1 ⟨h2,⟨q,rfl,rfl⟩,rfl⟩;(conv=>whnf);repeat ((refine ⟨_,_,.there (.there (.here _)),aR,?_⟩);conv=>whnf)
   exact ⟨rfl,.aQ q 0 1 4,[(q,.vec (aq x))],[(nb,.vec (aq x))],.inr ⟨q,[],rfl,rfl⟩,List.perm_append_comm (l₁:=[(q,_),(nb,_)]) (l₂:=[(nk,_)])⟩
  have mT:ae Tryz.prog 227 [.aQ b pre.length Q.length 4,.agg (aq x),.fn 165 []] [(nk,.vec (ch mv fv (.aQ b pre.length Q.length 4) due)),(b,.vec (pre++(Q.map aq).flatten))] (.aH [.int .i64 (cY x Q),.bool (gE x Q)]):=
   ae.perm (h2:=[(nk,.vec (ch mv fv (.aQ b pre.length Q.length 4) due))]) (lJ x Q hs b pre (by omega)) (List.perm_append_comm (l₁:=[_]) (l₂:=[_]))
  refine aG (F:=Tryz.f164) c164 rfl rfl rfl mixed rfl fun X=>?_;(conv=>whnf);repeat ((first|(refine FP mT ?_)|refine ⟨_,_,.head _,rfl,?_⟩|refine And.intro (by show aP (aN Tryz.f164 _) _=true;decide +kernel) ?_|intro (nb:Nat));conv=>whnf)
  refine aB.mono (R:=fun v h1=>∃ b' fy g,v=.aQ b' fy.length (Q.length+1) 4/\h1=(b',.vec (fy++((iK x Q).map aq).flatten))::(nk,.vec (ch mv fv (.aQ b pre.length Q.length 4) due))::g) ?_ (aB.re (lO x Q b nb pre hl) (h2:=[(nk,.vec (ch mv fv (.aQ b pre.length Q.length 4) due))]) ?_ ?_)
  ·rintro v h1 ⟨b',fy,g,rfl,rfl⟩;(conv=>whnf);repeat ((refine ⟨_,_,.there (.here _),aR,?_⟩);conv=>whnf)
   exact ⟨rfl,.aQ b' fy.length (Q.length+1) 4,[(b',.vec (fy++((iK x Q).map aq).flatten))],g,.inr ⟨b',fy,by rw [jv],rfl⟩,List.Perm.swap _ _ _⟩
  ·exact (List.Perm.swap _ _ _).trans (List.Perm.cons _ (List.Perm.swap _ _ _))
  rintro v h1 ⟨b',fy,rfl,rfl⟩;exact ⟨_,.refl _,b',fy,[],rfl,rfl⟩
 rintro v h1 ⟨rfl,iM,iN,g,bH,hp⟩;refine ⟨_,_,⟨rfl,iM,iN,bH,rfl⟩,ag.refl _,fun k o hm=>hp.mem_iff.2 ?_,fun hn=>?_⟩
 ·rcases List.mem_cons.1 hm with h|h
  ·rw [h];exact List.mem_cons_self
  exact List.mem_cons_of_mem _ (List.mem_append_left _ h)
 have h1:=((hp.map (fun p:Nat × Ob=>p.1)).nodup_iff).1 hn;unfold keys;simp only [List.map_cons,List.map_append,List.nodup_cons,List.mem_append,not_or,List.nodup_append] at h1 ⊢;exact ⟨h1.1.1,h1.2.1⟩
end Go.Abs.Wall.Spl
namespace Go.Abs.Wall.Spl
open Go Go.Abs Go.Proofs Go.Abs.Wall
structure bl where
 aA:List Int
 dy:Int
 cls:Int
deriving DecidableEq
structure bJ where
 n:Int
 at_:Int
 cls:Bool
 hv:Int
deriving DecidableEq
structure Mv where
 sign:Int
 cost:Int
 use:ay
 to:bJ
structure Env where
 H:aj
 B:bl
 ee:kW
 snd:List UInt8
 ef:List Int
 kK:Int
 mA:Int
 ai:List (List ay)
def fN (b:bl):List AV:=[.sl 1 none (ints b.aA),.int .i64 b.dy,.int .i64 b.cls]
def kL (x:bJ):List AV:=[.int .i64 x.n,.int .i64 x.at_,.bool x.cls,.int .i64 x.hv]
def vJ (m:Mv):List AV:=[.int .i64 m.sign,.int .i64 m.cost]++(aV m.use++kL m.to)
def lj (E:Env) (nv cv:AV):List AV:=bu E.H++(fN E.B++(fJ E.ee++[.str E.snd,.sl 1 none (ints E.ef),.int .i64 E.kK,.int .i64 E.mA,.sl 1 none (AQ E.ai),nv,cv]))
def jZ (u:ay):Bool:=decide (u.kind=2)||(decide (u.kind=1)&&decide (2<=(u.text.length:Int)))
def dT (u:ay):Int:=if jZ u=true then u.text.length else 0
def jo:List Int->Int->Int
 | [],a=>a
 | n::t,a=>if a<n then n else jo t a
def uC (s t:List UInt8) (a e:Int):Bool:=decide (a+t.length<=e)&&gu (s.drop a.toNat) t
def aX (E:Env) (x:bJ) (u:ay):bJ × Bool:=
 if ((decide (E.B.dy=2)&&decide (0<x.hv))&&!decide (u.kind=3))=true then (x,false)
 else if u.kind=1 then (⟨x.n+1,x.at_+u.text.length,x.cls,dT u⟩,uC E.snd u.text x.at_ (jo E.ef x.at_))
 else if u.kind=2 then (⟨x.n+1,u.text.length,x.cls,dT u⟩,decide (x.n=0)&&decide (u.text=E.ee.root))
 else if u.kind=3 then (⟨x.n+1,x.at_,x.cls,dT u⟩,(!decide (E.B.dy=0)&&decide ((u.text.length:Int)<=x.hv))&&rQ (E.snd.take x.at_.toNat) u.text)
 else if u.kind=4 then (⟨x.n+1,x.at_,true,dT u⟩,(((!decide (E.B.cls=0))&&!x.cls)&&decide (u.text=E.ee.cls))&&decide (x.at_=E.ef.headD 0))
 else (x,false)
def nd (E:Env) (u:ay):Int:=if u.kind=1 then E.H.ct.spell else if u.kind=2 then E.H.ct.Gw else if u.kind=3 then E.H.ct.dy else E.H.ct.cls
def gv (E:Env) (x:bJ):Int × Bool:=
 if (decide (x.n=0)||(decide (x.at_<E.snd.length)||(decide (E.B.dy=2)&&decide (0<x.hv))))=true then (0,false)
 else if (x.cls||decide (E.ee.cls=[]))=true then (E.kK,true)
 else (E.kK+E.mA,!decide (E.B.cls=2))
def zc (E:Env) (x:bJ) (s:Nat) (u:ay):List Mv:=if ((aX E x u).2&&decide (0<=E.B.aA.getD s 0))=true then [⟨s,nd E u+E.B.aA.getD s 0,u,(aX E x u).1⟩] else []
def uD (E:Env) (x:bJ) (s:Nat):List ay->List Mv
 | []=>[]
 | u::t=>zc E x s u++uD E x s t
def rR (E:Env) (x:bJ):Nat->List (List ay)->List Mv
 | _,[]=>[]
 | s,us::t=>uD E x s us++rR E x (s+1) t
def fB (E:Env) (x:bJ):List Mv:=if x.n=12 then [] else rR E x 0 E.ai
structure jE (E:Env):Prop where
 qI:E.B.aA.length=E.ai.length
 rows:E.ai.length<=200
 row:∀ us∈E.ai,us.length<=200
 text:∀ us∈E.ai,∀ u∈us,u.text.length<=8
 vD:∀ n∈E.B.aA,-1<=n/\n<=1000
 snd:E.snd.length<=1000
 root:E.ee.root.length<=E.snd.length
 ef:E.ef≠[]/\E.ef.length<=1000/\∀ n∈E.ef,0<=n/\n<=E.snd.length
 kK:0<=E.kK/\E.kK<=100000
 mA:0<=E.mA/\E.mA<=1000
 cost:∀ c∈iV E.H.ct,0<=c/\c<=1000
structure jF (E:Env) (x:bJ):Prop where
 n:0<=x.n/\x.n<=12
 at_:0<=x.at_/\x.at_<=E.snd.length
 hv:0<=x.hv/\x.hv<=8
def c142:az:=⟨[0,1,2],[],[],[],[],[]⟩
def c230:az:=⟨[0,1,4,6,10,11,12,13,18],[],[],[],[],[]⟩
def c229:az:=⟨[0,1,2,3,8],[],[],[],[],[]⟩
def c174:az:=⟨[0,1,3,4,6,7,15,23],[],[],[],[],[]⟩
def c117:az:=⟨[0,1,3,4,5,6,29],[],[],[],[(2,[0,1,2,3,4,5,6,7,8],[]),(7,[0,1,2,3,4,5,6,7,8,9,10,11,12,13,14,15,16],[])],[]⟩
def c173:az:=⟨[0,1,2,4,5,6,7,8,24,35,41,42,65,85,114],[],[],[],[(9,[0,1,2,3,4,5,6,7,8,9,10,11,12,13,14,15],[]),(12,[0,1,2,3,4,5,6,7,8,9,10,11,12,13,14,15],[]),(14,[0,1,2,3,4,5,6,7,8,9,10,11,12,13,14,15,16,17,18,19,20,21,22,23,24,25,26,27,28],[]),(17,[0,1,2,3,4,5,6,7,8,9,10,11,12,13,14,15,16,17,18,19,20,21,22,23,24,25,26,27,28,29,30,31,32,33,34],[])],[]⟩
def c118:az:=⟨[0,1,3,4,5,6,8,9,10,13,17,18,19,20,24,25,26,27,48],[],[8,9],[],[(11,[0,1,2,3,4,5,6,7,8,9,10,11,12,13,14,15,16,17,18,19],[])],[]⟩
theorem PX (u:ay):ae Tryz.prog 142 [.agg (aV u)] [] (.bool (jZ u)):=by refine aG (F:=Tryz.f142) c142 rfl rfl rfl mixed rfl fun X=>?_;(conv=>whnf);skip;exact ⟨rfl,rfl⟩
theorem XB (E:Env) (nv cv:AV) (a:Int) (hE:jE E):ae Tryz.prog 230 [.au (lj E nv cv),.int .i64 a] [] (.int .i64 (jo E.ef a)):=by
 have hb:=hE.ef.2.1;refine aG (F:=Tryz.f230) c230 rfl rfl rfl mixed rfl fun X=>?_;(conv=>whnf);skip;refine bR rfl mixed [1,10,11,12] [] (fun m r h=>∃ (i:Nat),r=[(1,[],.int .i64 a),(10,[],.sl 1 none (ints E.ef)),(11,[],.int .i64 (ints E.ef).length),(12,[],.int .i64 i)]/\h=[]/\m=E.ef.length - i/\i<=E.ef.length/\jo E.ef a=jo (E.ef.drop i) a) ?_ ?_
 ·(conv=>whnf);exact ⟨_,0,rfl,rfl,rfl,by omega,rfl⟩
 rintro m r h ⟨i,rfl,rfl,rfl,hi,hg⟩;(conv=>whnf);refine ⟨fun hc=>?_,fun hc=>?_⟩<;>rw [cg] at hc<;>simp at hc
 ·obtain ⟨n,hn⟩:=aL hc;rw [drop_cons hn,jo] at hg;(conv=>whnf);repeat (refine ix (by assumption) ?_;conv=>whnf)
  refine ⟨fun hq=>?_,fun hq=>?_⟩<;>simp at hq
  ·rw [if_pos hq] at hg;(conv=>whnf);skip;exact ⟨congrArg _ hg.symm,rfl⟩
  rw [if_neg (by omega)] at hg;(conv=>whnf);repeat (refine ⟨ah ⟨by omega,by omega⟩,?_⟩;conv=>whnf)
  exact ⟨_,by omega,i+1,rfl,rfl,rfl,by omega,hg⟩
 rw [drop_nil hc,jo] at hg;(conv=>whnf);skip;exact ⟨congrArg _ hg.symm,rfl⟩
theorem XC (E:Env) (nv cv:AV) (u:ay):ae Tryz.prog 174 [.au (lj E nv cv),.agg (aV u)] [] (.int .i64 (nd E u)):=by
 refine aG (F:=Tryz.f174) c174 rfl rfl rfl mixed rfl fun X=>?_;(conv=>whnf);skip;refine ⟨fun h1=>?_,fun h1=>?_⟩<;>simp at h1
 ·rw [nd,if_pos h1];(conv=>whnf);skip;exact ⟨rfl,rfl⟩
 (conv=>whnf);skip;refine ⟨fun h2=>?_,fun h2=>?_⟩<;>simp at h2
 ·rw [nd,if_neg h1,if_pos h2];(conv=>whnf);skip;exact ⟨rfl,rfl⟩
 (conv=>whnf);skip;refine ⟨fun h3=>?_,fun h3=>?_⟩<;>simp at h3
 ·rw [nd,if_neg h1,if_neg h2,if_pos h3];(conv=>whnf);skip;exact ⟨rfl,rfl⟩
 rw [nd,if_neg h1,if_neg h2,if_neg h3];(conv=>whnf);skip;exact ⟨rfl,rfl⟩
theorem XD (s t:List UInt8) (a e:Int) (hs:s.length<=1000) (ht:t.length<=8) (ha:0<=a/\a<=1000) (he:e<=s.length):ae Tryz.prog 229 [.str s,.str t,.int .i64 a,.int .i64 e] [] (.bool (uC s t a e)):=by
 have hp:=hasPrefix (s.drop a.toNat) t (by unfold aw;rw [List.length_drop];omega) (by unfold aw;omega);have eu:(s.take ((s.length:Nat):Int).toNat).drop a.toNat=s.drop a.toNat:=(by rw [Int.toNat_natCast,List.take_length]);rw [<- eu] at hp;refine aG (F:=Tryz.f229) c229 rfl rfl rfl mixed rfl fun X=>?_;(conv=>whnf);repeat (refine ⟨ah ⟨by omega,by omega⟩,?_⟩;conv=>whnf)
 refine ⟨?_,?_⟩
 ·(conv=>whnf);intro hq;simp at hq;exact ⟨by omega,by omega,by omega⟩
 (conv=>whnf);repeat (refine ba (hp) ?_;conv=>whnf)
 rw [eu];exact ⟨rfl,rfl⟩
theorem PY {l:List Int} {B a:Int} (h:∀ n∈l,0<=n/\n<=B) (ha:0<=a/\a<=B):0<=jo l a/\jo l a<=B:=by
 induction l with
 | nil=>exact ha
 | cons n t ih=>
   rw [jo];split
   ·exact h n (List.mem_cons_self ..)
   exact ih fun m hm=>h m (List.mem_cons_of_mem _ hm)
theorem XE (E:Env) (nv cv:AV) (x:bJ) (hE:jE E):ae Tryz.prog 117 [.au (lj E nv cv),.agg (kL x)] [] (.aH [.int .i64 (gv E x).1,.bool (gv E x).2]):=by
 have h1:=hE.snd;have h2:=hE.kK;have h3:=hE.mA;refine aG (F:=Tryz.f117) c117 rfl rfl rfl mixed rfl fun X=>?_;(conv=>whnf);skip;refine ⟨fun ha=>?_,fun ha=>?_⟩<;>simp at ha
 ·rw [gv,if_pos (by simp [ha])];(conv=>whnf);repeat ((refine cT ?_ ?_;(focus (simp<;>omega)));conv=>whnf)
  exact ⟨rfl,rfl⟩
 (conv=>whnf);repeat (refine And.intro (by show aP (aN Tryz.f117 _) _=true;decide +kernel) ?_;conv=>whnf)
 refine ⟨fun hb=>?_,fun hb=>?_⟩<;>simp at hb
 ·rw [gv,if_pos (by simp [hb])];(conv=>whnf);repeat ((refine cT ?_ ?_;(focus (simp<;>omega)));conv=>whnf)
  exact ⟨rfl,rfl⟩
 (conv=>whnf);skip;refine ⟨fun hc=>?_,fun hc=>?_⟩
 ·have hc:(decide (E.B.dy=2)&&decide (0<x.hv))=true:=hc;rw [gv,if_pos (by rw [hc];simp)];(conv=>whnf);skip;exact ⟨rfl,rfl⟩
 have hc:(decide (E.B.dy=2)&&decide (0<x.hv))=false:=hc;rw [gv,if_neg (by rw [hc];simp [ha];omega)];(conv=>whnf);skip;refine ⟨fun hd=>?_,fun hd=>?_⟩
 ·have hd:(x.cls||decide (E.ee.cls=[]))=true:=hd;rw [if_pos hd];(conv=>whnf);skip;exact ⟨rfl,rfl⟩
 have hd:(x.cls||decide (E.ee.cls=[]))=false:=hd;rw [if_neg (by rw [hd];decide)];(conv=>whnf);repeat ((first|refine ⟨ah ⟨by omega,by omega⟩,?_⟩|refine And.intro (by show aP (aN Tryz.f117 _) _=true;decide +kernel) ?_);conv=>whnf)
 exact ⟨rfl,rfl⟩
theorem XF (E:Env) (nv cv:AV) (x:bJ) (u:ay) (hE:jE E) (hx:jF E x) (hu:u.text.length<=8):ae Tryz.prog 173 [.au (lj E nv cv),.agg (kL x),.agg (aV u)] [] (.aH [.agg (kL (aX E x u).1),.bool (aX E x u).2]):=by
 have h1:=hE.snd;have sM:=hx.n;have fk:=hx.at_;have vK:=hx.hv;refine ae.zd ?_;refine aG (F:=Tryz.f173) c173 rfl rfl rfl mixed rfl fun X=>?_;(conv=>whnf);repeat (intro (nb:Nat);conv=>whnf)
 refine ⟨fun hq=>?_,fun hq=>?_⟩
 ·have hq:((decide (E.B.dy=2)&&decide (0<x.hv))&&!decide (u.kind=3))=true:=hq;rw [aX,if_pos hq];(conv=>whnf);repeat ((first|refine ⟨_,_,.head _,rfl,?_⟩|refine ⟨_,_,.here _,aR,?_⟩);conv=>whnf)
  rfl
 have hq:((decide (E.B.dy=2)&&decide (0<x.hv))&&!decide (u.kind=3))=false:=hq;(conv=>whnf);repeat ((first|refine ⟨ah ⟨by omega,by omega⟩,?_⟩|refine ae.k0 (PX u) ?_|refine ⟨_,_,.here _,aR,?_⟩|intro (nb:Nat));conv=>whnf)
 have XG:aX E x u=if u.kind=1 then (⟨x.n+1,x.at_+u.text.length,x.cls,dT u⟩,uC E.snd u.text x.at_ (jo E.ef x.at_))
  else if u.kind=2 then (⟨x.n+1,u.text.length,x.cls,dT u⟩,decide (x.n=0)&&decide (u.text=E.ee.root))
  else if u.kind=3 then (⟨x.n+1,x.at_,x.cls,dT u⟩,(!decide (E.B.dy=0)&&decide ((u.text.length:Int)<=x.hv))&&rQ (E.snd.take x.at_.toNat) u.text)
  else if u.kind=4 then (⟨x.n+1,x.at_,true,dT u⟩,(((!decide (E.B.cls=0))&&!x.cls)&&decide (u.text=E.ee.cls))&&decide (x.at_=E.ef.headD 0))
  else (x,false):=by rw [aX,if_neg (by rw [hq];decide)]
 rw [XG];have XH:=PY hE.ef.2.2 fk;have oF:=XD E.snd u.text x.at_ (jo E.ef x.at_) h1 hu (by omega) (by omega);have AN:=XB E nv cv x.at_ hE;have Fx:=hasSuffix ((E.snd.take x.at_.toNat).drop (Int.toNat 0)) u.text (by unfold aw;rw [List.length_drop,List.length_take];omega) (by unfold aw;omega);obtain ⟨b0,ze⟩:=aL (l:=E.ef) (i:=0) (List.length_pos_iff.2 hE.ef.1)
 have Gk:E.ef.headD 0=b0:=by
  have:=hE.ef.1;cases zf:E.ef with
  | nil=>exact absurd zf this
  | cons c t=>rw [zf] at ze;simpa using ze
 refine ⟨fun hh=>?_,fun hh=>?_⟩
 ·have hv:dT u=u.text.length:=(by rw [dT,if_pos hh]);rw [hv];(conv=>whnf);repeat (refine ⟨_,_,.here _,aR,?_⟩;conv=>whnf)
  refine ⟨fun k1=>?_,fun k1=>?_⟩<;>simp at k1
  ·rw [if_pos k1];(conv=>whnf);repeat ((first|refine ⟨ah ⟨by omega,by omega⟩,?_⟩|refine ba (AN) ?_|refine ba (oF) ?_|refine ⟨_,_,.head _,rfl,?_⟩|refine ⟨_,_,.tail _ (.head _),rfl,?_⟩|refine ⟨_,_,.here _,aR,?_⟩|refine ⟨_,_,.there (.here _),aR,?_⟩|refine And.intro (by show aP (aN Tryz.f173 _) _=true;decide +kernel) ?_);conv=>whnf)
   rfl
  rw [if_neg k1];(conv=>whnf);skip;refine ⟨fun k2=>?_,fun k2=>?_⟩<;>simp at k2
  ·rw [if_pos k2];(conv=>whnf);repeat ((first|refine ⟨_,_,.head _,rfl,?_⟩|refine ⟨_,_,.tail _ (.head _),rfl,?_⟩|refine ⟨_,_,.here _,aR,?_⟩|refine ⟨_,_,.there (.here _),aR,?_⟩|refine And.intro (by show aP (aN Tryz.f173 _) _=true;decide +kernel) ?_);conv=>whnf)
   rfl
  rw [if_neg k2];(conv=>whnf);skip;refine ⟨fun k3=>?_,fun k3=>?_⟩<;>simp at k3
  ·rw [if_pos k3];(conv=>whnf);repeat ((first|refine ⟨ah ⟨by omega,by omega⟩,?_⟩|refine ba (Fx) ?_|refine ⟨_,_,.head _,rfl,?_⟩|refine ⟨_,_,.tail _ (.head _),rfl,?_⟩|refine ⟨_,_,.there (.here _),aR,?_⟩|refine And.intro (by show aP (aN Tryz.f173 _) _=true;decide +kernel) ?_);conv=>whnf)
   rfl
  rw [if_neg k3];(conv=>whnf);skip;refine ⟨fun k4=>?_,fun k4=>?_⟩<;>simp at k4
  ·rw [if_pos k4];(conv=>whnf);repeat ((first|refine ix (by assumption) ?_|refine ⟨_,_,.head _,rfl,?_⟩|refine ⟨_,_,.tail _ (.head _),rfl,?_⟩|refine ⟨_,_,.here _,aR,?_⟩|refine ⟨_,_,.there (.here _),aR,?_⟩|refine And.intro (by show aP (aN Tryz.f173 _) _=true;decide +kernel) ?_);conv=>whnf)
   rw [Gk];rfl
  rw [if_neg k4];(conv=>whnf);repeat ((first|refine ⟨_,_,.tail _ (.head _),rfl,?_⟩|refine ⟨_,_,.there (.here _),aR,?_⟩);conv=>whnf)
  rfl
 have hv:dT u=0:=(by rw [dT,if_neg (by rw [hh];decide)]);rw [hv];(conv=>whnf);skip;refine ⟨fun k1=>?_,fun k1=>?_⟩<;>simp at k1
 ·rw [if_pos k1];(conv=>whnf);repeat ((first|refine ⟨ah ⟨by omega,by omega⟩,?_⟩|refine ba (AN) ?_|refine ba (oF) ?_|refine ⟨_,_,.head _,rfl,?_⟩|refine ⟨_,_,.tail _ (.head _),rfl,?_⟩|refine ⟨_,_,.here _,aR,?_⟩|refine ⟨_,_,.there (.here _),aR,?_⟩|refine And.intro (by show aP (aN Tryz.f173 _) _=true;decide +kernel) ?_);conv=>whnf)
  rfl
 rw [if_neg k1];(conv=>whnf);skip;refine ⟨fun k2=>?_,fun k2=>?_⟩<;>simp at k2
 ·rw [if_pos k2];(conv=>whnf);repeat ((first|refine ⟨_,_,.head _,rfl,?_⟩|refine ⟨_,_,.tail _ (.head _),rfl,?_⟩|refine ⟨_,_,.here _,aR,?_⟩|refine ⟨_,_,.there (.here _),aR,?_⟩|refine And.intro (by show aP (aN Tryz.f173 _) _=true;decide +kernel) ?_);conv=>whnf)
  rfl
 rw [if_neg k2];(conv=>whnf);skip;refine ⟨fun k3=>?_,fun k3=>?_⟩<;>simp at k3
 ·rw [if_pos k3];(conv=>whnf);repeat ((first|refine ⟨ah ⟨by omega,by omega⟩,?_⟩|refine ba (Fx) ?_|refine ⟨_,_,.head _,rfl,?_⟩|refine ⟨_,_,.tail _ (.head _),rfl,?_⟩|refine ⟨_,_,.there (.here _),aR,?_⟩|refine And.intro (by show aP (aN Tryz.f173 _) _=true;decide +kernel) ?_);conv=>whnf)
  rfl
 rw [if_neg k3];(conv=>whnf);skip;refine ⟨fun k4=>?_,fun k4=>?_⟩<;>simp at k4
 ·rw [if_pos k4];(conv=>whnf);repeat ((first|refine ix (by assumption) ?_|refine ⟨_,_,.head _,rfl,?_⟩|refine ⟨_,_,.tail _ (.head _),rfl,?_⟩|refine ⟨_,_,.here _,aR,?_⟩|refine ⟨_,_,.there (.here _),aR,?_⟩|refine And.intro (by show aP (aN Tryz.f173 _) _=true;decide +kernel) ?_);conv=>whnf)
  rw [Gk];rfl
 rw [if_neg k4];(conv=>whnf);repeat ((first|refine ⟨_,_,.tail _ (.head _),rfl,?_⟩|refine ⟨_,_,.there (.here _),aR,?_⟩);conv=>whnf)
 rfl
theorem wE {E:Env} {x:bJ} {u:ay} (hE:jE E) (hx:jF E x) (hu:u.text.length<=8) (hn:x.n<12) (h:(aX E x u).2=true):jF E (aX E x u).1/\(aX E x u).1.n=x.n+1:=by
 have sM:=hx.n;have fk:=hx.at_;have vK:=hx.hv;have hv:0<=dT u/\dT u<=8:=by unfold dT;split<;>omega
 have XH:=PY hE.ef.2.2 fk;unfold aX at h ⊢;split at h
 ·cases h
 rename_i h0;rw [if_neg h0];split at h
 ·rename_i h1;rw [if_pos h1];unfold uC at h;simp only [Bool.and_eq_true,decide_eq_true_eq] at h;exact ⟨⟨⟨by simp only;omega,by simp only;omega⟩,⟨by simp only;omega,by simp only;omega⟩,hv⟩,rfl⟩
 rename_i h1;rw [if_neg h1];split at h
 ·rename_i h2;rw [if_pos h2];simp only [Bool.and_eq_true,decide_eq_true_eq] at h;have hr:=hE.root;rw [<- h.2] at hr;exact ⟨⟨⟨by simp only;omega,by simp only;omega⟩,⟨by simp only;omega,by simp only;omega⟩,hv⟩,rfl⟩
 rename_i h2;rw [if_neg h2];split at h
 ·rename_i h3;rw [if_pos h3];exact ⟨⟨⟨by simp only;omega,by simp only;omega⟩,fk,hv⟩,rfl⟩
 rename_i h3;rw [if_neg h3];split at h
 ·rename_i h4;rw [if_pos h4];exact ⟨⟨⟨by simp only;omega,by simp only;omega⟩,fk,hv⟩,rfl⟩
 cases h
theorem XI (E:Env) (x:bJ) (s:Nat) (u:ay):(zc E x s u).length<=1:=by unfold zc;split<;>simp
theorem PZ {E:Env} (hE:jE E) (u:ay):0<=nd E u/\nd E u<=1000:=by
 have h:=hE.cost;unfold iV at h;unfold nd;split
 ·exact h _ (by simp)
 split
 ·exact h _ (by simp)
 split
 ·exact h _ (by simp)
 exact h _ (by simp)
theorem XJ (E:Env) (nv cv:AV) (x:bJ) (hE:jE E) (hx:jF E x):ae Tryz.prog 118 [.au (lj E nv cv),.agg (kL x)] [] (.sl 8 none ((fB E x).map vJ)):=by
 refine ae.of ?_;by_cases hn:x.n=12
 ·rw [fB,if_pos hn];refine aG (F:=Tryz.f118) c118 rfl rfl rfl mixed rfl fun X=>?_;(conv=>whnf);skip;refine cT (by simp [hn]) ?_;(conv=>whnf);skip;exact ag.nil (by decide)
 rw [fB,if_neg hn];have Km:=hx.n;have PM:=hE.rows;have V9:=hE.qI;refine aG (F:=Tryz.f118) c118 rfl rfl rfl mixed rfl fun X=>?_;(conv=>whnf);skip;refine cF (by simp [hn]) ?_;(conv=>whnf);skip;have lT:(AQ E.ai).length=E.ai.length:=List.length_map _;refine bW rfl mixed [0,3,4,17,18,19] [] (fun m r h=>∃ (i:Nat) (ov:AV) (oh:af) (acc:List Mv),r=[(0,[],.au (lj E nv cv)),(3,[],.au (kL x)),(4,[],ov),(17,[],.sl 1 none (AQ E.ai)),(18,[],.int .i64 (AQ E.ai).length),(19,[],.int .i64 i)]/\h=oh/\m=E.ai.length - i/\i<=E.ai.length/\Out 8 vJ acc ov oh/\acc.length<=200*i/\rR E x 0 E.ai=acc++rR E x i (E.ai.drop i)) ?_ ?_
 ·(conv=>whnf);exact ⟨_,_,ao.refl _ _,_,0,.aT,[],[],rfl,rfl,rfl,by omega,.inl ⟨rfl,rfl,rfl⟩,by simp,rfl⟩
 rintro m r h' ⟨i,ov,oh,acc,rfl,rfl,rfl,hi,ho,jy,hm⟩;(conv=>whnf);refine ⟨fun aD=>?_,fun aD=>?_⟩<;>rw [lT] at aD<;>simp at aD
 ·obtain ⟨us,bd⟩:=aL aD;have Qa:=List.mem_of_getElem? bd;have gT:=hE.row us Qa;have eX:=hE.text us Qa;obtain ⟨sg,kM⟩:=aL (l:=E.B.aA) (i:=i) (by omega);have AR:=hE.vD sg (List.mem_of_getElem? kM);have eJ:E.B.aA.getD i 0=sg:=vj kM;rw [drop_cons bd,rR] at hm;(conv=>whnf);repeat (refine ix (by assumption) ?_;conv=>whnf)
  refine bW rfl mixed [0,3,4,5,17,18,19,24,25,26] [] (fun m r h=>∃ (k:Nat) (ov:AV) (oh:af) (acc:List Mv),r=[(0,[],.au (lj E nv cv)),(3,[],.au (kL x)),(4,[],ov),(5,[],.int .i64 i),(17,[],.sl 1 none (AQ E.ai)),(18,[],.int .i64 (AQ E.ai).length),(19,[],.int .i64 i),(24,[],.sl 2 none (us.map aV)),(25,[],.int .i64 (us.map aV).length),(26,[],.int .i64 k)]/\h=oh/\m=us.length - k/\k<=us.length/\Out 8 vJ acc ov oh/\acc.length<=200*i+k/\rR E x 0 E.ai=acc++(uD E x i (us.drop k)++rR E x (i+1) (E.ai.drop (i+1)))) ?_ ?_
  ·(conv=>whnf);exact ⟨_,_,ao.refl _ _,_,0,ov,_,acc,rfl,rfl,rfl,by omega,ho,by omega,hm⟩
  rintro m r h' ⟨k,ov,oh,acc,rfl,rfl,rfl,hk,ho,W1,hm⟩;(conv=>whnf);refine ⟨fun bw=>?_,fun bw=>?_⟩<;>simp at bw
  ·obtain ⟨u,hu⟩:=aL bw;have Au:=eX u (List.mem_of_getElem? hu);have cp:=XF E nv cv x u hE hx Au;have tY:=XC E nv cv u;have gJ:=PZ hE u;rw [drop_cons hu,uD,zc,eJ,<- List.append_assoc,<- List.append_assoc] at hm;obtain ⟨to,eS⟩:∃ to,to=(aX E x u).1:=⟨_,rfl⟩;obtain ⟨is,za⟩:∃ b,b=(aX E x u).2:=⟨_,rfl⟩;rw [<- eS,<- za] at cp hm;rcases ho with ⟨Kn,rfl,rfl⟩|⟨q,rfl,rfl⟩
   all_goals
    (conv=>whnf);repeat ((first|refine ix (by assumption) ?_|refine ae.k0 (cp) ?_|refine ⟨_,_,bo.here _,⟨Nat.le_of_ble_eq_true rfl,rfl⟩,?_⟩|intro (nb:Nat));conv=>whnf)
    refine ⟨fun hq=>?_,fun hq=>?_⟩
    ·have hq:(is&&decide (0<=sg))=true:=hq;rw [if_pos hq] at hm;(conv=>whnf);repeat ((first|refine ⟨ah ⟨by omega,by omega⟩,?_⟩|refine ix (by assumption) ?_|refine ba (tY) ?_|(refine ⟨Nat.le_of_ble_eq_true rfl,fun q'=>?_⟩)|(refine ⟨(by rw [List.length_append,List.length_map];simp;unfold aU;omega),fun q'=>⟨_,.here _,?_⟩⟩)|refine And.intro (by show aP (aN Tryz.f118 _) _=true;decide +kernel) ?_);conv=>whnf)
     refine ⟨_,_,ao.refl _ _,_,(by omega),k+1,_,[(q',.tok)],acc++[⟨i,nd E u+sg,u,to⟩],rfl,rfl,rfl,by omega,.inr ⟨q',?_,rfl⟩,by simp;omega,by rw [List.append_assoc] at hm;exact hm⟩;rw [List.map_append];first|done|rfl|(rw [Kn];done)|(rw [Kn];rfl)
    have hq:(is&&decide (0<=sg))=false:=hq;rw [if_neg (by rw [hq];decide),List.append_nil,List.append_assoc] at hm;(conv=>whnf);repeat (refine ⟨ah ⟨by omega,by omega⟩,?_⟩;conv=>whnf)
    refine ⟨_,_,ao.refl _ _,_,(by omega),k+1,_,_,acc,rfl,rfl,rfl,by omega,?_,by omega,hm⟩;first|exact .inl ⟨Kn,rfl,rfl⟩|exact .inr ⟨q,rfl,rfl⟩
  rw [drop_nil bw,uD,List.nil_append] at hm;(conv=>whnf);repeat (refine ⟨ah ⟨by omega,by omega⟩,?_⟩;conv=>whnf)
  exact ⟨_,_,ao.refl _ _,_,(by omega),i+1,ov,_,acc,rfl,rfl,rfl,by omega,ho,by omega,hm⟩
 rw [drop_nil aD,rR,List.append_nil] at hm;rw [hm];(conv=>whnf);skip;exact ho.le (by decide)
end Go.Abs.Wall.Spl
namespace Go.Abs.Wall.Spl
open Go Go.Abs Go.Proofs Go.Abs.Wall
open Go.Abs.Wall.Lst hiding aq ic lH jx gE dn lI kH lJ lK lL lM lN eA lO ch lP
def tg (E:Env) (x:bJ):List Int:=if (gv E x).2=true then [(gv E x).1*16] else []
def cK (E:Env) (rec:bJ->List Wy) (x:bJ):List (List Int):=tg E x::(fB E x).map fun m=>(rec m.to).map fun w=>w.cost+(m.cost*16+1)
def Gx (E:Env):Nat->bJ->List Wy
 | 0,x=>aW (cK E (fun _=>[]) x)
 | d+1,x=>aW (cK E (Gx E d) x)
def eY (E:Env) (x:bJ):List Wy:=Gx E (12 - x.n).toNat x
def ga (E:Env) (x:bJ):List (List Int):=cK E (eY E) x
theorem Qb {E:Env} {x:bJ} {s:Nat} {u:ay} {m:Mv} (h:m∈zc E x s u):m=⟨s,nd E u+E.B.aA.getD s 0,u,(aX E x u).1⟩/\(aX E x u).2=true/\0<=E.B.aA.getD s 0:=by
 unfold zc at h;split at h
 ·rename_i hc;rw [Bool.and_eq_true,decide_eq_true_eq] at hc;rw [List.mem_singleton] at h;exact ⟨h,hc.1,hc.2⟩
 cases h
theorem Ko {E:Env} {x:bJ} {s:Nat} {m:Mv}:∀ {us:List ay},m∈uD E x s us->∃ u∈us,m∈zc E x s u
 | [],h=>by cases h
 | u::t,h=>by
   rw [uD,List.mem_append] at h;rcases h with h|h
   ·exact ⟨u,List.mem_cons_self ..,h⟩
   obtain ⟨v,h1,h2⟩:=Ko h;exact ⟨v,List.mem_cons_of_mem _ h1,h2⟩
theorem Kp {E:Env} {x:bJ} {m:Mv}:∀ {rs:List (List ay)} {s:Nat},m∈rR E x s rs->∃ (i:Nat) (us:List ay),rs[i]?=some us/\m∈uD E x (s+i) us
 | [],s,h=>by cases h
 | us::t,s,h=>by
   rw [rR,List.mem_append] at h;rcases h with h|h
   ·exact ⟨0,us,rfl,h⟩
   obtain ⟨i,vs,h1,h2⟩:=Kp h;exact ⟨i+1,vs,h1,by rw [show s+(i+1)=s+1+i by omega];exact h2⟩
structure Qc (E:Env) (x:bJ) (m:Mv):Prop where
 to:jF E m.to
 next:m.to.n=x.n+1
 cost:0<=m.cost/\m.cost<=2000
 sign:0<=m.sign/\m.sign<E.ai.length
theorem AS {E:Env} {x:bJ} (hE:jE E) (hx:jF E x) {m:Mv} (h:m∈fB E x):Qc E x m:=by
 unfold fB at h;split at h
 ·cases h
 rename_i hn;have Km:=hx.n;obtain ⟨i,us,bd,hm⟩:=Kp h;rw [Nat.zero_add] at hm;obtain ⟨u,hu,hm⟩:=Ko hm;obtain ⟨rfl,h1,h2⟩:=Qb hm;have hi:=(List.getElem?_eq_some_iff.1 bd).1;obtain ⟨ho,jS⟩:=wE hE hx (hE.text us (List.mem_of_getElem? bd) u hu) (by omega) h1;have hc:=PZ hE u;have hh:=hE.qI;obtain ⟨sg,kM⟩:=aL (l:=E.B.aA) (i:=i) (by omega);have AR:=hE.vD sg (List.mem_of_getElem? kM);have eJ:E.B.aA.getD i 0=sg:=vj kM;rw [eJ] at h2;refine ⟨ho,jS,⟨?_,?_⟩,?_,?_⟩
 ·show 0<=nd E u+E.B.aA.getD i 0;rw [eJ];omega
 ·show nd E u+E.B.aA.getD i 0<=2000;rw [eJ];omega
 ·show (0:Int)<=(i:Int);omega
 show (i:Int)<E.ai.length;omega
theorem Qd (E:Env) (x:bJ) (s:Nat):∀ us:List ay,(uD E x s us).length<=us.length
 | []=>Nat.le_refl _
 | u::t=>by have h1:=Qd E x s t;have h2:=XI E x s u;rw [uD,List.length_append,List.length_cons];omega
theorem Qe {E:Env} {x:bJ}:∀ (rs:List (List ay)) (s:Nat),(∀ us∈rs,us.length<=200)->(rR E x s rs).length<=200*rs.length
 | [],s,_=>Nat.le_refl _
 | us::t,s,h=>by have h1:=Qe (E:=E) (x:=x) t (s+1) fun v hv=>h v (List.mem_cons_of_mem _ hv);have h2:=Qd E x s us;have h3:=h us (List.mem_cons_self ..);rw [rR,List.length_append,List.length_cons];omega
theorem Qf {E:Env} {x:bJ} (hE:jE E):(fB E x).length<=40000:=by
 unfold fB;split
 ·simp
 have h1:=Qe (E:=E) (x:=x) E.ai 0 hE.row;have h2:=hE.rows;omega
theorem Qg {E:Env} {r r':bJ->List Wy} {x:bJ} (h:∀ m∈fB E x,r m.to=r' m.to):cK E r x=cK E r' x:=by unfold cK;congr 1;refine List.map_congr_left fun m hm=>?_;rw [h m hm]
theorem Dl {E:Env} {x:bJ} (hE:jE E) (hx:jF E x):eY E x=aW (ga E x):=by
 have hn:=hx.n;unfold eY ga;by_cases h:x.n=12
 ·rw [show (12 - x.n).toNat=0 by omega,Gx];congr 1;refine Qg fun m hm=>?_;unfold fB at hm;rw [if_pos h] at hm;cases hm
 obtain ⟨d,hd⟩:∃ d,(12 - x.n).toNat=d+1:=⟨(11 - x.n).toNat,by omega⟩;rw [hd,Gx];congr 1;refine Qg fun m hm=>?_;have:=(AS hE hx hm).next;unfold eY;congr 1;omega
theorem AU (E:Env) (x:bJ):(ga E x).length=(fB E x).length+1:=by unfold ga cK;simp
theorem AW (E:Env) (x:bJ):(ga E x)[0]?=some (tg E x):=rfl
theorem Dm {E:Env} {x:bJ} {i:Nat} {m:Mv} (hm:(fB E x)[i]?=some m):(ga E x)[i+1]?=some ((eY E m.to).map fun w=>w.cost+(m.cost*16+1)):=by unfold ga cK;rw [List.getElem?_cons_succ,List.getElem?_map,hm];rfl
theorem Kq {E:Env} (hE:jE E) (x:bJ):0<=(gv E x).1/\(gv E x).1<=101000:=by
 have h1:=hE.kK;have h2:=hE.mA;unfold gv;split
 ·exact ⟨by decide,by decide⟩
 split
 ·exact ⟨h1.1,by show E.kK<=101000;omega⟩
 exact ⟨by show 0<=E.kK+E.mA;omega,by show E.kK+E.mA<=101000;omega⟩
theorem Gy {E:Env} (hE:jE E):∀ (d:Nat) (x:bJ),jF E x->(12 - x.n).toNat=d->∀ w∈eY E x,0<=w.cost/\w.cost<=(101000+2000*d)*16+d/\w.cost % 16<=d:=by
 intro d;induction d with
 | zero=>
   intro x hx hd w hw;have hn:=hx.n;rw [Dl hE hx] at hw;obtain ⟨t,ht⟩:=List.mem_iff_getElem?.1 hw;obtain ⟨_,l,hl,hc⟩:=jR ht;have gQ:(fB E x).length=0:=by unfold fB;rw [if_pos (by omega)];rfl
   have ju:=(List.getElem?_eq_some_iff.1 hl).1;rw [AU,gQ] at ju;have he:w.aO=0:=(by omega);rw [he,AW] at hl;cases hl
   have hb:=Kq hE x;have fK:=List.mem_of_getElem? hc;unfold tg at fK;split at fK
   ·rw [List.mem_singleton] at fK;rw [fK];omega
   cases fK
 | succ d ih=>
   intro x hx hd w hw;have hn:=hx.n;rw [Dl hE hx] at hw;obtain ⟨t,ht⟩:=List.mem_iff_getElem?.1 hw;obtain ⟨_,l,hl,hc⟩:=jR ht;have ju:=(List.getElem?_eq_some_iff.1 hl).1;rw [AU] at ju;have fK:=List.mem_of_getElem? hc;cases he:w.aO with
   | zero=>
     rw [he,AW] at hl;cases hl
     have hb:=Kq hE x;unfold tg at fK;split at fK
     ·rw [List.mem_singleton] at fK;rw [fK];omega
     cases fK
   | succ i=>
     obtain ⟨m,hm⟩:=aL (l:=fB E x) (i:=i) (by omega);rw [he,Dm hm] at hl;cases hl
     have cG:=AS hE hx (List.mem_of_getElem? hm);obtain ⟨v,hv,XK⟩:=List.mem_map.1 fK;have cp:=cG.next;obtain ⟨b1,b2,b3⟩:=ih m.to cG.to (by omega) v hv;have Kr:=cG.cost;have W2:d+1<=12:=(by omega);rw [<- XK];omega
structure AX (cls:List (List Int)) (t:Nat) (due:Bool) (Q:List Wy):Prop where
 ok:nQ cls t due Q
 bB:Q.length+(if due=true then 1 else 0)<=60000
 asked:t<=65
def iW (E:Env) (x:bJ):AV:=.sl 8 none ((fB E x).map vJ)
def AY (E:Env) (x:bJ) (k:Nat) (hp:af):Prop:=∃ t due Q fv fh ov oh,AX (ga E x) t due Q/\Out 4 aq ((aW (ga E x)).take t) fv fh/\eA Q ov oh/\hp=(k,.vec (ch (iW E x) fv ov due))::(fh++oh)
abbrev gb:=List (bJ × Nat)
inductive ng (E:Env) (d:Int):gb->af->Prop
 | nil:ng E d [] []
 | skip {x:bJ} {k:Nat} {es:gb} {hp:af}:x.n≠d->ng E d es hp->ng E d ((x,k)::es) hp
 | cons {x:bJ} {k:Nat} {es:gb} {h1 hp:af}:x.n=d->AY E x k h1->ng E d es hp->ng E d ((x,k)::es) (h1++hp)
inductive eb (E:Env):Nat->Int->gb->af->Prop
 | done {d:Int} {es:gb}:12<d->eb E 0 d es []
 | step {c:Nat} {d:Int} {es:gb} {hA hB:af}:ng E d es hA->eb E c (d+1) es hB->eb E (c+1) d es (hA++hB)
theorem ng.more {E:Env} {d:Int}:∀ {es:gb} {hp:af} {ext:gb},ng E d es hp->(∀ p∈ext,p.1.n≠d)->ng E d (es++ext) hp
 | _,_,[],h,_=>by rw [List.append_nil];exact h
 | _,_,(x,k)::ext,.nil,he=>.skip (he _ (List.mem_cons_self ..)) (ng.more (es:=[]) .nil fun p hp=>he p (List.mem_cons_of_mem _ hp))
 | _,_,y::ext,.skip h1 h2,he=>.skip h1 (h2.more he)
 | _,_,y::ext,.cons h1 h2 h3,he=>.cons h1 h2 (h3.more he)
theorem ng.snoc {E:Env} {d:Int} {x:bJ} {k:Nat} (hx:x.n=d) {h1:af} (hn:AY E x k h1):∀ {es:gb} {hp:af},ng E d es hp->ng E d (es++[(x,k)]) (hp++h1)
 | _,_,.nil=>by have:=ng.cons hx hn .nil (E:=E);rwa [List.append_nil] at this
 | _,_,.skip h2 h3=>.skip h2 (h3.snoc hx hn)
 | _,_,.cons h2 h3 h4=>by rw [List.append_assoc];exact .cons h2 h3 (h4.snoc hx hn)
theorem ng.pick {E:Env} {d:Int} {x:bJ} {k:Nat} (hx:x.n=d):∀ {es:gb} {hp:af},ng E d es hp->dM x es=some k->∃ hA h1 hB,hp=hA++(h1++hB)/\AY E x k h1/\∀ oE,AY E x k oE->ng E d es (hA++(oE++hB))
 | _,_,.nil,h=>by cases h
 | _,_,.skip (x:=y) (k:=j) h2 h3,h=>by have aJ:x≠y:=fun e=>h2 (by rw [<- e];exact hx);rw [dM,if_neg aJ] at h;obtain ⟨hA,h1,hB,e,n,f⟩:=h3.pick hx h;exact ⟨hA,h1,hB,e,n,fun oE hn=>.skip h2 (f oE hn)⟩
 | _,_,.cons (x:=y) (k:=j) (h1:=g) h2 h3 h4,h=>by
   unfold dM at h;split at h
   ·rename_i e;cases h
    subst e;refine ⟨[],g,_,rfl,h3,fun oE hn=>?_⟩;rw [List.nil_append];exact .cons h2 hn h4
   obtain ⟨hA,h1,hB,e,n,f⟩:=h4.pick hx h;refine ⟨g++hA,h1,hB,by rw [e,List.append_assoc],n,fun oE hn=>?_⟩;rw [List.append_assoc];exact .cons h2 h3 (f oE hn)
theorem Gz {κ ν:Type} [DecidableEq κ] {k:κ} {es ext:List (κ × ν)}:dM k (es++ext)=match dM k es with
  | some v=>some v
  | none=>dM k ext:=by
 induction es with
 | nil=>rfl
 | cons p t ih=>
   obtain ⟨x,v⟩:=p
   show (if k=x then some v else dM k (t++ext))=match (if k=x then some v else dM k t) with
    | some v=>some v
    | none=>dM k ext
   by_cases h:k=x
   ·rw [if_pos h,if_pos h]
   rw [if_neg h,if_neg h];exact ih
theorem Qh {κ ν:Type} [DecidableEq κ] {k:κ} {v:ν}:∀ {es:List (κ × ν)},dM k es=none->xg k v es=es++[(k,v)]
 | [],_=>rfl
 | (x,u)::t,h=>by
   unfold dM at h;split at h
   ·cases h
   rename_i aJ;unfold xg;rw [if_neg (by first|exact aJ|exact fun e=>aJ e.symm),Qh h];rfl
end Go.Abs.Wall.Spl
namespace Go.Abs.Wall.Spl
open Go Go.Abs Go.Proofs Go.Abs.Wall
open Go.Abs.Wall.Lst hiding aq ic lH jx gE dn lI kH lJ lK lL lM lN eA lO ch lP
def GA (E:Env):Nat->bJ->Wy->List Mv
 | 0,_,_=>[]
 | d+1,x,w=>match w.aO with
   | 0=>[]
   | i+1=>match (fB E x)[i]? with
     | none=>[]
     | some m=>match (eY E m.to)[w.aM]? with
       | none=>[]
       | some w'=>m::GA E d m.to w'
def nU (E:Env) (x:bJ) (w:Wy):List Mv:=GA E (13 - x.n).toNat x w
theorem Ks {E:Env} {x:bJ} (hE:jE E) (hx:jF E x) {ρ:Nat} {w:Wy} (hw:(eY E x)[ρ]?=some w) (he:w.aO=0):nU E x w=[]/\w.cost=(gv E x).1*16/\(gv E x).2=true:=by
 have hn:=hx.n;refine ⟨?_,?_⟩
 ·unfold nU;obtain ⟨d,hd⟩:∃ d,(13 - x.n).toNat=d+1:=⟨(12 - x.n).toNat,by omega⟩;rw [hd,GA,he]
 rw [Dl hE hx] at hw;obtain ⟨_,l,h2,h3⟩:=jR hw;rw [he,AW] at h2;cases h2
 unfold tg at h3;split at h3
 ·rename_i hq;have:=List.mem_of_getElem? h3;rw [List.mem_singleton] at this;exact ⟨this,hq⟩
 cases h3
theorem vr {E:Env} {x:bJ} (hE:jE E) (hx:jF E x) {ρ:Nat} {w:Wy} (hw:(eY E x)[ρ]?=some w) (he:w.aO≠0) :
  ∃ m w',(fB E x)[w.aO - 1]?=some m/\Qc E x m/\(eY E m.to)[w.aM]?=some w'/\nU E x w=m::nU E m.to w'/\w.cost=w'.cost+(m.cost*16+1)/\w.aM<=ρ:=by
 have hn:=hx.n;rw [Dl hE hx] at hw;have uZ:=Cs hw;obtain ⟨_,l,h2,h3⟩:=jR hw;have aI:=(List.getElem?_eq_some_iff.1 h2).1;rw [AU] at aI;obtain ⟨m,hm⟩:=aL (l:=fB E x) (i:=w.aO - 1) (by omega);have cG:=AS hE hx (List.mem_of_getElem? hm);have cp:=cG.next;have bz:=Dm hm;rw [show w.aO - 1+1=w.aO by omega] at bz;rw [bz] at h2;cases h2
 rw [List.getElem?_map] at h3;cases hq:(eY E m.to)[w.aM]? with
 | none=>rw [hq] at h3;cases h3
 | some w'=>
   rw [hq] at h3;refine ⟨m,w',hm,cG,hq,?_,(Option.some.inj h3).symm,uZ⟩;unfold nU;have W3:=cG.to.n;obtain ⟨d,hd⟩:∃ d,(13 - x.n).toNat=d+1:=⟨(12 - x.n).toNat,by omega⟩;rw [hd,show (13 - m.to.n).toNat=d by omega];obtain ⟨i,hi⟩:∃ i,w.aO=i+1:=⟨w.aO - 1,by omega⟩;rw [GA,hi];rw [hi] at hm;simp only [Nat.add_sub_cancel] at hm;simp only [hm,hq]
end Go.Abs.Wall.Spl
