/- What is proved: small laws for the walks of this seat, and contracts of its functions. No condition but those each theorem names. -/
import Derived.Test.YtbmcnieifibckaaGreatN14
import Derived.Test.YtbmcnieifibckaaGreatN6
import Derived.Test.YtbmcnieifibckaaGreatN11
set_option maxRecDepth 100000
set_option maxHeartbeats 2000000
set_option linter.unusedVariables false
set_option linter.unusedSimpArgs false
namespace Go.Abs.Wall.Spl
open Go Go.Abs Go.Proofs Go.Abs.Wall
open Go.Abs.Wall.Lst hiding al gL lq jg gk da lr kd lu lx ly lz lA ef lB cg lC
def al (w:Wy):List AV:=[.int .i64 (w.cost / 16),.int .i64 (w.cost % 16),.int .i64 ((w.aP:Int) - 1),.int .i64 w.aO]
def gL (x y:Wy):Int:=fT [bN (x.cost / 16) (y.cost / 16),bN (x.cost % 16) (y.cost % 16),bN ((x.aP:Int) - 1) ((y.aP:Int) - 1)]
theorem lq {x y:Wy}:gL x y<0↔cW x y:=by
 unfold gL fT fT fT fT bN cW;repeat' split
 all_goals first|omega|(simp at *;omega)
def c165:aw:=⟨[0,1,2,3,4],[],[],[],[(1,[0,1,2,3,4,5,6,7,8,9,10,11,12,13,14,15,16,17,18,19,20,21],[])],[]⟩
theorem jg (x y:Wy):ae Tryz.prog 165 [.agg (al x),.agg (al y)] [] (.int .i64 (gL x y)):=by
 refine aG (F:=Tryz.f165) c165 rfl rfl rfl mixed rfl fun X=>?_;(conv=>whnf);repeat ((first|refine aX (zm _ _) ?_|refine aX (Bu [bN (x.cost / 16) (y.cost / 16),bN (x.cost % 16) (y.cost % 16),bN ((x.aP:Int) - 1) ((y.aP:Int) - 1)] (by simp [aq])) ?_|refine And.intro (by show aJ (aH Tryz.f165 _) _=true;decide +kernel) ?_);conv=>whnf)
 exact ⟨rfl,rfl⟩
def gk (x:Wy) (Q:List Wy):Bool:=match Q[cS x Q]? with
 | none=>false
 | some y=>decide (gL y x=0)
theorem da (w:Wy):(al w).length=4:=rfl
theorem lr {x:Wy} {Q:List Wy} (hs:Q.Pairwise cW) {j:Nat} {y:Wy} (hy:Q[j]?=some y):gL y x<0↔j<cS x Q:=by
 rw [lq];constructor
 ·intro h;by_cases hj:j<cS x Q
  ·exact hj
  exact absurd h (Ec hs (by omega) hy)
 intro h;exact Eb h hy
def c227:aw:=⟨[0,1,2,4,6,7,8,9,10,11,17,31],[],[],[],[(5,[0,1,2,3,4,5,6,7],[]),(8,[0,1,2,3,4,5,6,7,8,9,10,11,12,13,14,15],[])],[]⟩
theorem kd (w:Wy):ae Tryz.prog 227 [.sl 4 none [],.agg (al w),.fn 165 []] [] (.aQ [.int .i64 (cS w []),.bool (gk w [])]):=by
 refine aG (F:=Tryz.f227) c227 rfl rfl rfl mixed rfl fun X=>?_;(conv=>whnf);refine xH 60 rfl mixed ?_;(conv=>whnf);refine .inr ?_;(conv=>whnf);refine cF rfl ?_;(conv=>whnf);repeat ((first|(refine ⟨0,[.int .i64 0,.int .i64 0,.int .i64 0,.int .i64 0],?_,?_⟩;(focus (conv=>whnf;skip));(focus (intro hq;exact absurd hq (by decide))))|(refine ⟨.int .i64 0,?_,?_⟩;(focus (conv=>whnf;skip));(focus (intro hq;exact absurd hq (by decide))))|refine And.intro (by show aJ (aH Tryz.f227 _) _=true;decide +kernel) ?_);conv=>whnf)
 exact ⟨rfl,rfl⟩
theorem lu (x:Wy) (Q:List Wy) (hs:Q.Pairwise cW) (b:Nat) (pre:List AV) (hl:Q.length<=4294967296) :
  ae Tryz.prog 227 [.aR b pre.length Q.length 4,.agg (al x),.fn 165 []] [(b,.vec (pre++(Q.map al).flatten))] (.aQ [.int .i64 (cS x Q),.bool (gk x Q)]):=by
 have Ub:=zl x Q;by_cases aI:0<Q.length
 rotate_left
 ·have hq:Q=[]:=List.eq_nil_of_length_eq_zero (by omega);subst hq;exact ae.args (ae.wide (kd x) _) (.cons ag.MJ (.cons (ag.refl _) (.cons (ag.refl _) .nil)))
 refine aG (F:=Tryz.f227) c227 rfl rfl rfl mixed rfl fun X=>?_;(conv=>whnf);skip;refine bM rfl mixed [0,2,4,8,9,10] [] (fun m r h=>∃ (i j:Nat),r=[(0,[],.aR b pre.length Q.length 4),(2,[],.fn 165 []),(4,[],.au (al x)),(8,[],.int .i64 Q.length),(9,[],.int .i64 i),(10,[],.int .i64 j)]/\h=[(b,.vec (pre++(Q.map al).flatten))]/\m=j - i/\i<=cS x Q/\cS x Q<=j/\j<=Q.length) ?_ ?_
 ·(conv=>whnf);exact ⟨_,0,Q.length,rfl,rfl,rfl,by omega,by omega,by omega⟩
 rintro m r h ⟨i,j,rfl,rfl,rfl,hi,hj,fP⟩;(conv=>whnf);refine ⟨fun hz=>?_,fun hz=>?_⟩<;>simp at hz
 ·have Hn:((i:Int)+(j:Int)) / 2=(((i+j) / 2:Nat):Int):=(by omega);obtain ⟨y,hy⟩:=aN (l:=Q) (i:=(i+j) / 2) (by omega);have gl:=lr (x:=x) hs hy;have hw:IntKind.u64.wrap ((i:Int)+(j:Int))=(i:Int)+(j:Int):=by simp [IntKind.wrap,IntKind.signed,IntKind.bits];omega
  (conv=>whnf);repeat (refine ⟨af ⟨by omega,by omega⟩,?_⟩;conv=>whnf)
  rw [hw];refine ⟨af ⟨⟨rfl,rfl⟩,by omega,by omega⟩,?_⟩;rw [Hn];(conv=>whnf);repeat ((first|refine ⟨af ⟨by omega,by omega⟩,?_⟩|(refine ⟨(i+j) / 2,af ⟨rfl,by omega⟩,?_⟩)|(refine oe da (.head _) rfl hy ?_)|refine aX (jg y x) ?_|refine And.intro (by show aJ (aH Tryz.f227 _) _=true;decide +kernel) ?_);conv=>whnf)
  refine ⟨fun hc=>?_,fun hc=>?_⟩<;>simp at hc
  ·(conv=>whnf);repeat (refine ⟨af ⟨by omega,by omega⟩,?_⟩;conv=>whnf)
   exact ⟨_,by omega,(i+j) / 2+1,j,rfl,rfl,rfl,by have:=gl.1 hc;omega,hj,fP⟩
  (conv=>whnf);skip;exact ⟨_,by omega,i,(i+j) / 2,rfl,rfl,rfl,hi,by have:=mt gl.2 (by omega);omega,by omega⟩
 have bO:i=cS x Q:=(by omega);subst bO;by_cases aL:cS x Q<Q.length
 ·obtain ⟨y,hy⟩:=aN (l:=Q) (i:=cS x Q) aL;(conv=>whnf);repeat ((first|(refine ⟨cS x Q,af ⟨rfl,by omega⟩,?_⟩)|(refine oe da (.head _) rfl hy ?_)|refine aX (jg y x) ?_|refine And.intro (by show aJ (aH Tryz.f227 _) _=true;decide +kernel) ?_);conv=>whnf)
  refine ⟨?_,rfl⟩;unfold gk;rw [hy];simp [aL]
 have hn:Q[cS x Q]?=none:=List.getElem?_eq_none (by omega);obtain ⟨y,hy⟩:=aN (l:=Q) (i:=0) aI;have Ho:decide (((cS x Q:Nat):Int)<(Q.length:Int))=false:=by simp;omega
 (conv=>whnf);repeat (refine And.intro (by show aJ (aH Tryz.f227 _) _=true;decide +kernel) ?_;conv=>whnf)
 rw [Ho];repeat ((first|(refine ⟨0,(fun hq=>by cases hq),?_⟩)|(refine oe (i:=0) da (.head _) rfl hy ?_)|refine aX (jg y x) ?_);conv=>whnf)
 refine ⟨?_,rfl⟩;unfold gk;rw [hn];rfl
def c228:aw:=⟨[0,1,2,6,7,8,9,16,22,31,68],[],[],[],[(11,[0,1,2,3,4,5,6,7,8],[]),(15,[0,1,2,3,4,5,6,7,8],[])],[]⟩
theorem lx (x:Wy) (vb:Nat):ay Tryz.prog 228 [.aW,.int .i64 0,.aR vb 0 1 4] [(vb,.vec (al x))] (fun v h'=>∃ q,v=.aR q 0 1 4/\h'=[(q,.vec (al x)),(vb,.vec (al x))]):=by
 refine aG (F:=Tryz.f228) c228 rfl rfl rfl mixed rfl fun X=>?_;(conv=>whnf);repeat (refine ⟨af ⟨by omega,by omega⟩,?_⟩;conv=>whnf)
 refine cF rfl ?_;(conv=>whnf);skip;refine cT rfl ?_;(conv=>whnf);repeat ((refine ⟨_,[al x],.head _,⟨rfl,by simp [al],rfl⟩,⟨Nat.le_of_ble_eq_true rfl,Nat.le_of_ble_eq_true rfl⟩,fun q=>?_⟩);conv=>whnf)
 exact ⟨q,rfl,rfl⟩
theorem ly:Extern.find Tryz.f258=some (Extern.SlicesOverlaps.overlaps #[196,196] #[4]):=by kernel_rfl
def lz (x:Wy) (Q:List Wy) (i vb:Nat) (v:AV) (h':ab):Prop:=∃ b' fi,ag v (.aR b' fi.length (Q.length+1) 4)/\∃ h2,h'.Perm ((b',.vec (fi++((Q.take i++x::Q.drop i).map al).flatten))::h2)
theorem lA (x:Wy) (Q:List Wy) (i:Nat) (hi:i<=Q.length) (b vb off c:Nat) (pre cs:List AV) (bR:cs=pre++(Q.map al).flatten) (ho:0<c->off=pre.length) (hc:Q.length<=c) (hl:Q.length<=65536) (aI:vb≠b) :
  ay Tryz.prog 228 [.eB b off Q.length c 4,.int .i64 i,.aR vb 0 1 4] [(b,.vec cs),(vb,.vec (al x))] (lz x Q i vb):=by
 have bw:cs.length=pre.length+Q.length*4:=(by rw [bR,List.length_append,mz da]);refine aG (F:=Tryz.f228) c228 rfl rfl rfl mixed rfl fun X=>?_;(conv=>whnf);repeat (refine ⟨af ⟨by omega,by omega⟩,?_⟩;conv=>whnf)
 refine cF rfl ?_;(conv=>whnf);skip;refine ⟨fun he=>?_,fun he=>?_⟩<;>simp at he
 ·have he:i=Q.length:=(by omega);subst he;have eO:((Q.take Q.length++x::Q.drop Q.length).map al).flatten=(Q.map al).flatten++[al x].flatten:=by rw [List.take_length,List.drop_length,List.map_append,List.flatten_append];rfl
  by_cases jB:Q.length+1<=c
  ·have:=ho (by omega);subst this;(conv=>whnf);repeat ((refine ⟨_,[al x],.tail _ (.head _),⟨rfl,by simp [al],rfl⟩,by unfold aV;omega,cs,.head _,.inl ⟨jB,bw,_,.here _,?_⟩⟩);conv=>whnf)
   refine ⟨b,pre,ag.eB,[(vb,.vec (al x))],?_⟩;rw [bR,eO,<- List.append_assoc]
  have Bw:Q.length=0\/off+Q.length*4<=cs.length:=by
   by_cases h0:Q.length=0
   ·exact .inl h0
   have:=ho (by omega);exact .inr (by omega)
  have ch:(cs.drop off).take (Q.length*4)=(Q.map al).flatten:=by
   by_cases h0:Q.length=0
   ·have:Q=[]:=List.eq_nil_of_length_eq_zero h0;subst this;simp
   have:=ho (by omega);rw [bR,this,List.drop_left,List.take_of_length_le (by rw [mz da];exact Nat.le_refl _)]
  (conv=>whnf);repeat ((refine ⟨_,[al x],.tail _ (.head _),⟨rfl,by simp [al],rfl⟩,by unfold aV;omega,cs,.head _,.inr ⟨by omega,Bw,fun q=>?_⟩⟩);conv=>whnf)
  refine ⟨q,[],ag.refl _,[(b,.vec cs),(vb,.vec (al x))],?_⟩;rw [ch,eO];exact .refl _
 have cn:i<Q.length:=(by omega);have rI:=ho (by omega);subst rI;have z1:(i:Int).toNat - Int.toNat 0=i:=(by simp);have z2:c - Int.toNat 0=c:=(by simp);have z3:oL pre.length (Int.toNat 0) c 4=pre.length:=by unfold oL;split<;>simp
 have z4:(Q.length:Int)+((1:Nat):Int) - (i:Int)=((Q.length+1 - i:Nat):Int):=(by omega);have z5:oL pre.length (i:Int).toNat c 4=pre.length+i*4:=by unfold oL;rw [if_neg (by simp;omega)];simp
 have Hr:cs.drop pre.length=(Q.map al).flatten:=(by rw [bR,List.drop_left]);have Bx:cs.drop (pre.length+i*4)=((Q.drop i).map al).flatten:=(by rw [bR,List.drop_append,List.drop_eq_nil_of_le (by omega),List.nil_append,Nat.add_sub_cancel_left,xB da]);(conv=>whnf);repeat (refine ⟨af ⟨by omega,by omega⟩,?_⟩;conv=>whnf)
 refine ⟨fun hz=>?_,fun hz=>?_⟩<;>simp at hz
 ·(conv=>whnf);repeat (refine ⟨af ⟨by omega,by omega⟩,?_⟩;conv=>whnf)
  rw [z1,z2,z3,z4];refine ⟨cs,.head _,⟨by omega,by omega,by omega,by omega⟩,fun q=>?_⟩;rw [Hr,By da,Int.toNat_natCast,show i+(Q.length+1 - i)=Q.length+1 by omega];(conv=>whnf);repeat (refine ⟨af ⟨by omega,by omega⟩,?_⟩;conv=>whnf)
  have m1:min 1 (((Q.length+1:Nat):Int).toNat - (i:Int).toNat)=1:=by rw [Int.toNat_natCast,Int.toNat_natCast];omega
  have m2:0+(i:Int).toNat*4=i*4:=(by simp);have fQ:((Q.take i).map al).flatten.length=i*4:=by rw [mz da,List.length_take];omega
  have pX:((Q.drop i).map al).flatten.length=(Q.length - i)*4:=(by rw [mz da,List.length_drop]);have uB:(iY (Q.length+1 - i) [AV.int .i64 0,AV.int .i64 0,AV.int .i64 0,AV.int .i64 0]).length=(Q.length+1 - i)*4:=by unfold iY;simp
  rw [m1,m2];refine ⟨_,[al x],.tail _ (.tail _ (.head _)),⟨rfl,by simp [al],rfl⟩,_,_,.here _,⟨by omega,?_⟩,?_⟩
  ·rw [List.length_append,fQ,uB];show i*4+4<=_;omega
  (conv=>whnf);repeat ((first|refine ⟨af ⟨by omega,by omega⟩,?_⟩|refine And.intro (by show aJ (aH Tryz.f228 _) _=true;decide +kernel) ?_);conv=>whnf)
  have m3:min ((Q.length:Int).toNat - (i:Int).toNat) (((Q.length+1:Nat):Int).toNat - ((i:Int)+((1:Nat):Int)).toNat)=Q.length - i:=by rw [show (i:Int)+((1:Nat):Int)=((i+1:Nat):Int) by omega];simp only [Int.toNat_natCast];omega
  have m4:0+((i:Int)+((1:Nat):Int)).toNat*4=(i+1)*4:=(by rw [show (i:Int)+((1:Nat):Int)=((i+1:Nat):Int) by omega,Int.toNat_natCast,Nat.zero_add]);rw [m3,m4,z5];have Hs:=MN (A:=((Q.take i).map al).flatten) (B:=iY (Q.length+1 - i) [AV.int .i64 0,AV.int .i64 0,AV.int .i64 0,AV.int .i64 0]) (X:=al x) (D:=((Q.drop i).map al).flatten) (n:=i*4) (m:=(i+1)*4) fQ.symm (by rw [fQ];show _=i*4+4;omega) (by rw [uB,pX];show _=4+_;omega);refine ⟨cs,(Q.drop i).map al,.tail _ (.head _),⟨?_,?_,by simp⟩,_,_,.here _,⟨by omega,?_⟩,?_⟩
  ·rw [Bx,List.take_of_length_le (by rw [pX];exact Nat.le_refl _)]
  ·intro z hz;obtain ⟨w,_,rfl⟩:=List.mem_map.1 hz;rfl
  ·have h1:(cY (((Q.take i).map al).flatten++iY (Q.length+1 - i) [AV.int .i64 0,AV.int .i64 0,AV.int .i64 0,AV.int .i64 0]) (i*4) [al x].flatten).length=(Q.length+1)*4:=by
    rw [Ht _ _ _ (by rw [List.length_append,fQ,uB];show i*4+4<=_;omega),List.length_append,fQ,uB];omega
   rw [h1,pX];omega
  (conv=>whnf);skip;refine ⟨q,[],ag.refl _,[(b,.vec cs),(vb,.vec (al x))],?_⟩;rw [show [al x].flatten=al x from by simp,Hs,List.map_append,List.flatten_append];exact .refl _
 (conv=>whnf);repeat (refine ⟨af ⟨by omega,by omega⟩,?_⟩;conv=>whnf)
 rw [z2,z3];have z7:oL pre.length ((i:Int)+((1:Nat):Int)).toNat c 4=pre.length+(i+1)*4:=by rw [show (i:Int)+((1:Nat):Int)=((i+1:Nat):Int) by omega,Int.toNat_natCast];unfold oL;rw [if_neg (by omega)]
 have z9:((Q.length:Int)+((1:Nat):Int)).toNat - Int.toNat 0=Q.length+1:=by rw [show (Q.length:Int)+((1:Nat):Int)=((Q.length+1:Nat):Int) by omega];simp
 have z8:(((Q.length+1:Nat):Int)).toNat - ((i:Int)+((1:Nat):Int)).toNat=Q.length - i:=by rw [show (i:Int)+((1:Nat):Int)=((i+1:Nat):Int) by omega,Int.toNat_natCast,Int.toNat_natCast];omega
 rw [z7,z9,z8];refine MK (fn:=Tryz.f258) rfl rfl rfl (by kernel_rfl) ly rfl (by decide) (.tail _ (.head _)) (.head _) aI (by omega) (by omega) ?_;(conv=>whnf);skip;refine cT rfl ?_;(conv=>whnf);repeat ((first|refine ⟨af ⟨by omega,by omega⟩,?_⟩|refine And.intro (by show aJ (aH Tryz.f228 _) _=true;decide +kernel) ?_);conv=>whnf)
 have fQ:((Q.take i).map al).flatten.length=i*4:=by rw [mz da,List.length_take];omega
 have pX:((Q.drop i).map al).flatten.length=(Q.length - i)*4:=(by rw [mz da,List.length_drop]);have m3:min (((Q.length+1:Nat):Int).toNat - (i:Int).toNat) (((Q.length+1:Nat):Int).toNat - ((i:Int)+((1:Nat):Int)).toNat)=Q.length - i:=by rw [show (i:Int)+((1:Nat):Int)=((i+1:Nat):Int) by omega];simp only [Int.toNat_natCast];omega
 have Hu:cs=(pre++((Q.take i).map al).flatten)++((Q.drop i).map al).flatten:=(by rw [bR,List.append_assoc,<- List.flatten_append,<- List.map_append,List.take_append_drop]);have ji:(pre++((Q.take i).map al).flatten).length=pre.length+i*4:=(by rw [List.length_append,fQ]);have rS:=MO (A:=pre++((Q.take i).map al).flatten) (X:=al x) (D:=((Q.drop i).map al).flatten) (n:=pre.length+i*4) (m:=pre.length+(i+1)*4) ji.symm (by rw [ji];show _=_+4;omega) (by rw [pX];show 4<=_;omega);rw [<- Hu] at rS;rw [m3,z5,z7];refine ⟨cs,(Q.drop i).map al,.head _,⟨?_,?_,by simp⟩,_,_,.here _,⟨by omega,by omega⟩,?_⟩
 ·rw [Bx,List.take_of_length_le (by rw [pX];exact Nat.le_refl _)]
 ·intro z hz;obtain ⟨w,_,rfl⟩:=List.mem_map.1 hz;rfl
 (conv=>whnf);repeat (refine ⟨af ⟨by omega,by omega⟩,?_⟩;conv=>whnf)
 have m1:min 1 (((Q.length+1:Nat):Int).toNat - (i:Int).toNat)=1:=by rw [Int.toNat_natCast,Int.toNat_natCast];omega
 rw [m1,z5];refine ⟨_,[al x],.tail _ (.head _),⟨rfl,by simp [al],rfl⟩,_,_,.here _,⟨by omega,?_⟩,?_⟩
 ·unfold cY;simp only [List.length_append,List.length_take,List.length_drop];omega
 (conv=>whnf);skip;refine ⟨b,pre,ag.eB,[(vb,.vec (al x))],?_⟩;rw [show [al x].flatten=al x from by simp,rS,show pre++((Q.take i++x::Q.drop i).map al).flatten=(pre++((Q.take i).map al).flatten)++(al x++((Q.drop i).map al).flatten) from by simp [List.append_assoc]]
def ef (Q:List Wy) (ov:AV) (oh:ab):Prop:=(Q=[]/\ov=.aW/\oh=[])\/∃ b pre,ov=.aR b pre.length Q.length 4/\oh=[(b,.vec (pre++(Q.map al).flatten))]
theorem lB (x:Wy) (Q:List Wy) (b vb:Nat) (pre:List AV) (hl:Q.length<=65536) :
  ay Tryz.prog 228 [.aR b pre.length Q.length 4,.int .i64 (cS x Q),.aR vb 0 1 4] [(b,.vec (pre++(Q.map al).flatten)),(vb,.vec (al x))]
   (fun v h'=>∃ b' fi,v=.aR b' fi.length (Q.length+1) 4/\h'=[(b',.vec (fi++((il x Q).map al).flatten))]):=by
 by_cases aI:vb=b
 ·subst aI;refine ⟨fun X g w us hc hr=>?_⟩;have:=hc.nodup;simp [keys] at this
 refine ay.post (ay.MM fun zn c ho hc=>lA x Q (cS x Q) (zl x Q) b vb zn c pre _ rfl ho hc hl aI) ?_;rintro v h1 ⟨b',fi,hv,h2,hp⟩;refine ⟨_,_,⟨b',fi,rfl,rfl⟩,hv,fun k o hm=>hp.mem_iff.2 (by cases List.mem_singleton.1 hm;exact List.mem_cons_self),fun _=>by simp [keys]⟩
def cg (mv fv ov:AV) (due:Bool):List AV:=[mv,fv,ov,.fn 165 [],.bool due]
def c164:aw:=⟨[0,1,3,4],[26],[],[],[(1,[0,1,2,3,4,5,6,7,8,9,10,11,12,13,14],[]),(2,[0,1,2,3,4,5,6,7,8,9,10,11],[])],[26,27]⟩
theorem lC (x:Wy) (Q:List Wy) (hs:Q.Pairwise cW) (nk:Nat) (mv fv:AV) (due:Bool) (ov:AV) (oh:ab) (ho:ef Q ov oh) (hl:Q.length<=65536) :
  ay Tryz.prog 164 [.bn nk 2,.agg (al x)] ((nk,.vec (cg mv fv ov due))::oh)
   (fun v h'=>v=.aQ []/\∃ iq iu,ef (il x Q) iq iu/\h'=(nk,.vec (cg mv fv iq due))::iu):=by
 have kc:=vV x Q;refine ay.post (R:=fun v h'=>v=.aQ []/\∃ iq iu g,ef (il x Q) iq iu/\h'.Perm ((nk,.vec (cg mv fv iq due))::(iu++g))) ?_ ?_
 ·rcases ho with ⟨rfl,rfl,rfl⟩|⟨b,pre,rfl,rfl⟩
  ·have mB:ae Tryz.prog 227 [.aW,.agg (al x),.fn 165 []] [] (.aQ [.int .i64 (cS x []),.bool (gk x [])]):=
    ae.args (kd x) (.cons (ag.nil (by decide)) (cP.refl _))
   refine aG (F:=Tryz.f164) c164 rfl rfl rfl mixed rfl fun X=>?_;(conv=>whnf);repeat ((first|refine aX (mB) ?_|refine ⟨_,_,.head _,rfl,?_⟩|refine And.intro (by show aJ (aH Tryz.f164 _) _=true;decide +kernel) ?_|intro (nb:Nat));conv=>whnf)
   refine ay.mono ?_ (ay.frame (lx x nb) _);rintro v h1 ⟨h2,⟨q,rfl,rfl⟩,rfl⟩;(conv=>whnf);repeat ((refine ⟨_,_,.there (.there (.here _)),aF,?_⟩);conv=>whnf)
   exact ⟨rfl,.aR q 0 1 4,[(q,.vec (al x))],[(nb,.vec (al x))],.inr ⟨q,[],rfl,rfl⟩,List.perm_append_comm (l₁:=[(q,_),(nb,_)]) (l₂:=[(nk,_)])⟩
  have mB:ae Tryz.prog 227 [.aR b pre.length Q.length 4,.agg (al x),.fn 165 []] [(nk,.vec (cg mv fv (.aR b pre.length Q.length 4) due)),(b,.vec (pre++(Q.map al).flatten))] (.aQ [.int .i64 (cS x Q),.bool (gk x Q)]):=
   ae.perm (h2:=[(nk,.vec (cg mv fv (.aR b pre.length Q.length 4) due))]) (lu x Q hs b pre (by omega)) (List.perm_append_comm (l₁:=[_]) (l₂:=[_]))
  refine aG (F:=Tryz.f164) c164 rfl rfl rfl mixed rfl fun X=>?_;(conv=>whnf);repeat ((first|(refine Ef mB ?_)|refine ⟨_,_,.head _,rfl,?_⟩|refine And.intro (by show aJ (aH Tryz.f164 _) _=true;decide +kernel) ?_|intro (nb:Nat));conv=>whnf)
  refine ay.mono (R:=fun v h1=>∃ b' fi g,v=.aR b' fi.length (Q.length+1) 4/\h1=(b',.vec (fi++((il x Q).map al).flatten))::(nk,.vec (cg mv fv (.aR b pre.length Q.length 4) due))::g) ?_ (ay.re (lB x Q b nb pre hl) (h2:=[(nk,.vec (cg mv fv (.aR b pre.length Q.length 4) due))]) ?_ ?_)
  ·rintro v h1 ⟨b',fi,g,rfl,rfl⟩;(conv=>whnf);repeat ((refine ⟨_,_,.there (.here _),aF,?_⟩);conv=>whnf)
   exact ⟨rfl,.aR b' fi.length (Q.length+1) 4,[(b',.vec (fi++((il x Q).map al).flatten))],g,.inr ⟨b',fi,by rw [kc],rfl⟩,List.Perm.swap _ _ _⟩
  ·exact (List.Perm.swap _ _ _).trans (List.Perm.cons _ (List.Perm.swap _ _ _))
  rintro v h1 ⟨b',fi,rfl,rfl⟩;exact ⟨_,.refl _,b',fi,[],rfl,rfl⟩
 rintro v h1 ⟨rfl,iq,iu,g,bD,hp⟩;refine ⟨_,_,⟨rfl,iq,iu,bD,rfl⟩,ag.refl _,fun k o hm=>hp.mem_iff.2 ?_,fun hn=>?_⟩
 ·rcases List.mem_cons.1 hm with h|h
  ·rw [h];exact List.mem_cons_self
  exact List.mem_cons_of_mem _ (List.mem_append_left _ h)
 have h1:=((hp.map (fun p:Nat × Ob=>p.1)).nodup_iff).1 hn;unfold keys;simp only [List.map_cons,List.map_append,List.nodup_cons,List.mem_append,not_or,List.nodup_append] at h1 ⊢;exact ⟨h1.1.1,h1.2.1⟩
end Go.Abs.Wall.Spl
namespace Go.Abs.Wall.Spl
open Go Go.Abs Go.Proofs Go.Abs.Wall
structure bX where
 aB:List Int
 dM:Int
 cls:Int
deriving DecidableEq
structure br where
 n:Int
 at_:Int
 cls:Bool
 hv:Int
deriving DecidableEq
structure Mv where
 sign:Int
 cost:Int
 use:ao
 to:br
structure Env where
 H:ax
 B:bX
 dv:kB
 snd:List UInt8
 dU:List Int
 kj:Int
 mi:Int
 aj:List (List ao)
def mj (b:bX):List AV:=[.sl 1 none (ints b.aB),.int .i64 b.dM,.int .i64 b.cls]
def km (x:br):List AV:=[.int .i64 x.n,.int .i64 x.at_,.bool x.cls,.int .i64 x.hv]
def uT (m:Mv):List AV:=[.int .i64 m.sign,.int .i64 m.cost]++(aT m.use++km m.to)
def kG (E:Env) (nv cv:AV):List AV:=bJ E.H++(mj E.B++(fu E.dv++[.str E.snd,.sl 1 none (ints E.dU),.int .i64 E.kj,.int .i64 E.mi,.sl 1 none (zL E.aj),nv,cv]))
def ko (u:ao):Bool:=decide (u.kind=2)||(decide (u.kind=1)&&decide (2<=(u.text.length:Int)))
def dE (u:ao):Int:=if ko u=true then u.text.length else 0
def iR:List Int->Int->Int
 | [],a=>a
 | n::t,a=>if a<n then n else iR t a
def tQ (s t:List UInt8) (a e:Int):Bool:=decide (a+t.length<=e)&&fG (s.drop a.toNat) t
def aU (E:Env) (x:br) (u:ao):br × Bool:=
 if ((decide (E.B.dM=2)&&decide (0<x.hv))&&!decide (u.kind=3))=true then (x,false)
 else if u.kind=1 then (⟨x.n+1,x.at_+u.text.length,x.cls,dE u⟩,tQ E.snd u.text x.at_ (iR E.dU x.at_))
 else if u.kind=2 then (⟨x.n+1,u.text.length,x.cls,dE u⟩,decide (x.n=0)&&decide (u.text=E.dv.root))
 else if u.kind=3 then (⟨x.n+1,x.at_,x.cls,dE u⟩,(!decide (E.B.dM=0)&&decide ((u.text.length:Int)<=x.hv))&&qg (E.snd.take x.at_.toNat) u.text)
 else if u.kind=4 then (⟨x.n+1,x.at_,true,dE u⟩,(((!decide (E.B.cls=0))&&!x.cls)&&decide (u.text=E.dv.cls))&&decide (x.at_=E.dU.headD 0))
 else (x,false)
def lO (E:Env) (u:ao):Int:=if u.kind=1 then E.H.cq.spell else if u.kind=2 then E.H.cq.EO else if u.kind=3 then E.H.cq.dM else E.H.cq.cls
def eU (E:Env) (x:br):Int × Bool:=
 if (decide (x.n=0)||(decide (x.at_<E.snd.length)||(decide (E.B.dM=2)&&decide (0<x.hv))))=true then (0,false)
 else if (x.cls||decide (E.dv.cls=[]))=true then (E.kj,true)
 else (E.kj+E.mi,!decide (E.B.cls=2))
def sq (E:Env) (x:br) (s:Nat) (u:ao):List Mv:=if ((aU E x u).2&&decide (0<=E.B.aB.getD s 0))=true then [⟨s,lO E u+E.B.aB.getD s 0,u,(aU E x u).1⟩] else []
def nE (E:Env) (x:br) (s:Nat):List ao->List Mv
 | []=>[]
 | u::t=>sq E x s u++nE E x s t
def mK (E:Env) (x:br):Nat->List (List ao)->List Mv
 | _,[]=>[]
 | s,us::t=>nE E x s us++mK E x (s+1) t
def dP (E:Env) (x:br):List Mv:=if x.n=12 then [] else mK E x 0 E.aj
structure gO (E:Env):Prop where
 se:E.B.aB.length=E.aj.length
 rows:E.aj.length<=200
 row:∀ us∈E.aj,us.length<=200
 text:∀ us∈E.aj,∀ u∈us,u.text.length<=8
 qd:∀ n∈E.B.aB,-1<=n/\n<=1000
 snd:E.snd.length<=1000
 root:E.dv.root.length<=E.snd.length
 dU:E.dU≠[]/\E.dU.length<=1000/\∀ n∈E.dU,0<=n/\n<=E.snd.length
 kj:0<=E.kj/\E.kj<=100000
 mi:0<=E.mi/\E.mi<=1000
 cost:∀ c∈iB E.H.cq,0<=c/\c<=1000
structure gX (E:Env) (x:br):Prop where
 n:0<=x.n/\x.n<=12
 at_:0<=x.at_/\x.at_<=E.snd.length
 hv:0<=x.hv/\x.hv<=8
def c142:aw:=⟨[0,1,2],[],[],[],[],[]⟩
def c230:aw:=⟨[0,1,4,6,10,11,12,13,18],[],[],[],[],[]⟩
def c229:aw:=⟨[0,1,2,3,8],[],[],[],[],[]⟩
def c174:aw:=⟨[0,1,3,4,6,7,15,23],[],[],[],[],[]⟩
def c117:aw:=⟨[0,1,3,4,5,6,29],[],[],[],[(2,[0,1,2,3,4,5,6,7,8],[]),(7,[0,1,2,3,4,5,6,7,8,9,10,11,12,13,14,15,16],[])],[]⟩
def c173:aw:=⟨[0,1,2,4,5,6,7,8,24,35,41,42,65,85,114],[],[],[],[(9,[0,1,2,3,4,5,6,7,8,9,10,11,12,13,14,15],[]),(12,[0,1,2,3,4,5,6,7,8,9,10,11,12,13,14,15],[]),(14,[0,1,2,3,4,5,6,7,8,9,10,11,12,13,14,15,16,17,18,19,20,21,22,23,24,25,26,27,28],[]),(17,[0,1,2,3,4,5,6,7,8,9,10,11,12,13,14,15,16,17,18,19,20,21,22,23,24,25,26,27,28,29,30,31,32,33,34],[])],[]⟩
def c118:aw:=⟨[0,1,3,4,5,6,8,9,10,13,17,18,19,20,24,25,26,27,48],[],[8,9],[],[(11,[0,1,2,3,4,5,6,7,8,9,10,11,12,13,14,15,16,17,18,19],[])],[]⟩
theorem Ou (u:ao):ae Tryz.prog 142 [.agg (aT u)] [] (.bool (ko u)):=by refine aG (F:=Tryz.f142) c142 rfl rfl rfl mixed rfl fun X=>?_;(conv=>whnf);skip;exact ⟨rfl,rfl⟩
theorem VK (E:Env) (nv cv:AV) (a:Int) (hE:gO E):ae Tryz.prog 230 [.au (kG E nv cv),.int .i64 a] [] (.int .i64 (iR E.dU a)):=by
 have hb:=hE.dU.2.1;refine aG (F:=Tryz.f230) c230 rfl rfl rfl mixed rfl fun X=>?_;(conv=>whnf);skip;refine bM rfl mixed [1,10,11,12] [] (fun m r h=>∃ (i:Nat),r=[(1,[],.int .i64 a),(10,[],.sl 1 none (ints E.dU)),(11,[],.int .i64 (ints E.dU).length),(12,[],.int .i64 i)]/\h=[]/\m=E.dU.length - i/\i<=E.dU.length/\iR E.dU a=iR (E.dU.drop i) a) ?_ ?_
 ·(conv=>whnf);exact ⟨_,0,rfl,rfl,rfl,by omega,rfl⟩
 rintro m r h ⟨i,rfl,rfl,rfl,hi,hg⟩;(conv=>whnf);refine ⟨fun hc=>?_,fun hc=>?_⟩<;>rw [dB] at hc<;>simp at hc
 ·obtain ⟨n,hn⟩:=aN hc;rw [drop_cons hn,iR] at hg;(conv=>whnf);repeat (refine ix (by assumption) ?_;conv=>whnf)
  refine ⟨fun hq=>?_,fun hq=>?_⟩<;>simp at hq
  ·rw [if_pos hq] at hg;(conv=>whnf);skip;exact ⟨congrArg _ hg.symm,rfl⟩
  rw [if_neg (by omega)] at hg;(conv=>whnf);repeat (refine ⟨af ⟨by omega,by omega⟩,?_⟩;conv=>whnf)
  exact ⟨_,by omega,i+1,rfl,rfl,rfl,by omega,hg⟩
 rw [drop_nil hc,iR] at hg;(conv=>whnf);skip;exact ⟨congrArg _ hg.symm,rfl⟩
theorem VL (E:Env) (nv cv:AV) (u:ao):ae Tryz.prog 174 [.au (kG E nv cv),.agg (aT u)] [] (.int .i64 (lO E u)):=by
 refine aG (F:=Tryz.f174) c174 rfl rfl rfl mixed rfl fun X=>?_;(conv=>whnf);skip;refine ⟨fun h1=>?_,fun h1=>?_⟩<;>simp at h1
 ·rw [lO,if_pos h1];(conv=>whnf);skip;exact ⟨rfl,rfl⟩
 (conv=>whnf);skip;refine ⟨fun h2=>?_,fun h2=>?_⟩<;>simp at h2
 ·rw [lO,if_neg h1,if_pos h2];(conv=>whnf);skip;exact ⟨rfl,rfl⟩
 (conv=>whnf);skip;refine ⟨fun h3=>?_,fun h3=>?_⟩<;>simp at h3
 ·rw [lO,if_neg h1,if_neg h2,if_pos h3];(conv=>whnf);skip;exact ⟨rfl,rfl⟩
 rw [lO,if_neg h1,if_neg h2,if_neg h3];(conv=>whnf);skip;exact ⟨rfl,rfl⟩
theorem VM (s t:List UInt8) (a e:Int) (hs:s.length<=1000) (ht:t.length<=8) (ha:0<=a/\a<=1000) (he:e<=s.length):ae Tryz.prog 229 [.str s,.str t,.int .i64 a,.int .i64 e] [] (.bool (tQ s t a e)):=by
 have hp:=hasPrefix (s.drop a.toNat) t (by unfold aq;rw [List.length_drop];omega) (by unfold aq;omega);have gn:(s.take ((s.length:Nat):Int).toNat).drop a.toNat=s.drop a.toNat:=(by rw [Int.toNat_natCast,List.take_length]);rw [<- gn] at hp;refine aG (F:=Tryz.f229) c229 rfl rfl rfl mixed rfl fun X=>?_;(conv=>whnf);repeat (refine ⟨af ⟨by omega,by omega⟩,?_⟩;conv=>whnf)
 refine ⟨?_,?_⟩
 ·(conv=>whnf);intro hq;simp at hq;exact ⟨by omega,by omega,by omega⟩
 (conv=>whnf);repeat (refine aX (hp) ?_;conv=>whnf)
 rw [gn];exact ⟨rfl,rfl⟩
theorem Ov {l:List Int} {B a:Int} (h:∀ n∈l,0<=n/\n<=B) (ha:0<=a/\a<=B):0<=iR l a/\iR l a<=B:=by
 induction l with
 | nil=>exact ha
 | cons n t ih=>
   rw [iR];split
   ·exact h n (List.mem_cons_self ..)
   exact ih fun m hm=>h m (List.mem_cons_of_mem _ hm)
theorem VN (E:Env) (nv cv:AV) (x:br) (hE:gO E):ae Tryz.prog 117 [.au (kG E nv cv),.agg (km x)] [] (.aQ [.int .i64 (eU E x).1,.bool (eU E x).2]):=by
 have h1:=hE.snd;have h2:=hE.kj;have h3:=hE.mi;refine aG (F:=Tryz.f117) c117 rfl rfl rfl mixed rfl fun X=>?_;(conv=>whnf);skip;refine ⟨fun ha=>?_,fun ha=>?_⟩<;>simp at ha
 ·rw [eU,if_pos (by simp [ha])];(conv=>whnf);repeat ((refine cT ?_ ?_;(focus (simp<;>omega)));conv=>whnf)
  exact ⟨rfl,rfl⟩
 (conv=>whnf);repeat (refine And.intro (by show aJ (aH Tryz.f117 _) _=true;decide +kernel) ?_;conv=>whnf)
 refine ⟨fun hb=>?_,fun hb=>?_⟩<;>simp at hb
 ·rw [eU,if_pos (by simp [hb])];(conv=>whnf);repeat ((refine cT ?_ ?_;(focus (simp<;>omega)));conv=>whnf)
  exact ⟨rfl,rfl⟩
 (conv=>whnf);skip;refine ⟨fun hc=>?_,fun hc=>?_⟩
 ·have hc:(decide (E.B.dM=2)&&decide (0<x.hv))=true:=hc;rw [eU,if_pos (by rw [hc];simp)];(conv=>whnf);skip;exact ⟨rfl,rfl⟩
 have hc:(decide (E.B.dM=2)&&decide (0<x.hv))=false:=hc;rw [eU,if_neg (by rw [hc];simp [ha];omega)];(conv=>whnf);skip;refine ⟨fun hd=>?_,fun hd=>?_⟩
 ·have hd:(x.cls||decide (E.dv.cls=[]))=true:=hd;rw [if_pos hd];(conv=>whnf);skip;exact ⟨rfl,rfl⟩
 have hd:(x.cls||decide (E.dv.cls=[]))=false:=hd;rw [if_neg (by rw [hd];decide)];(conv=>whnf);repeat ((first|refine ⟨af ⟨by omega,by omega⟩,?_⟩|refine And.intro (by show aJ (aH Tryz.f117 _) _=true;decide +kernel) ?_);conv=>whnf)
 exact ⟨rfl,rfl⟩
theorem VO (E:Env) (nv cv:AV) (x:br) (u:ao) (hE:gO E) (hx:gX E x) (hu:u.text.length<=8):ae Tryz.prog 173 [.au (kG E nv cv),.agg (km x),.agg (aT u)] [] (.aQ [.agg (km (aU E x u).1),.bool (aU E x u).2]):=by
 have h1:=hE.snd;have pW:=hx.n;have ee:=hx.at_;have uU:=hx.hv;refine ae.yk ?_;refine aG (F:=Tryz.f173) c173 rfl rfl rfl mixed rfl fun X=>?_;(conv=>whnf);repeat (intro (nb:Nat);conv=>whnf)
 refine ⟨fun hq=>?_,fun hq=>?_⟩
 ·have hq:((decide (E.B.dM=2)&&decide (0<x.hv))&&!decide (u.kind=3))=true:=hq;rw [aU,if_pos hq];(conv=>whnf);repeat ((first|refine ⟨_,_,.head _,rfl,?_⟩|refine ⟨_,_,.here _,aF,?_⟩);conv=>whnf)
  rfl
 have hq:((decide (E.B.dM=2)&&decide (0<x.hv))&&!decide (u.kind=3))=false:=hq;(conv=>whnf);repeat ((first|refine ⟨af ⟨by omega,by omega⟩,?_⟩|refine ae.k0 (Ou u) ?_|refine ⟨_,_,.here _,aF,?_⟩|intro (nb:Nat));conv=>whnf)
 have VP:aU E x u=if u.kind=1 then (⟨x.n+1,x.at_+u.text.length,x.cls,dE u⟩,tQ E.snd u.text x.at_ (iR E.dU x.at_))
  else if u.kind=2 then (⟨x.n+1,u.text.length,x.cls,dE u⟩,decide (x.n=0)&&decide (u.text=E.dv.root))
  else if u.kind=3 then (⟨x.n+1,x.at_,x.cls,dE u⟩,(!decide (E.B.dM=0)&&decide ((u.text.length:Int)<=x.hv))&&qg (E.snd.take x.at_.toNat) u.text)
  else if u.kind=4 then (⟨x.n+1,x.at_,true,dE u⟩,(((!decide (E.B.cls=0))&&!x.cls)&&decide (u.text=E.dv.cls))&&decide (x.at_=E.dU.headD 0))
  else (x,false):=by rw [aU,if_neg (by rw [hq];decide)]
 rw [VP];have VQ:=Ov hE.dU.2.2 ee;have lX:=VM E.snd u.text x.at_ (iR E.dU x.at_) h1 hu (by omega) (by omega);have zG:=VK E nv cv x.at_ hE;have DU:=hasSuffix ((E.snd.take x.at_.toNat).drop (Int.toNat 0)) u.text (by unfold aq;rw [List.length_drop,List.length_take];omega) (by unfold aq;omega);obtain ⟨b0,Ow⟩:=aN (l:=E.dU) (i:=0) (List.length_pos_iff.2 hE.dU.1)
 have EF:E.dU.headD 0=b0:=by
  have:=hE.dU.1;cases yl:E.dU with
  | nil=>exact absurd yl this
  | cons c t=>rw [yl] at Ow;simpa using Ow
 refine ⟨fun hh=>?_,fun hh=>?_⟩
 ·have hv:dE u=u.text.length:=(by rw [dE,if_pos hh]);rw [hv];(conv=>whnf);repeat (refine ⟨_,_,.here _,aF,?_⟩;conv=>whnf)
  refine ⟨fun k1=>?_,fun k1=>?_⟩<;>simp at k1
  ·rw [if_pos k1];(conv=>whnf);repeat ((first|refine ⟨af ⟨by omega,by omega⟩,?_⟩|refine aX (zG) ?_|refine aX (lX) ?_|refine ⟨_,_,.head _,rfl,?_⟩|refine ⟨_,_,.tail _ (.head _),rfl,?_⟩|refine ⟨_,_,.here _,aF,?_⟩|refine ⟨_,_,.there (.here _),aF,?_⟩|refine And.intro (by show aJ (aH Tryz.f173 _) _=true;decide +kernel) ?_);conv=>whnf)
   rfl
  rw [if_neg k1];(conv=>whnf);skip;refine ⟨fun k2=>?_,fun k2=>?_⟩<;>simp at k2
  ·rw [if_pos k2];(conv=>whnf);repeat ((first|refine ⟨_,_,.head _,rfl,?_⟩|refine ⟨_,_,.tail _ (.head _),rfl,?_⟩|refine ⟨_,_,.here _,aF,?_⟩|refine ⟨_,_,.there (.here _),aF,?_⟩|refine And.intro (by show aJ (aH Tryz.f173 _) _=true;decide +kernel) ?_);conv=>whnf)
   rfl
  rw [if_neg k2];(conv=>whnf);skip;refine ⟨fun k3=>?_,fun k3=>?_⟩<;>simp at k3
  ·rw [if_pos k3];(conv=>whnf);repeat ((first|refine ⟨af ⟨by omega,by omega⟩,?_⟩|refine aX (DU) ?_|refine ⟨_,_,.head _,rfl,?_⟩|refine ⟨_,_,.tail _ (.head _),rfl,?_⟩|refine ⟨_,_,.there (.here _),aF,?_⟩|refine And.intro (by show aJ (aH Tryz.f173 _) _=true;decide +kernel) ?_);conv=>whnf)
   rfl
  rw [if_neg k3];(conv=>whnf);skip;refine ⟨fun k4=>?_,fun k4=>?_⟩<;>simp at k4
  ·rw [if_pos k4];(conv=>whnf);repeat ((first|refine ix (by assumption) ?_|refine ⟨_,_,.head _,rfl,?_⟩|refine ⟨_,_,.tail _ (.head _),rfl,?_⟩|refine ⟨_,_,.here _,aF,?_⟩|refine ⟨_,_,.there (.here _),aF,?_⟩|refine And.intro (by show aJ (aH Tryz.f173 _) _=true;decide +kernel) ?_);conv=>whnf)
   rw [EF];rfl
  rw [if_neg k4];(conv=>whnf);repeat ((first|refine ⟨_,_,.tail _ (.head _),rfl,?_⟩|refine ⟨_,_,.there (.here _),aF,?_⟩);conv=>whnf)
  rfl
 have hv:dE u=0:=(by rw [dE,if_neg (by rw [hh];decide)]);rw [hv];(conv=>whnf);skip;refine ⟨fun k1=>?_,fun k1=>?_⟩<;>simp at k1
 ·rw [if_pos k1];(conv=>whnf);repeat ((first|refine ⟨af ⟨by omega,by omega⟩,?_⟩|refine aX (zG) ?_|refine aX (lX) ?_|refine ⟨_,_,.head _,rfl,?_⟩|refine ⟨_,_,.tail _ (.head _),rfl,?_⟩|refine ⟨_,_,.here _,aF,?_⟩|refine ⟨_,_,.there (.here _),aF,?_⟩|refine And.intro (by show aJ (aH Tryz.f173 _) _=true;decide +kernel) ?_);conv=>whnf)
  rfl
 rw [if_neg k1];(conv=>whnf);skip;refine ⟨fun k2=>?_,fun k2=>?_⟩<;>simp at k2
 ·rw [if_pos k2];(conv=>whnf);repeat ((first|refine ⟨_,_,.head _,rfl,?_⟩|refine ⟨_,_,.tail _ (.head _),rfl,?_⟩|refine ⟨_,_,.here _,aF,?_⟩|refine ⟨_,_,.there (.here _),aF,?_⟩|refine And.intro (by show aJ (aH Tryz.f173 _) _=true;decide +kernel) ?_);conv=>whnf)
  rfl
 rw [if_neg k2];(conv=>whnf);skip;refine ⟨fun k3=>?_,fun k3=>?_⟩<;>simp at k3
 ·rw [if_pos k3];(conv=>whnf);repeat ((first|refine ⟨af ⟨by omega,by omega⟩,?_⟩|refine aX (DU) ?_|refine ⟨_,_,.head _,rfl,?_⟩|refine ⟨_,_,.tail _ (.head _),rfl,?_⟩|refine ⟨_,_,.there (.here _),aF,?_⟩|refine And.intro (by show aJ (aH Tryz.f173 _) _=true;decide +kernel) ?_);conv=>whnf)
  rfl
 rw [if_neg k3];(conv=>whnf);skip;refine ⟨fun k4=>?_,fun k4=>?_⟩<;>simp at k4
 ·rw [if_pos k4];(conv=>whnf);repeat ((first|refine ix (by assumption) ?_|refine ⟨_,_,.head _,rfl,?_⟩|refine ⟨_,_,.tail _ (.head _),rfl,?_⟩|refine ⟨_,_,.here _,aF,?_⟩|refine ⟨_,_,.there (.here _),aF,?_⟩|refine And.intro (by show aJ (aH Tryz.f173 _) _=true;decide +kernel) ?_);conv=>whnf)
  rw [EF];rfl
 rw [if_neg k4];(conv=>whnf);repeat ((first|refine ⟨_,_,.tail _ (.head _),rfl,?_⟩|refine ⟨_,_,.there (.here _),aF,?_⟩);conv=>whnf)
 rfl
theorem vO {E:Env} {x:br} {u:ao} (hE:gO E) (hx:gX E x) (hu:u.text.length<=8) (hn:x.n<12) (h:(aU E x u).2=true):gX E (aU E x u).1/\(aU E x u).1.n=x.n+1:=by
 have pW:=hx.n;have ee:=hx.at_;have uU:=hx.hv;have hv:0<=dE u/\dE u<=8:=by unfold dE;split<;>omega
 have VQ:=Ov hE.dU.2.2 ee;unfold aU at h ⊢;split at h
 ·cases h
 rename_i h0;rw [if_neg h0];split at h
 ·rename_i h1;rw [if_pos h1];unfold tQ at h;simp only [Bool.and_eq_true,decide_eq_true_eq] at h;exact ⟨⟨⟨by simp only;omega,by simp only;omega⟩,⟨by simp only;omega,by simp only;omega⟩,hv⟩,rfl⟩
 rename_i h1;rw [if_neg h1];split at h
 ·rename_i h2;rw [if_pos h2];simp only [Bool.and_eq_true,decide_eq_true_eq] at h;have hr:=hE.root;rw [<- h.2] at hr;exact ⟨⟨⟨by simp only;omega,by simp only;omega⟩,⟨by simp only;omega,by simp only;omega⟩,hv⟩,rfl⟩
 rename_i h2;rw [if_neg h2];split at h
 ·rename_i h3;rw [if_pos h3];exact ⟨⟨⟨by simp only;omega,by simp only;omega⟩,ee,hv⟩,rfl⟩
 rename_i h3;rw [if_neg h3];split at h
 ·rename_i h4;rw [if_pos h4];exact ⟨⟨⟨by simp only;omega,by simp only;omega⟩,ee,hv⟩,rfl⟩
 cases h
theorem VR (E:Env) (x:br) (s:Nat) (u:ao):(sq E x s u).length<=1:=by unfold sq;split<;>simp
theorem Ox {E:Env} (hE:gO E) (u:ao):0<=lO E u/\lO E u<=1000:=by
 have h:=hE.cost;unfold iB at h;unfold lO;split
 ·exact h _ (by simp)
 split
 ·exact h _ (by simp)
 split
 ·exact h _ (by simp)
 exact h _ (by simp)
theorem VS (E:Env) (nv cv:AV) (x:br) (hE:gO E) (hx:gX E x):ae Tryz.prog 118 [.au (kG E nv cv),.agg (km x)] [] (.sl 8 none ((dP E x).map uT)):=by
 refine ae.of ?_;by_cases hn:x.n=12
 ·rw [dP,if_pos hn];refine aG (F:=Tryz.f118) c118 rfl rfl rfl mixed rfl fun X=>?_;(conv=>whnf);skip;refine cT (by simp [hn]) ?_;(conv=>whnf);skip;exact ag.nil (by decide)
 rw [dP,if_neg hn];have IK:=hx.n;have Og:=hE.rows;have O8:=hE.se;refine aG (F:=Tryz.f118) c118 rfl rfl rfl mixed rfl fun X=>?_;(conv=>whnf);skip;refine cF (by simp [hn]) ?_;(conv=>whnf);skip;have lF:(zL E.aj).length=E.aj.length:=List.length_map _;refine cy rfl mixed [0,3,4,17,18,19] [] (fun m r h=>∃ (i:Nat) (ov:AV) (oh:ab) (acc:List Mv),r=[(0,[],.au (kG E nv cv)),(3,[],.au (km x)),(4,[],ov),(17,[],.sl 1 none (zL E.aj)),(18,[],.int .i64 (zL E.aj).length),(19,[],.int .i64 i)]/\h=oh/\m=E.aj.length - i/\i<=E.aj.length/\Out 8 uT acc ov oh/\acc.length<=200*i/\mK E x 0 E.aj=acc++mK E x i (E.aj.drop i)) ?_ ?_
 ·(conv=>whnf);exact ⟨_,_,ar.refl _ _,_,0,.aW,[],[],rfl,rfl,rfl,by omega,.inl ⟨rfl,rfl,rfl⟩,by simp,rfl⟩
 rintro m r h' ⟨i,ov,oh,acc,rfl,rfl,rfl,hi,ho,ji,hm⟩;(conv=>whnf);refine ⟨fun aD=>?_,fun aD=>?_⟩<;>rw [lF] at aD<;>simp at aD
 ·obtain ⟨us,ba⟩:=aN aD;have Oy:=List.mem_of_getElem? ba;have ke:=hE.row us Oy;have eK:=hE.text us Oy;obtain ⟨sg,mL⟩:=aN (l:=E.B.aB) (i:=i) (by omega);have IL:=hE.qd sg (List.mem_of_getElem? mL);have gC:E.B.aB.getD i 0=sg:=xM mL;rw [drop_cons ba,mK] at hm;(conv=>whnf);repeat (refine ix (by assumption) ?_;conv=>whnf)
  refine cy rfl mixed [0,3,4,5,17,18,19,24,25,26] [] (fun m r h=>∃ (k:Nat) (ov:AV) (oh:ab) (acc:List Mv),r=[(0,[],.au (kG E nv cv)),(3,[],.au (km x)),(4,[],ov),(5,[],.int .i64 i),(17,[],.sl 1 none (zL E.aj)),(18,[],.int .i64 (zL E.aj).length),(19,[],.int .i64 i),(24,[],.sl 2 none (us.map aT)),(25,[],.int .i64 (us.map aT).length),(26,[],.int .i64 k)]/\h=oh/\m=us.length - k/\k<=us.length/\Out 8 uT acc ov oh/\acc.length<=200*i+k/\mK E x 0 E.aj=acc++(nE E x i (us.drop k)++mK E x (i+1) (E.aj.drop (i+1)))) ?_ ?_
  ·(conv=>whnf);exact ⟨_,_,ar.refl _ _,_,0,ov,_,acc,rfl,rfl,rfl,by omega,ho,by omega,hm⟩
  rintro m r h' ⟨k,ov,oh,acc,rfl,rfl,rfl,hk,ho,O9,hm⟩;(conv=>whnf);refine ⟨fun bo=>?_,fun bo=>?_⟩<;>simp at bo
  ·obtain ⟨u,hu⟩:=aN bo;have EP:=eK u (List.mem_of_getElem? hu);have bZ:=VO E nv cv x u hE hx EP;have tf:=VL E nv cv u;have fH:=Ox hE u;rw [drop_cons hu,nE,sq,gC,<- List.append_assoc,<- List.append_assoc] at hm;obtain ⟨to,gz⟩:∃ to,to=(aU E x u).1:=⟨_,rfl⟩;obtain ⟨is,yi⟩:∃ b,b=(aU E x u).2:=⟨_,rfl⟩;rw [<- gz,<- yi] at bZ hm;rcases ho with ⟨IM,rfl,rfl⟩|⟨q,rfl,rfl⟩
   all_goals
    (conv=>whnf);repeat ((first|refine ix (by assumption) ?_|refine ae.k0 (bZ) ?_|refine ⟨_,_,aK.here _,⟨Nat.le_of_ble_eq_true rfl,rfl⟩,?_⟩|intro (nb:Nat));conv=>whnf)
    refine ⟨fun hq=>?_,fun hq=>?_⟩
    ·have hq:(is&&decide (0<=sg))=true:=hq;rw [if_pos hq] at hm;(conv=>whnf);repeat ((first|refine ⟨af ⟨by omega,by omega⟩,?_⟩|refine ix (by assumption) ?_|refine aX (tf) ?_|(refine ⟨Nat.le_of_ble_eq_true rfl,fun q'=>?_⟩)|(refine ⟨(by rw [List.length_append,List.length_map];simp;unfold aV;omega),fun q'=>⟨_,.here _,?_⟩⟩)|refine And.intro (by show aJ (aH Tryz.f118 _) _=true;decide +kernel) ?_);conv=>whnf)
     refine ⟨_,_,ar.refl _ _,_,(by omega),k+1,_,[(q',.tok)],acc++[⟨i,lO E u+sg,u,to⟩],rfl,rfl,rfl,by omega,.inr ⟨q',?_,rfl⟩,by simp;omega,by rw [List.append_assoc] at hm;exact hm⟩;rw [List.map_append];first|done|rfl|(rw [IM];done)|(rw [IM];rfl)
    have hq:(is&&decide (0<=sg))=false:=hq;rw [if_neg (by rw [hq];decide),List.append_nil,List.append_assoc] at hm;(conv=>whnf);repeat (refine ⟨af ⟨by omega,by omega⟩,?_⟩;conv=>whnf)
    refine ⟨_,_,ar.refl _ _,_,(by omega),k+1,_,_,acc,rfl,rfl,rfl,by omega,?_,by omega,hm⟩;first|exact .inl ⟨IM,rfl,rfl⟩|exact .inr ⟨q,rfl,rfl⟩
  rw [drop_nil bo,nE,List.nil_append] at hm;(conv=>whnf);repeat (refine ⟨af ⟨by omega,by omega⟩,?_⟩;conv=>whnf)
  exact ⟨_,_,ar.refl _ _,_,(by omega),i+1,ov,_,acc,rfl,rfl,rfl,by omega,ho,by omega,hm⟩
 rw [drop_nil aD,mK,List.append_nil] at hm;rw [hm];(conv=>whnf);skip;exact ho.le (by decide)
end Go.Abs.Wall.Spl
namespace Go.Abs.Wall.Spl
open Go Go.Abs Go.Proofs Go.Abs.Wall
open Go.Abs.Wall.Lst hiding al gL lq jg gk da lr kd lu lx ly lz lA ef lB cg lC
def mM (E:Env) (x:br):List Int:=if (eU E x).2=true then [(eU E x).1*16] else []
def cA (E:Env) (rec:br->List Wy) (x:br):List (List Int):=mM E x::(dP E x).map fun m=>(rec m.to).map fun w=>w.cost+(m.cost*16+1)
def ER (E:Env):Nat->br->List Wy
 | 0,x=>aY (cA E (fun _=>[]) x)
 | d+1,x=>aY (cA E (ER E d) x)
def df (E:Env) (x:br):List Wy:=ER E (12 - x.n).toNat x
def ez (E:Env) (x:br):List (List Int):=cA E (df E) x
theorem Ce {E:Env} {x:br} {s:Nat} {u:ao} {m:Mv} (h:m∈sq E x s u):m=⟨s,lO E u+E.B.aB.getD s 0,u,(aU E x u).1⟩/\(aU E x u).2=true/\0<=E.B.aB.getD s 0:=by
 unfold sq at h;split at h
 ·rename_i hc;rw [Bool.and_eq_true,decide_eq_true_eq] at hc;rw [List.mem_singleton] at h;exact ⟨h,hc.1,hc.2⟩
 cases h
theorem Cf {E:Env} {x:br} {s:Nat} {m:Mv}:∀ {us:List ao},m∈nE E x s us->∃ u∈us,m∈sq E x s u
 | [],h=>by cases h
 | u::t,h=>by
   rw [nE,List.mem_append] at h;rcases h with h|h
   ·exact ⟨u,List.mem_cons_self ..,h⟩
   obtain ⟨v,h1,h2⟩:=Cf h;exact ⟨v,List.mem_cons_of_mem _ h1,h2⟩
theorem ES {E:Env} {x:br} {m:Mv}:∀ {rs:List (List ao)} {s:Nat},m∈mK E x s rs->∃ (i:Nat) (us:List ao),rs[i]?=some us/\m∈nE E x (s+i) us
 | [],s,h=>by cases h
 | us::t,s,h=>by
   rw [mK,List.mem_append] at h;rcases h with h|h
   ·exact ⟨0,us,rfl,h⟩
   obtain ⟨i,vs,h1,h2⟩:=ES h;exact ⟨i+1,vs,h1,by rw [show s+(i+1)=s+1+i by omega];exact h2⟩
structure Oz (E:Env) (x:br) (m:Mv):Prop where
 to:gX E m.to
 next:m.to.n=x.n+1
 cost:0<=m.cost/\m.cost<=2000
 sign:0<=m.sign/\m.sign<E.aj.length
theorem uV {E:Env} {x:br} (hE:gO E) (hx:gX E x) {m:Mv} (h:m∈dP E x):Oz E x m:=by
 unfold dP at h;split at h
 ·cases h
 rename_i hn;have IK:=hx.n;obtain ⟨i,us,ba,hm⟩:=ES h;rw [Nat.zero_add] at hm;obtain ⟨u,hu,hm⟩:=Cf hm;obtain ⟨rfl,h1,h2⟩:=Ce hm;have hi:=(List.getElem?_eq_some_iff.1 ba).1;obtain ⟨ho,jh⟩:=vO hE hx (hE.text us (List.mem_of_getElem? ba) u hu) (by omega) h1;have hc:=Ox hE u;have hh:=hE.se;obtain ⟨sg,mL⟩:=aN (l:=E.B.aB) (i:=i) (by omega);have IL:=hE.qd sg (List.mem_of_getElem? mL);have gC:E.B.aB.getD i 0=sg:=xM mL;rw [gC] at h2;refine ⟨ho,jh,⟨?_,?_⟩,?_,?_⟩
 ·show 0<=lO E u+E.B.aB.getD i 0;rw [gC];omega
 ·show lO E u+E.B.aB.getD i 0<=2000;rw [gC];omega
 ·show (0:Int)<=(i:Int);omega
 show (i:Int)<E.aj.length;omega
theorem OA (E:Env) (x:br) (s:Nat):∀ us:List ao,(nE E x s us).length<=us.length
 | []=>Nat.le_refl _
 | u::t=>by have h1:=OA E x s t;have h2:=VR E x s u;rw [nE,List.length_append,List.length_cons];omega
theorem OB {E:Env} {x:br}:∀ (rs:List (List ao)) (s:Nat),(∀ us∈rs,us.length<=200)->(mK E x s rs).length<=200*rs.length
 | [],s,_=>Nat.le_refl _
 | us::t,s,h=>by have h1:=OB (E:=E) (x:=x) t (s+1) fun v hv=>h v (List.mem_cons_of_mem _ hv);have h2:=OA E x s us;have h3:=h us (List.mem_cons_self ..);rw [mK,List.length_append,List.length_cons];omega
theorem OC {E:Env} {x:br} (hE:gO E):(dP E x).length<=40000:=by
 unfold dP;split
 ·simp
 have h1:=OB (E:=E) (x:=x) E.aj 0 hE.row;have h2:=hE.rows;omega
theorem OD {E:Env} {r r':br->List Wy} {x:br} (h:∀ m∈dP E x,r m.to=r' m.to):cA E r x=cA E r' x:=by unfold cA;congr 1;refine List.map_congr_left fun m hm=>?_;rw [h m hm]
theorem sr {E:Env} {x:br} (hE:gO E) (hx:gX E x):df E x=aY (ez E x):=by
 have hn:=hx.n;unfold df ez;by_cases h:x.n=12
 ·rw [show (12 - x.n).toNat=0 by omega,ER];congr 1;refine OD fun m hm=>?_;unfold dP at hm;rw [if_pos h] at hm;cases hm
 obtain ⟨d,hd⟩:∃ d,(12 - x.n).toNat=d+1:=⟨(11 - x.n).toNat,by omega⟩;rw [hd,ER];congr 1;refine OD fun m hm=>?_;have:=(uV hE hx hm).next;unfold df;congr 1;omega
theorem zM (E:Env) (x:br):(ez E x).length=(dP E x).length+1:=by unfold ez cA;simp
theorem uW (E:Env) (x:br):(ez E x)[0]?=some (mM E x):=rfl
theorem zN {E:Env} {x:br} {i:Nat} {m:Mv} (hm:(dP E x)[i]?=some m):(ez E x)[i+1]?=some ((df E m.to).map fun w=>w.cost+(m.cost*16+1)):=by unfold ez cA;rw [List.getElem?_cons_succ,List.getElem?_map,hm];rfl
theorem IP {E:Env} (hE:gO E) (x:br):0<=(eU E x).1/\(eU E x).1<=101000:=by
 have h1:=hE.kj;have h2:=hE.mi;unfold eU;split
 ·exact ⟨by decide,by decide⟩
 split
 ·exact ⟨h1.1,by show E.kj<=101000;omega⟩
 exact ⟨by show 0<=E.kj+E.mi;omega,by show E.kj+E.mi<=101000;omega⟩
theorem IQ {E:Env} (hE:gO E):∀ (d:Nat) (x:br),gX E x->(12 - x.n).toNat=d->∀ w∈df E x,0<=w.cost/\w.cost<=(101000+2000*d)*16+d/\w.cost % 16<=d:=by
 intro d;induction d with
 | zero=>
   intro x hx hd w hw;have hn:=hx.n;rw [sr hE hx] at hw;obtain ⟨t,ht⟩:=List.mem_iff_getElem?.1 hw;obtain ⟨_,l,hl,hc⟩:=iN ht;have jb:(dP E x).length=0:=by unfold dP;rw [if_pos (by omega)];rfl
   have jf:=(List.getElem?_eq_some_iff.1 hl).1;rw [zM,jb] at jf;have he:w.aP=0:=(by omega);rw [he,uW] at hl;cases hl
   have hb:=IP hE x;have gl:=List.mem_of_getElem? hc;unfold mM at gl;split at gl
   ·rw [List.mem_singleton] at gl;rw [gl];omega
   cases gl
 | succ d ih=>
   intro x hx hd w hw;have hn:=hx.n;rw [sr hE hx] at hw;obtain ⟨t,ht⟩:=List.mem_iff_getElem?.1 hw;obtain ⟨_,l,hl,hc⟩:=iN ht;have jf:=(List.getElem?_eq_some_iff.1 hl).1;rw [zM] at jf;have gl:=List.mem_of_getElem? hc;cases he:w.aP with
   | zero=>
     rw [he,uW] at hl;cases hl
     have hb:=IP hE x;unfold mM at gl;split at gl
     ·rw [List.mem_singleton] at gl;rw [gl];omega
     cases gl
   | succ i=>
     obtain ⟨m,hm⟩:=aN (l:=dP E x) (i:=i) (by omega);rw [he,zN hm] at hl;cases hl
     have bS:=uV hE hx (List.mem_of_getElem? hm);obtain ⟨v,hv,VT⟩:=List.mem_map.1 gl;have bZ:=bS.next;obtain ⟨b1,b2,b3⟩:=ih m.to bS.to (by omega) v hv;have IS:=bS.cost;have P0:d+1<=12:=(by omega);rw [<- VT];omega
structure zO (cls:List (List Int)) (t:Nat) (due:Bool) (Q:List Wy):Prop where
 ok:np cls t due Q
 bE:Q.length+(if due=true then 1 else 0)<=60000
 asked:t<=65
def iC (E:Env) (x:br):AV:=.sl 8 none ((dP E x).map uT)
def zP (E:Env) (x:br) (k:Nat) (hp:ab):Prop:=∃ t due Q fv fh ov oh,zO (ez E x) t due Q/\Out 4 al ((aY (ez E x)).take t) fv fh/\ef Q ov oh/\hp=(k,.vec (cg (iC E x) fv ov due))::(fh++oh)
abbrev fI:=List (br × Nat)
inductive mN (E:Env) (d:Int):fI->ab->Prop
 | nil:mN E d [] []
 | skip {x:br} {k:Nat} {es:fI} {hp:ab}:x.n≠d->mN E d es hp->mN E d ((x,k)::es) hp
 | cons {x:br} {k:Nat} {es:fI} {h1 hp:ab}:x.n=d->zP E x k h1->mN E d es hp->mN E d ((x,k)::es) (h1++hp)
inductive dQ (E:Env):Nat->Int->fI->ab->Prop
 | done {d:Int} {es:fI}:12<d->dQ E 0 d es []
 | step {c:Nat} {d:Int} {es:fI} {hA hB:ab}:mN E d es hA->dQ E c (d+1) es hB->dQ E (c+1) d es (hA++hB)
theorem mN.more {E:Env} {d:Int}:∀ {es:fI} {hp:ab} {ext:fI},mN E d es hp->(∀ p∈ext,p.1.n≠d)->mN E d (es++ext) hp
 | _,_,[],h,_=>by rw [List.append_nil];exact h
 | _,_,(x,k)::ext,.nil,he=>.skip (he _ (List.mem_cons_self ..)) (mN.more (es:=[]) .nil fun p hp=>he p (List.mem_cons_of_mem _ hp))
 | _,_,y::ext,.skip h1 h2,he=>.skip h1 (h2.more he)
 | _,_,y::ext,.cons h1 h2 h3,he=>.cons h1 h2 (h3.more he)
theorem mN.snoc {E:Env} {d:Int} {x:br} {k:Nat} (hx:x.n=d) {h1:ab} (hn:zP E x k h1):∀ {es:fI} {hp:ab},mN E d es hp->mN E d (es++[(x,k)]) (hp++h1)
 | _,_,.nil=>by have:=mN.cons hx hn .nil (E:=E);rwa [List.append_nil] at this
 | _,_,.skip h2 h3=>.skip h2 (h3.snoc hx hn)
 | _,_,.cons h2 h3 h4=>by rw [List.append_assoc];exact .cons h2 h3 (h4.snoc hx hn)
theorem mN.pick {E:Env} {d:Int} {x:br} {k:Nat} (hx:x.n=d):∀ {es:fI} {hp:ab},mN E d es hp->dF x es=some k->∃ hA h1 hB,hp=hA++(h1++hB)/\zP E x k h1/\∀ nX,zP E x k nX->mN E d es (hA++(nX++hB))
 | _,_,.nil,h=>by cases h
 | _,_,.skip (x:=y) (k:=j) h2 h3,h=>by have aI:x≠y:=fun e=>h2 (by rw [<- e];exact hx);rw [dF,if_neg aI] at h;obtain ⟨hA,h1,hB,e,n,f⟩:=h3.pick hx h;exact ⟨hA,h1,hB,e,n,fun nX hn=>.skip h2 (f nX hn)⟩
 | _,_,.cons (x:=y) (k:=j) (h1:=g) h2 h3 h4,h=>by
   unfold dF at h;split at h
   ·rename_i e;cases h
    subst e;refine ⟨[],g,_,rfl,h3,fun nX hn=>?_⟩;rw [List.nil_append];exact .cons h2 hn h4
   obtain ⟨hA,h1,hB,e,n,f⟩:=h4.pick hx h;refine ⟨g++hA,h1,hB,by rw [e,List.append_assoc],n,fun nX hn=>?_⟩;rw [List.append_assoc];exact .cons h2 h3 (f nX hn)
theorem ET {κ ν:Type} [DecidableEq κ] {k:κ} {es ext:List (κ × ν)}:dF k (es++ext)=match dF k es with
  | some v=>some v
  | none=>dF k ext:=by
 induction es with
 | nil=>rfl
 | cons p t ih=>
   obtain ⟨x,v⟩:=p
   show (if k=x then some v else dF k (t++ext))=match (if k=x then some v else dF k t) with
    | some v=>some v
    | none=>dF k ext
   by_cases h:k=x
   ·rw [if_pos h,if_pos h]
   rw [if_neg h,if_neg h];exact ih
theorem OE {κ ν:Type} [DecidableEq κ] {k:κ} {v:ν}:∀ {es:List (κ × ν)},dF k es=none->wx k v es=es++[(k,v)]
 | [],_=>rfl
 | (x,u)::t,h=>by
   unfold dF at h;split at h
   ·cases h
   rename_i aI;unfold wx;rw [if_neg (by first|exact aI|exact fun e=>aI e.symm),OE h];rfl
end Go.Abs.Wall.Spl
namespace Go.Abs.Wall.Spl
open Go Go.Abs Go.Proofs Go.Abs.Wall
open Go.Abs.Wall.Lst hiding al gL lq jg gk da lr kd lu lx ly lz lA ef lB cg lC
def EU (E:Env):Nat->br->Wy->List Mv
 | 0,_,_=>[]
 | d+1,x,w=>match w.aP with
   | 0=>[]
   | i+1=>match (dP E x)[i]? with
     | none=>[]
     | some m=>match (df E m.to)[w.aO]? with
       | none=>[]
       | some w'=>m::EU E d m.to w'
def kH (E:Env) (x:br) (w:Wy):List Mv:=EU E (13 - x.n).toNat x w
theorem Cg {E:Env} {x:br} (hE:gO E) (hx:gX E x) {ρ:Nat} {w:Wy} (hw:(df E x)[ρ]?=some w) (he:w.aP=0):kH E x w=[]/\w.cost=(eU E x).1*16/\(eU E x).2=true:=by
 have hn:=hx.n;refine ⟨?_,?_⟩
 ·unfold kH;obtain ⟨d,hd⟩:∃ d,(13 - x.n).toNat=d+1:=⟨(12 - x.n).toNat,by omega⟩;rw [hd,EU,he]
 rw [sr hE hx] at hw;obtain ⟨_,l,h2,h3⟩:=iN hw;rw [he,uW] at h2;cases h2
 unfold mM at h3;split at h3
 ·rename_i hq;have:=List.mem_of_getElem? h3;rw [List.mem_singleton] at this;exact ⟨this,hq⟩
 cases h3
theorem pe {E:Env} {x:br} (hE:gO E) (hx:gX E x) {ρ:Nat} {w:Wy} (hw:(df E x)[ρ]?=some w) (he:w.aP≠0) :
  ∃ m w',(dP E x)[w.aP - 1]?=some m/\Oz E x m/\(df E m.to)[w.aO]?=some w'/\kH E x w=m::kH E m.to w'/\w.cost=w'.cost+(m.cost*16+1)/\w.aO<=ρ:=by
 have hn:=hx.n;rw [sr hE hx] at hw;have um:=Bs hw;obtain ⟨_,l,h2,h3⟩:=iN hw;have aL:=(List.getElem?_eq_some_iff.1 h2).1;rw [zM] at aL;obtain ⟨m,hm⟩:=aN (l:=dP E x) (i:=w.aP - 1) (by omega);have bS:=uV hE hx (List.mem_of_getElem? hm);have bZ:=bS.next;have bw:=zN hm;rw [show w.aP - 1+1=w.aP by omega] at bw;rw [bw] at h2;cases h2
 rw [List.getElem?_map] at h3;cases hq:(df E m.to)[w.aO]? with
 | none=>rw [hq] at h3;cases h3
 | some w'=>
   rw [hq] at h3;refine ⟨m,w',hm,bS,hq,?_,(Option.some.inj h3).symm,um⟩;unfold kH;have P1:=bS.to.n;obtain ⟨d,hd⟩:∃ d,(13 - x.n).toNat=d+1:=⟨(12 - x.n).toNat,by omega⟩;rw [hd,show (13 - m.to.n).toNat=d by omega];obtain ⟨i,hi⟩:∃ i,w.aP=i+1:=⟨w.aP - 1,by omega⟩;rw [EU,hi];rw [hi] at hm;simp only [Nat.add_sub_cancel] at hm;simp only [hm,hq]
end Go.Abs.Wall.Spl
