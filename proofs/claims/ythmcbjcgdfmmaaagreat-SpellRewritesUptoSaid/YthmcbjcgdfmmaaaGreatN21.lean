/- Small laws for the walks and contracts of functions; each theorem names its conditions. -/
import Derived.Test.YthmcbjcgdfmmaaaGreatN14
import Derived.Test.YthmcbjcgdfmmaaaGreatN6
import Derived.Test.YthmcbjcgdfmmaaaGreatN11
set_option maxRecDepth 100000
set_option maxHeartbeats 2000000
namespace Go.Abs.Wall.Spl
open Go Go.Abs Go.Proofs Go.Abs.Wall
open Go.Abs.Wall.Lst hiding al iW nG kQ ij dA nH lY nI nJ nK nL nM fj nO cm nP
def al (w:Wy):List AV:=[.int .i64 (w.cost / 16),.int .i64 (w.cost % 16),.int .i64 ((w.aR:Int) - 1),.int .i64 w.aO]
def iW (x y:Wy):Int:=gV [ct (x.cost / 16) (y.cost / 16),ct (x.cost % 16) (y.cost % 16),ct ((x.aR:Int) - 1) ((y.aR:Int) - 1)]
theorem nG {x y:Wy}:iW x y<0↔dy x y:=by
 unfold iW gV gV gV gV ct dy;repeat' split
 all_goals first|omega|(simp at *;omega)
def c99:av:=⟨[0,1,2,3,4],[],[],[],[(1,[0,1,2,3,4,5,6,7,8,9,10,11,12,13,14,15,16,17,18,19,20,21],[])],[]⟩
theorem kQ (x y:Wy):ab Tryz.prog 99 [.agg (al x),.agg (al y)] [] (.int .i64 (iW x y)):=by
 refine aA (F:=Tryz.f99) c99 rfl rfl rfl mixed rfl fun X=>?_;(conv=>whnf);repeat ((first|refine aY (Co _ _) ?_|refine aY (Fs [ct (x.cost / 16) (y.cost / 16),ct (x.cost % 16) (y.cost % 16),ct ((x.aR:Int) - 1) ((y.aR:Int) - 1)] (by simp [aq])) ?_|refine And.intro (by show aJ (aH Tryz.f99 _) _=true;decide +kernel) ?_);conv=>whnf)
 exact ⟨rfl,rfl⟩
def ij (x:Wy) (Q:List Wy):Bool:=match Q[da x Q]? with
 | none=>false
 | some y=>decide (iW y x=0)
theorem dA (w:Wy):(al w).length=4:=rfl
theorem nH {x:Wy} {Q:List Wy} (hs:Q.Pairwise dy) {j:Nat} {y:Wy} (hy:Q[j]?=some y):iW y x<0↔j<da x Q:=by
 rw [nG];constructor
 ·intro h;by_cases hj:j<da x Q
  ·exact hj
  exact absurd h (Fo hs (by omega) hy)
 intro h;exact Fm h hy
def c144:av:=⟨[0,1,2,4,6,7,8,9,10,11,17,31],[],[],[],[(5,[0,1,2,3,4,5,6,7],[]),(8,[0,1,2,3,4,5,6,7,8,9,10,11,12,13,14,15],[])],[]⟩
theorem lY (w:Wy):ab Tryz.prog 144 [.sl 4 none [],.agg (al w),.fn 99 []] [] (.aB [.int .i64 (da w []),.bool (ij w [])]):=by
 refine aA (F:=Tryz.f144) c144 rfl rfl rfl mixed rfl fun X=>?_;(conv=>whnf);refine yz 60 rfl mixed ?_;(conv=>whnf);refine .inr ?_;(conv=>whnf);refine cF rfl ?_;(conv=>whnf);repeat ((first|(refine ⟨0,[.int .i64 0,.int .i64 0,.int .i64 0,.int .i64 0],?_,?_⟩;(focus (conv=>whnf;skip));(focus (intro hq;exact absurd hq (by decide))))|(refine ⟨.int .i64 0,?_,?_⟩;(focus (conv=>whnf;skip));(focus (intro hq;exact absurd hq (by decide))))|refine And.intro (by show aJ (aH Tryz.f144 _) _=true;decide +kernel) ?_);conv=>whnf)
 exact ⟨rfl,rfl⟩
theorem nI (x:Wy) (Q:List Wy) (hs:Q.Pairwise dy) (b:Nat) (pre:List AV) (hl:Q.length<=4294967296) :
  ab Tryz.prog 144 [.aQ b pre.length Q.length 4,.agg (al x),.fn 99 []] [(b,.vec (pre++(Q.map al).flatten))] (.aB [.int .i64 (da x Q),.bool (ij x Q)]):=by
 have UI:=Au x Q;by_cases aM:0<Q.length
 rotate_left
 ·have hq:Q=[]:=List.eq_nil_of_length_eq_zero (by omega);subst hq;exact ab.args (ab.wide (lY x) _) (.cons aa.NM (.cons (aa.refl _) (.cons (aa.refl _) .nil)))
 refine aA (F:=Tryz.f144) c144 rfl rfl rfl mixed rfl fun X=>?_;(conv=>whnf);skip;refine bS rfl mixed [0,2,4,8,9,10] [] (fun m r h=>∃ (i j:Nat),r=[(0,[],.aQ b pre.length Q.length 4),(2,[],.fn 99 []),(4,[],.ai (al x)),(8,[],.int .i64 Q.length),(9,[],.int .i64 i),(10,[],.int .i64 j)]/\h=[(b,.vec (pre++(Q.map al).flatten))]/\m=j - i/\i<=da x Q/\da x Q<=j/\j<=Q.length) ?_ ?_
 ·(conv=>whnf);exact ⟨_,0,Q.length,rfl,rfl,rfl,by omega,by omega,by omega⟩
 rintro m r h ⟨i,j,rfl,rfl,rfl,hi,hj,gb⟩;(conv=>whnf);refine ⟨fun hz=>?_,fun hz=>?_⟩<;>simp at hz
 ·have Iz:((i:Int)+(j:Int)) / 2=(((i+j) / 2:Nat):Int):=(by omega);obtain ⟨y,hy⟩:=aF (l:=Q) (i:=(i+j) / 2) (by omega);have fL:=nH (x:=x) hs hy;have hw:IntKind.u64.wrap ((i:Int)+(j:Int))=(i:Int)+(j:Int):=by simp [IntKind.wrap,IntKind.signed,IntKind.bits];omega
  (conv=>whnf);repeat (refine ⟨ag ⟨by omega,by omega⟩,?_⟩;conv=>whnf)
  rw [hw];refine ⟨ag ⟨⟨rfl,rfl⟩,by omega,by omega⟩,?_⟩;rw [Iz];(conv=>whnf);repeat ((first|refine ⟨ag ⟨by omega,by omega⟩,?_⟩|(refine ⟨(i+j) / 2,ag ⟨rfl,by omega⟩,?_⟩)|(refine oN dA (.head _) rfl hy ?_)|refine aY (kQ y x) ?_|refine And.intro (by show aJ (aH Tryz.f144 _) _=true;decide +kernel) ?_);conv=>whnf)
  refine ⟨fun hc=>?_,fun hc=>?_⟩<;>simp at hc
  ·(conv=>whnf);repeat (refine ⟨ag ⟨by omega,by omega⟩,?_⟩;conv=>whnf)
   exact ⟨_,by omega,(i+j) / 2+1,j,rfl,rfl,rfl,by have:=fL.1 hc;omega,hj,gb⟩
  (conv=>whnf);skip;exact ⟨_,by omega,i,(i+j) / 2,rfl,rfl,rfl,hi,by have:=mt fL.2 (by omega);omega,by omega⟩
 have bw:i=da x Q:=(by omega);subst bw;by_cases aP:da x Q<Q.length
 ·obtain ⟨y,hy⟩:=aF (l:=Q) (i:=da x Q) aP;(conv=>whnf);repeat ((first|(refine ⟨da x Q,ag ⟨rfl,by omega⟩,?_⟩)|(refine oN dA (.head _) rfl hy ?_)|refine aY (kQ y x) ?_|refine And.intro (by show aJ (aH Tryz.f144 _) _=true;decide +kernel) ?_);conv=>whnf)
  refine ⟨?_,rfl⟩;unfold ij;rw [hy];simp [aP]
 have hn:Q[da x Q]?=none:=List.getElem?_eq_none (by omega);obtain ⟨y,hy⟩:=aF (l:=Q) (i:=0) aM;have IA:decide (((da x Q:Nat):Int)<(Q.length:Int))=false:=by simp;omega
 (conv=>whnf);repeat (refine And.intro (by show aJ (aH Tryz.f144 _) _=true;decide +kernel) ?_;conv=>whnf)
 rw [IA];repeat ((first|(refine ⟨0,(fun hq=>by cases hq),?_⟩)|(refine oN (i:=0) dA (.head _) rfl hy ?_)|refine aY (kQ y x) ?_);conv=>whnf)
 refine ⟨?_,rfl⟩;unfold ij;rw [hn];rfl
def c145:av:=⟨[0,1,2,6,7,8,9,16,22,31,68],[],[],[],[(11,[0,1,2,3,4,5,6,7,8],[]),(15,[0,1,2,3,4,5,6,7,8],[])],[]⟩
theorem nJ (x:Wy) (vb:Nat):aw Tryz.prog 145 [.aS,.int .i64 0,.aQ vb 0 1 4] [(vb,.vec (al x))] (fun v h'=>∃ q,v=.aQ q 0 1 4/\h'=[(q,.vec (al x)),(vb,.vec (al x))]):=by
 refine aA (F:=Tryz.f145) c145 rfl rfl rfl mixed rfl fun X=>?_;(conv=>whnf);repeat (refine ⟨ag ⟨by omega,by omega⟩,?_⟩;conv=>whnf)
 refine cF rfl ?_;(conv=>whnf);skip;refine cT rfl ?_;(conv=>whnf);repeat ((refine ⟨_,[al x],.head _,⟨rfl,by simp [al],rfl⟩,⟨Nat.le_of_ble_eq_true rfl,Nat.le_of_ble_eq_true rfl⟩,fun q=>?_⟩);conv=>whnf)
 exact ⟨q,rfl,rfl⟩
theorem nK:Extern.find Tryz.f188=some (Extern.SlicesOverlaps.overlaps #[150,150] #[4]):=by kernel_rfl
def nL (x:Wy) (Q:List Wy) (i vb:Nat) (v:AV) (h':af):Prop:=∃ b' fB,aa v (.aQ b' fB.length (Q.length+1) 4)/\∃ h2,h'.Perm ((b',.vec (fB++((Q.take i++x::Q.drop i).map al).flatten))::h2)
theorem nM (x:Wy) (Q:List Wy) (i:Nat) (hi:i<=Q.length) (b vb off c:Nat) (pre cs:List AV) (bT:cs=pre++(Q.map al).flatten) (ho:0<c->off=pre.length) (hc:Q.length<=c) (hl:Q.length<=65536) (aM:vb≠b) :
  aw Tryz.prog 145 [.eO b off Q.length c 4,.int .i64 i,.aQ vb 0 1 4] [(b,.vec cs),(vb,.vec (al x))] (nL x Q i vb):=by
 have bq:cs.length=pre.length+Q.length*4:=(by rw [bT,List.length_append,nC dA]);refine aA (F:=Tryz.f145) c145 rfl rfl rfl mixed rfl fun X=>?_;(conv=>whnf);repeat (refine ⟨ag ⟨by omega,by omega⟩,?_⟩;conv=>whnf)
 refine cF rfl ?_;(conv=>whnf);skip;refine ⟨fun he=>?_,fun he=>?_⟩<;>simp at he
 ·have he:i=Q.length:=(by omega);subst he;have cY:((Q.take Q.length++x::Q.drop Q.length).map al).flatten=(Q.map al).flatten++[al x].flatten:=by rw [List.take_length,List.drop_length,List.map_append,List.flatten_append];rfl
  by_cases jI:Q.length+1<=c
  ·have:=ho (by omega);subst this;(conv=>whnf);repeat ((refine ⟨_,[al x],.tail _ (.head _),⟨rfl,by simp [al],rfl⟩,by unfold aN;omega,cs,.head _,.inl ⟨jI,bq,_,.here _,?_⟩⟩);conv=>whnf)
   refine ⟨b,pre,aa.eO,[(vb,.vec (al x))],?_⟩;rw [bT,cY,<- List.append_assoc]
  have Cq:Q.length=0\/off+Q.length*4<=cs.length:=by
   by_cases h0:Q.length=0
   ·exact .inl h0
   have:=ho (by omega);exact .inr (by omega)
  have cd:(cs.drop off).take (Q.length*4)=(Q.map al).flatten:=by
   by_cases h0:Q.length=0
   ·have:Q=[]:=List.eq_nil_of_length_eq_zero h0;subst this;simp
   have:=ho (by omega);rw [bT,this,List.drop_left,List.take_of_length_le (by rw [nC dA];exact Nat.le_refl _)]
  (conv=>whnf);repeat ((refine ⟨_,[al x],.tail _ (.head _),⟨rfl,by simp [al],rfl⟩,by unfold aN;omega,cs,.head _,.inr ⟨by omega,Cq,fun q=>?_⟩⟩);conv=>whnf)
  refine ⟨q,[],aa.refl _,[(b,.vec cs),(vb,.vec (al x))],?_⟩;rw [cd,cY];exact .refl _
 have cH:i<Q.length:=(by omega);have sG:=ho (by omega);subst sG;have z1:(i:Int).toNat - Int.toNat 0=i:=(by simp);have z2:c - Int.toNat 0=c:=(by simp);have z3:pn pre.length (Int.toNat 0) c 4=pre.length:=by unfold pn;split<;>simp
 have z4:(Q.length:Int)+((1:Nat):Int) - (i:Int)=((Q.length+1 - i:Nat):Int):=(by omega);have z5:pn pre.length (i:Int).toNat c 4=pre.length+i*4:=by unfold pn;rw [if_neg (by simp;omega)];simp
 have Cr:cs.drop pre.length=(Q.map al).flatten:=(by rw [bT,List.drop_left]);have Cs:cs.drop (pre.length+i*4)=((Q.drop i).map al).flatten:=(by rw [bT,List.drop_append,List.drop_eq_nil_of_le (by omega),List.nil_append,Nat.add_sub_cancel_left,yu dA]);(conv=>whnf);repeat (refine ⟨ag ⟨by omega,by omega⟩,?_⟩;conv=>whnf)
 refine ⟨fun hz=>?_,fun hz=>?_⟩<;>simp at hz
 ·(conv=>whnf);repeat (refine ⟨ag ⟨by omega,by omega⟩,?_⟩;conv=>whnf)
  rw [z1,z2,z3,z4];refine ⟨cs,.head _,⟨by omega,by omega,by omega,by omega⟩,fun q=>?_⟩;rw [Cr,Ft dA,Int.toNat_natCast,show i+(Q.length+1 - i)=Q.length+1 by omega];(conv=>whnf);repeat (refine ⟨ag ⟨by omega,by omega⟩,?_⟩;conv=>whnf)
  have m1:min 1 (((Q.length+1:Nat):Int).toNat - (i:Int).toNat)=1:=by rw [Int.toNat_natCast,Int.toNat_natCast];omega
  have m2:0+(i:Int).toNat*4=i*4:=(by simp);have fH:((Q.take i).map al).flatten.length=i*4:=by rw [nC dA,List.length_take];omega
  have qz:((Q.drop i).map al).flatten.length=(Q.length - i)*4:=(by rw [nC dA,List.length_drop]);have nN:(gS (Q.length+1 - i) [AV.int .i64 0,AV.int .i64 0,AV.int .i64 0,AV.int .i64 0]).length=(Q.length+1 - i)*4:=by unfold gS;simp
  rw [m1,m2];refine ⟨_,[al x],.tail _ (.tail _ (.head _)),⟨rfl,by simp [al],rfl⟩,_,_,.here _,⟨by omega,?_⟩,?_⟩
  ·rw [List.length_append,fH,nN];show i*4+4<=_;omega
  (conv=>whnf);repeat ((first|refine ⟨ag ⟨by omega,by omega⟩,?_⟩|refine And.intro (by show aJ (aH Tryz.f145 _) _=true;decide +kernel) ?_);conv=>whnf)
  have m3:min ((Q.length:Int).toNat - (i:Int).toNat) (((Q.length+1:Nat):Int).toNat - ((i:Int)+((1:Nat):Int)).toNat)=Q.length - i:=by rw [show (i:Int)+((1:Nat):Int)=((i+1:Nat):Int) by omega];simp only [Int.toNat_natCast];omega
  have m4:0+((i:Int)+((1:Nat):Int)).toNat*4=(i+1)*4:=(by rw [show (i:Int)+((1:Nat):Int)=((i+1:Nat):Int) by omega,Int.toNat_natCast,Nat.zero_add]);rw [m3,m4,z5];have IC:=NQ (A:=((Q.take i).map al).flatten) (B:=gS (Q.length+1 - i) [AV.int .i64 0,AV.int .i64 0,AV.int .i64 0,AV.int .i64 0]) (X:=al x) (D:=((Q.drop i).map al).flatten) (n:=i*4) (m:=(i+1)*4) fH.symm (by rw [fH];show _=i*4+4;omega) (by rw [nN,qz];show _=4+_;omega);refine ⟨cs,(Q.drop i).map al,.tail _ (.head _),⟨?_,?_,by simp⟩,_,_,.here _,⟨by omega,?_⟩,?_⟩
  ·rw [Cs,List.take_of_length_le (by rw [qz];exact Nat.le_refl _)]
  ·intro z hz;obtain ⟨w,_,rfl⟩:=List.mem_map.1 hz;rfl
  ·have h1:(dn (((Q.take i).map al).flatten++gS (Q.length+1 - i) [AV.int .i64 0,AV.int .i64 0,AV.int .i64 0,AV.int .i64 0]) (i*4) [al x].flatten).length=(Q.length+1)*4:=by
    rw [ID _ _ _ (by rw [List.length_append,fH,nN];show i*4+4<=_;omega),List.length_append,fH,nN];omega
   rw [h1,qz];omega
  (conv=>whnf);skip;refine ⟨q,[],aa.refl _,[(b,.vec cs),(vb,.vec (al x))],?_⟩;rw [show [al x].flatten=al x from by simp,IC,List.map_append,List.flatten_append];exact .refl _
 (conv=>whnf);repeat (refine ⟨ag ⟨by omega,by omega⟩,?_⟩;conv=>whnf)
 rw [z2,z3];have z7:pn pre.length ((i:Int)+((1:Nat):Int)).toNat c 4=pre.length+(i+1)*4:=by rw [show (i:Int)+((1:Nat):Int)=((i+1:Nat):Int) by omega,Int.toNat_natCast];unfold pn;rw [if_neg (by omega)]
 have z9:((Q.length:Int)+((1:Nat):Int)).toNat - Int.toNat 0=Q.length+1:=by rw [show (Q.length:Int)+((1:Nat):Int)=((Q.length+1:Nat):Int) by omega];simp
 have z8:(((Q.length+1:Nat):Int)).toNat - ((i:Int)+((1:Nat):Int)).toNat=Q.length - i:=by rw [show (i:Int)+((1:Nat):Int)=((i+1:Nat):Int) by omega,Int.toNat_natCast,Int.toNat_natCast];omega
 rw [z7,z9,z8];refine NN (fn:=Tryz.f188) rfl rfl rfl (by kernel_rfl) nK rfl (by decide) (.tail _ (.head _)) (.head _) aM (by omega) (by omega) ?_;(conv=>whnf);skip;refine cT rfl ?_;(conv=>whnf);repeat ((first|refine ⟨ag ⟨by omega,by omega⟩,?_⟩|refine And.intro (by show aJ (aH Tryz.f145 _) _=true;decide +kernel) ?_);conv=>whnf)
 have fH:((Q.take i).map al).flatten.length=i*4:=by rw [nC dA,List.length_take];omega
 have qz:((Q.drop i).map al).flatten.length=(Q.length - i)*4:=(by rw [nC dA,List.length_drop]);have m3:min (((Q.length+1:Nat):Int).toNat - (i:Int).toNat) (((Q.length+1:Nat):Int).toNat - ((i:Int)+((1:Nat):Int)).toNat)=Q.length - i:=by rw [show (i:Int)+((1:Nat):Int)=((i+1:Nat):Int) by omega];simp only [Int.toNat_natCast];omega
 have IE:cs=(pre++((Q.take i).map al).flatten)++((Q.drop i).map al).flatten:=(by rw [bT,List.append_assoc,<- List.flatten_append,<- List.map_append,List.take_append_drop]);have il:(pre++((Q.take i).map al).flatten).length=pre.length+i*4:=(by rw [List.length_append,fH]);have yF:=NR (A:=pre++((Q.take i).map al).flatten) (X:=al x) (D:=((Q.drop i).map al).flatten) (n:=pre.length+i*4) (m:=pre.length+(i+1)*4) il.symm (by rw [il];show _=_+4;omega) (by rw [qz];show 4<=_;omega);rw [<- IE] at yF;rw [m3,z5,z7];refine ⟨cs,(Q.drop i).map al,.head _,⟨?_,?_,by simp⟩,_,_,.here _,⟨by omega,by omega⟩,?_⟩
 ·rw [Cs,List.take_of_length_le (by rw [qz];exact Nat.le_refl _)]
 ·intro z hz;obtain ⟨w,_,rfl⟩:=List.mem_map.1 hz;rfl
 (conv=>whnf);repeat (refine ⟨ag ⟨by omega,by omega⟩,?_⟩;conv=>whnf)
 have m1:min 1 (((Q.length+1:Nat):Int).toNat - (i:Int).toNat)=1:=by rw [Int.toNat_natCast,Int.toNat_natCast];omega
 rw [m1,z5];refine ⟨_,[al x],.tail _ (.head _),⟨rfl,by simp [al],rfl⟩,_,_,.here _,⟨by omega,?_⟩,?_⟩
 ·unfold dn;simp only [List.length_append,List.length_take,List.length_drop];omega
 (conv=>whnf);skip;refine ⟨b,pre,aa.eO,[(vb,.vec (al x))],?_⟩;rw [show [al x].flatten=al x from by simp,yF,show pre++((Q.take i++x::Q.drop i).map al).flatten=(pre++((Q.take i).map al).flatten)++(al x++((Q.drop i).map al).flatten) from by simp [List.append_assoc]]
def fj (Q:List Wy) (ov:AV) (oh:af):Prop:=(Q=[]/\ov=.aS/\oh=[])\/∃ b pre,ov=.aQ b pre.length Q.length 4/\oh=[(b,.vec (pre++(Q.map al).flatten))]
theorem nO (x:Wy) (Q:List Wy) (b vb:Nat) (pre:List AV) (hl:Q.length<=65536) :
  aw Tryz.prog 145 [.aQ b pre.length Q.length 4,.int .i64 (da x Q),.aQ vb 0 1 4] [(b,.vec (pre++(Q.map al).flatten)),(vb,.vec (al x))]
   (fun v h'=>∃ b' fB,v=.aQ b' fB.length (Q.length+1) 4/\h'=[(b',.vec (fB++((iF x Q).map al).flatten))]):=by
 by_cases aM:vb=b
 ·subst aM;refine ⟨fun X g w us hc hr=>?_⟩;have:=hc.nodup;simp [keys] at this
 refine aw.post (aw.NP fun Av c ho hc=>nM x Q (da x Q) (Au x Q) b vb Av c pre _ rfl ho hc hl aM) ?_;rintro v h1 ⟨b',fB,hv,h2,hp⟩;refine ⟨_,_,⟨b',fB,rfl,rfl⟩,hv,fun k o hm=>hp.mem_iff.2 (by cases List.mem_singleton.1 hm;exact List.mem_cons_self),fun _=>by simp [keys]⟩
def cm (mv fv ov:AV) (due:Bool):List AV:=[mv,fv,ov,.fn 99 [],.bool due]
def c98:av:=⟨[0,1,3,4],[26],[],[],[(1,[0,1,2,3,4,5,6,7,8,9,10,11,12,13,14],[]),(2,[0,1,2,3,4,5,6,7,8,9,10,11],[])],[26,27]⟩
theorem nP (x:Wy) (Q:List Wy) (hs:Q.Pairwise dy) (nk:Nat) (mv fv:AV) (due:Bool) (ov:AV) (oh:af) (ho:fj Q ov oh) (hl:Q.length<=65536) :
  aw Tryz.prog 98 [.ba nk 2,.agg (al x)] ((nk,.vec (cm mv fv ov due))::oh)
   (fun v h'=>v=.aB []/\∃ iH iI,fj (iF x Q) iH iI/\h'=(nk,.vec (cm mv fv iH due))::iI):=by
 have jk:=wL x Q;refine aw.post (R:=fun v h'=>v=.aB []/\∃ iH iI g,fj (iF x Q) iH iI/\h'.Perm ((nk,.vec (cm mv fv iH due))::(iI++g))) ?_ ?_
 ·rcases ho with ⟨rfl,rfl,rfl⟩|⟨b,pre,rfl,rfl⟩
  ·have mH:ab Tryz.prog 144 [.aS,.agg (al x),.fn 99 []] [] (.aB [.int .i64 (da x []),.bool (ij x [])]):=
    ab.args (lY x) (.cons (aa.nil (by decide)) (cu.refl _))
   refine aA (F:=Tryz.f98) c98 rfl rfl rfl mixed rfl fun X=>?_;(conv=>whnf);repeat ((first|refine aY (mH) ?_|refine ⟨_,_,.head _,rfl,?_⟩|refine And.intro (by show aJ (aH Tryz.f98 _) _=true;decide +kernel) ?_|intro (nb:Nat));conv=>whnf)
   refine aw.mono ?_ (aw.frame (nJ x nb) _);rintro v h1 ⟨h2,⟨q,rfl,rfl⟩,rfl⟩;(conv=>whnf);repeat ((refine ⟨_,_,.there (.there (.here _)),aI,?_⟩);conv=>whnf)
   exact ⟨rfl,.aQ q 0 1 4,[(q,.vec (al x))],[(nb,.vec (al x))],.inr ⟨q,[],rfl,rfl⟩,List.perm_append_comm (l₁:=[(q,_),(nb,_)]) (l₂:=[(nk,_)])⟩
  have mH:ab Tryz.prog 144 [.aQ b pre.length Q.length 4,.agg (al x),.fn 99 []] [(nk,.vec (cm mv fv (.aQ b pre.length Q.length 4) due)),(b,.vec (pre++(Q.map al).flatten))] (.aB [.int .i64 (da x Q),.bool (ij x Q)]):=
   ab.perm (h2:=[(nk,.vec (cm mv fv (.aQ b pre.length Q.length 4) due))]) (nI x Q hs b pre (by omega)) (List.perm_append_comm (l₁:=[_]) (l₂:=[_]))
  refine aA (F:=Tryz.f98) c98 rfl rfl rfl mixed rfl fun X=>?_;(conv=>whnf);repeat ((first|(refine Fu mH ?_)|refine ⟨_,_,.head _,rfl,?_⟩|refine And.intro (by show aJ (aH Tryz.f98 _) _=true;decide +kernel) ?_|intro (nb:Nat));conv=>whnf)
  refine aw.mono (R:=fun v h1=>∃ b' fB g,v=.aQ b' fB.length (Q.length+1) 4/\h1=(b',.vec (fB++((iF x Q).map al).flatten))::(nk,.vec (cm mv fv (.aQ b pre.length Q.length 4) due))::g) ?_ (aw.re (nO x Q b nb pre hl) (h2:=[(nk,.vec (cm mv fv (.aQ b pre.length Q.length 4) due))]) ?_ ?_)
  ·rintro v h1 ⟨b',fB,g,rfl,rfl⟩;(conv=>whnf);repeat ((refine ⟨_,_,.there (.here _),aI,?_⟩);conv=>whnf)
   exact ⟨rfl,.aQ b' fB.length (Q.length+1) 4,[(b',.vec (fB++((iF x Q).map al).flatten))],g,.inr ⟨b',fB,by rw [jk],rfl⟩,List.Perm.swap _ _ _⟩
  ·exact (List.Perm.swap _ _ _).trans (List.Perm.cons _ (List.Perm.swap _ _ _))
  rintro v h1 ⟨b',fB,rfl,rfl⟩;exact ⟨_,.refl _,b',fB,[],rfl,rfl⟩
 rintro v h1 ⟨rfl,iH,iI,g,bF,hp⟩;refine ⟨_,_,⟨rfl,iH,iI,bF,rfl⟩,aa.refl _,fun k o hm=>hp.mem_iff.2 ?_,fun hn=>?_⟩
 ·rcases List.mem_cons.1 hm with h|h
  ·rw [h];exact List.mem_cons_self
  exact List.mem_cons_of_mem _ (List.mem_append_left _ h)
 have h1:=((hp.map (fun p:Nat × Ob=>p.1)).nodup_iff).1 hn;unfold keys;simp only [List.map_cons,List.map_append,List.nodup_cons,List.mem_append,not_or,List.nodup_append] at h1 ⊢;exact ⟨h1.1.1,h1.2.1⟩
end Go.Abs.Wall.Spl
namespace Go.Abs.Wall.Spl
open Go Go.Abs Go.Proofs Go.Abs.Wall
structure bE where
 aK:List Int
 cV:Int
 cls:Int
deriving DecidableEq
structure bA where
 n:Int
 at_:Int
 cls:Bool
 hv:Int
deriving DecidableEq
structure Mv where
 sign:Int
 cost:Int
 use:az
 to:bA
structure Env where
 H:aD
 B:bE
 dY:kM
 snd:List UInt8
 eo:List Int
 jP:Int
 mf:Int
 ay:List (List az)
def dO (b:bE):List AV:=[.sl 1 none (ints b.aK),.int .i64 b.cV,.int .i64 b.cls]
def ko (x:bA):List AV:=[.int .i64 x.n,.int .i64 x.at_,.bool x.cls,.int .i64 x.hv]
def vD (m:Mv):List AV:=[.int .i64 m.sign,.int .i64 m.cost]++(aU m.use++ko m.to)
def kW (E:Env) (nv cv:AV):List AV:=aZ E.H++(dO E.B++(fi E.dY++[.str E.snd,.sl 1 none (ints E.eo),.int .i64 E.jP,.int .i64 E.mf,.sl 1 none (xi E.ay),nv,cv]))
def jx (u:az):Bool:=decide (u.kind=2)||(decide (u.kind=1)&&decide (2<=(u.text.length:Int)))
def ee (u:az):Int:=if jx u=true then u.text.length else 0
def ja:List Int->Int->Int
 | [],a=>a
 | n::t,a=>if a<n then n else ja t a
def uB (s t:List UInt8) (a e:Int):Bool:=decide (a+t.length<=e)&&fN (s.drop a.toNat) t
def bk (E:Env) (x:bA) (u:az):bA × Bool:=
 if ((decide (E.B.cV=2)&&decide (0<x.hv))&&!decide (u.kind=3))=true then (x,false)
 else if u.kind=1 then (⟨x.n+1,x.at_+u.text.length,x.cls,ee u⟩,uB E.snd u.text x.at_ (ja E.eo x.at_))
 else if u.kind=2 then (⟨x.n+1,u.text.length,x.cls,ee u⟩,decide (x.n=0)&&decide (u.text=E.dY.root))
 else if u.kind=3 then (⟨x.n+1,x.at_,x.cls,ee u⟩,(!decide (E.B.cV=0)&&decide ((u.text.length:Int)<=x.hv))&&oT (E.snd.take x.at_.toNat) u.text)
 else if u.kind=4 then (⟨x.n+1,x.at_,true,ee u⟩,(((!decide (E.B.cls=0))&&!x.cls)&&decide (u.text=E.dY.cls))&&decide (x.at_=E.eo.headD 0))
 else (x,false)
def jQ (E:Env) (u:az):Int:=if u.kind=1 then E.H.cC.spell else if u.kind=2 then E.H.cC.De else if u.kind=3 then E.H.cC.cV else E.H.cC.cls
def ez (E:Env) (x:bA):Int × Bool:=
 if (decide (x.n=0)||(decide (x.at_<E.snd.length)||(decide (E.B.cV=2)&&decide (0<x.hv))))=true then (0,false)
 else if (x.cls||decide (E.dY.cls=[]))=true then (E.jP,true)
 else (E.jP+E.mf,!decide (E.B.cls=2))
def vE (E:Env) (x:bA) (s:Nat) (u:az):List Mv:=if ((bk E x u).2&&decide (0<=E.B.aK.getD s 0))=true then [⟨s,jQ E u+E.B.aK.getD s 0,u,(bk E x u).1⟩] else []
def oU (E:Env) (x:bA) (s:Nat):List az->List Mv
 | []=>[]
 | u::t=>vE E x s u++oU E x s t
def mR (E:Env) (x:bA):Nat->List (List az)->List Mv
 | _,[]=>[]
 | s,us::t=>oU E x s us++mR E x (s+1) t
def di (E:Env) (x:bA):List Mv:=if x.n=12 then [] else mR E x 0 E.ay
structure gk (E:Env):Prop where
 Df:E.B.aK.length=E.ay.length
 rows:E.ay.length<=200
 row:∀ us∈E.ay,us.length<=200
 text:∀ us∈E.ay,∀ u∈us,u.text.length<=8
 vF:∀ n∈E.B.aK,-1<=n/\n<=1000
 snd:E.snd.length<=1000
 root:E.dY.root.length<=E.snd.length
 eo:E.eo≠[]/\E.eo.length<=1000/\∀ n∈E.eo,0<=n/\n<=E.snd.length
 jP:0<=E.jP/\E.jP<=100000
 mf:0<=E.mf/\E.mf<=1000
 cost:∀ c∈iq E.H.cC,0<=c/\c<=1000
structure gY (E:Env) (x:bA):Prop where
 n:0<=x.n/\x.n<=12
 at_:0<=x.at_/\x.at_<=E.snd.length
 hv:0<=x.hv/\x.hv<=8
def c83:av:=⟨[0,1,2],[],[],[],[],[]⟩
def c191:av:=⟨[0,1,4,6,10,11,12,13,18],[],[],[],[],[]⟩
def c190:av:=⟨[0,1,2,3,8],[],[],[],[],[]⟩
def c147:av:=⟨[0,1,3,4,6,7,15,23],[],[],[],[],[]⟩
def c101:av:=⟨[0,1,3,4,5,6,29],[],[],[],[(2,[0,1,2,3,4,5,6,7,8],[]),(7,[0,1,2,3,4,5,6,7,8,9,10,11,12,13,14,15,16],[])],[]⟩
def c146:av:=⟨[0,1,2,4,5,6,7,8,24,35,41,42,65,85,114],[],[],[],[(9,[0,1,2,3,4,5,6,7,8,9,10,11,12,13,14,15],[]),(12,[0,1,2,3,4,5,6,7,8,9,10,11,12,13,14,15],[]),(14,[0,1,2,3,4,5,6,7,8,9,10,11,12,13,14,15,16,17,18,19,20,21,22,23,24,25,26,27,28],[]),(17,[0,1,2,3,4,5,6,7,8,9,10,11,12,13,14,15,16,17,18,19,20,21,22,23,24,25,26,27,28,29,30,31,32,33,34],[])],[]⟩
def c100:av:=⟨[0,1,3,4,5,6,8,9,10,13,17,18,19,20,24,25,26,27,48],[],[8,9],[],[(11,[0,1,2,3,4,5,6,7,8,9,10,11,12,13,14,15,16,17,18,19],[])],[]⟩
theorem Pe (u:az):ab Tryz.prog 83 [.agg (aU u)] [] (.bool (jx u)):=by refine aA (F:=Tryz.f83) c83 rfl rfl rfl mixed rfl fun X=>?_;(conv=>whnf);skip;exact ⟨rfl,rfl⟩
theorem Wp (E:Env) (nv cv:AV) (a:Int) (hE:gk E):ab Tryz.prog 191 [.ai (kW E nv cv),.int .i64 a] [] (.int .i64 (ja E.eo a)):=by
 have hb:=hE.eo.2.1;refine aA (F:=Tryz.f191) c191 rfl rfl rfl mixed rfl fun X=>?_;(conv=>whnf);skip;refine bS rfl mixed [1,10,11,12] [] (fun m r h=>∃ (i:Nat),r=[(1,[],.int .i64 a),(10,[],.sl 1 none (ints E.eo)),(11,[],.int .i64 (ints E.eo).length),(12,[],.int .i64 i)]/\h=[]/\m=E.eo.length - i/\i<=E.eo.length/\ja E.eo a=ja (E.eo.drop i) a) ?_ ?_
 ·(conv=>whnf);exact ⟨_,0,rfl,rfl,rfl,by omega,rfl⟩
 rintro m r h ⟨i,rfl,rfl,rfl,hi,hg⟩;(conv=>whnf);refine ⟨fun hc=>?_,fun hc=>?_⟩<;>rw [cO] at hc<;>simp at hc
 ·obtain ⟨n,hn⟩:=aF hc;rw [drop_cons hn,ja] at hg;(conv=>whnf);repeat (refine ix (by assumption) ?_;conv=>whnf)
  refine ⟨fun hq=>?_,fun hq=>?_⟩<;>simp at hq
  ·rw [if_pos hq] at hg;(conv=>whnf);skip;exact ⟨congrArg _ hg.symm,rfl⟩
  rw [if_neg (by omega)] at hg;(conv=>whnf);repeat (refine ⟨ag ⟨by omega,by omega⟩,?_⟩;conv=>whnf)
  exact ⟨_,by omega,i+1,rfl,rfl,rfl,by omega,hg⟩
 rw [drop_nil hc,ja] at hg;(conv=>whnf);skip;exact ⟨congrArg _ hg.symm,rfl⟩
theorem Wq (E:Env) (nv cv:AV) (u:az):ab Tryz.prog 147 [.ai (kW E nv cv),.agg (aU u)] [] (.int .i64 (jQ E u)):=by
 refine aA (F:=Tryz.f147) c147 rfl rfl rfl mixed rfl fun X=>?_;(conv=>whnf);skip;refine ⟨fun h1=>?_,fun h1=>?_⟩<;>simp at h1
 ·rw [jQ,if_pos h1];(conv=>whnf);skip;exact ⟨rfl,rfl⟩
 (conv=>whnf);skip;refine ⟨fun h2=>?_,fun h2=>?_⟩<;>simp at h2
 ·rw [jQ,if_neg h1,if_pos h2];(conv=>whnf);skip;exact ⟨rfl,rfl⟩
 (conv=>whnf);skip;refine ⟨fun h3=>?_,fun h3=>?_⟩<;>simp at h3
 ·rw [jQ,if_neg h1,if_neg h2,if_pos h3];(conv=>whnf);skip;exact ⟨rfl,rfl⟩
 rw [jQ,if_neg h1,if_neg h2,if_neg h3];(conv=>whnf);skip;exact ⟨rfl,rfl⟩
theorem Wr (s t:List UInt8) (a e:Int) (hs:s.length<=1000) (ht:t.length<=8) (ha:0<=a/\a<=1000) (he:e<=s.length):ab Tryz.prog 190 [.str s,.str t,.int .i64 a,.int .i64 e] [] (.bool (uB s t a e)):=by
 have hp:=hasPrefix (s.drop a.toNat) t (by unfold aq;rw [List.length_drop];omega) (by unfold aq;omega);have fl:(s.take ((s.length:Nat):Int).toNat).drop a.toNat=s.drop a.toNat:=(by rw [Int.toNat_natCast,List.take_length]);rw [<- fl] at hp;refine aA (F:=Tryz.f190) c190 rfl rfl rfl mixed rfl fun X=>?_;(conv=>whnf);repeat (refine ⟨ag ⟨by omega,by omega⟩,?_⟩;conv=>whnf)
 refine ⟨?_,?_⟩
 ·(conv=>whnf);intro hq;simp at hq;exact ⟨by omega,by omega,by omega⟩
 (conv=>whnf);repeat (refine aY (hp) ?_;conv=>whnf)
 rw [fl];exact ⟨rfl,rfl⟩
theorem Pf {l:List Int} {B a:Int} (h:∀ n∈l,0<=n/\n<=B) (ha:0<=a/\a<=B):0<=ja l a/\ja l a<=B:=by
 induction l with
 | nil=>exact ha
 | cons n t ih=>
   rw [ja];split
   ·exact h n (List.mem_cons_self ..)
   exact ih fun m hm=>h m (List.mem_cons_of_mem _ hm)
theorem Ws (E:Env) (nv cv:AV) (x:bA) (hE:gk E):ab Tryz.prog 101 [.ai (kW E nv cv),.agg (ko x)] [] (.aB [.int .i64 (ez E x).1,.bool (ez E x).2]):=by
 have h1:=hE.snd;have h2:=hE.jP;have h3:=hE.mf;refine aA (F:=Tryz.f101) c101 rfl rfl rfl mixed rfl fun X=>?_;(conv=>whnf);skip;refine ⟨fun ha=>?_,fun ha=>?_⟩<;>simp at ha
 ·rw [ez,if_pos (by simp [ha])];(conv=>whnf);repeat ((refine cT ?_ ?_;(focus (simp<;>omega)));conv=>whnf)
  exact ⟨rfl,rfl⟩
 (conv=>whnf);repeat (refine And.intro (by show aJ (aH Tryz.f101 _) _=true;decide +kernel) ?_;conv=>whnf)
 refine ⟨fun hb=>?_,fun hb=>?_⟩<;>simp at hb
 ·rw [ez,if_pos (by simp [hb])];(conv=>whnf);repeat ((refine cT ?_ ?_;(focus (simp<;>omega)));conv=>whnf)
  exact ⟨rfl,rfl⟩
 (conv=>whnf);skip;refine ⟨fun hc=>?_,fun hc=>?_⟩
 ·have hc:(decide (E.B.cV=2)&&decide (0<x.hv))=true:=hc;rw [ez,if_pos (by rw [hc];simp)];(conv=>whnf);skip;exact ⟨rfl,rfl⟩
 have hc:(decide (E.B.cV=2)&&decide (0<x.hv))=false:=hc;rw [ez,if_neg (by rw [hc];simp [ha];omega)];(conv=>whnf);skip;refine ⟨fun hd=>?_,fun hd=>?_⟩
 ·have hd:(x.cls||decide (E.dY.cls=[]))=true:=hd;rw [if_pos hd];(conv=>whnf);skip;exact ⟨rfl,rfl⟩
 have hd:(x.cls||decide (E.dY.cls=[]))=false:=hd;rw [if_neg (by rw [hd];decide)];(conv=>whnf);repeat ((first|refine ⟨ag ⟨by omega,by omega⟩,?_⟩|refine And.intro (by show aJ (aH Tryz.f101 _) _=true;decide +kernel) ?_);conv=>whnf)
 exact ⟨rfl,rfl⟩
theorem Wt (E:Env) (nv cv:AV) (x:bA) (u:az) (hE:gk E) (hx:gY E x) (hu:u.text.length<=8):ab Tryz.prog 146 [.ai (kW E nv cv),.agg (ko x),.agg (aU u)] [] (.aB [.agg (ko (bk E x u).1),.bool (bk E x u).2]):=by
 have h1:=hE.snd;have sO:=hx.n;have ik:=hx.at_;have vG:=hx.hv;refine ab.AL ?_;refine aA (F:=Tryz.f146) c146 rfl rfl rfl mixed rfl fun X=>?_;(conv=>whnf);repeat (intro (nb:Nat);conv=>whnf)
 refine ⟨fun hq=>?_,fun hq=>?_⟩
 ·have hq:((decide (E.B.cV=2)&&decide (0<x.hv))&&!decide (u.kind=3))=true:=hq;rw [bk,if_pos hq];(conv=>whnf);repeat ((first|refine ⟨_,_,.head _,rfl,?_⟩|refine ⟨_,_,.here _,aI,?_⟩);conv=>whnf)
  rfl
 have hq:((decide (E.B.cV=2)&&decide (0<x.hv))&&!decide (u.kind=3))=false:=hq;(conv=>whnf);repeat ((first|refine ⟨ag ⟨by omega,by omega⟩,?_⟩|refine ab.k0 (Pe u) ?_|refine ⟨_,_,.here _,aI,?_⟩|intro (nb:Nat));conv=>whnf)
 have Wu:bk E x u=if u.kind=1 then (⟨x.n+1,x.at_+u.text.length,x.cls,ee u⟩,uB E.snd u.text x.at_ (ja E.eo x.at_))
  else if u.kind=2 then (⟨x.n+1,u.text.length,x.cls,ee u⟩,decide (x.n=0)&&decide (u.text=E.dY.root))
  else if u.kind=3 then (⟨x.n+1,x.at_,x.cls,ee u⟩,(!decide (E.B.cV=0)&&decide ((u.text.length:Int)<=x.hv))&&oT (E.snd.take x.at_.toNat) u.text)
  else if u.kind=4 then (⟨x.n+1,x.at_,true,ee u⟩,(((!decide (E.B.cls=0))&&!x.cls)&&decide (u.text=E.dY.cls))&&decide (x.at_=E.eo.headD 0))
  else (x,false):=by rw [bk,if_neg (by rw [hq];decide)]
 rw [Wu];have Wv:=Pf hE.eo.2.2 ik;have oI:=Wr E.snd u.text x.at_ (ja E.eo x.at_) h1 hu (by omega) (by omega);have xg:=Wp E nv cv x.at_ hE;have Fa:=hasSuffix ((E.snd.take x.at_.toNat).drop (Int.toNat 0)) u.text (by unfold aq;rw [List.length_drop,List.length_take];omega) (by unfold aq;omega);obtain ⟨b0,Pg⟩:=aF (l:=E.eo) (i:=0) (List.length_pos_iff.2 hE.eo.1)
 have FJ:E.eo.headD 0=b0:=by
  have:=hE.eo.1;cases zd:E.eo with
  | nil=>exact absurd zd this
  | cons c t=>rw [zd] at Pg;simpa using Pg
 refine ⟨fun hh=>?_,fun hh=>?_⟩
 ·have hv:ee u=u.text.length:=(by rw [ee,if_pos hh]);rw [hv];(conv=>whnf);repeat (refine ⟨_,_,.here _,aI,?_⟩;conv=>whnf)
  refine ⟨fun k1=>?_,fun k1=>?_⟩<;>simp at k1
  ·rw [if_pos k1];(conv=>whnf);repeat ((first|refine ⟨ag ⟨by omega,by omega⟩,?_⟩|refine aY (xg) ?_|refine aY (oI) ?_|refine ⟨_,_,.head _,rfl,?_⟩|refine ⟨_,_,.tail _ (.head _),rfl,?_⟩|refine ⟨_,_,.here _,aI,?_⟩|refine ⟨_,_,.there (.here _),aI,?_⟩|refine And.intro (by show aJ (aH Tryz.f146 _) _=true;decide +kernel) ?_);conv=>whnf)
   rfl
  rw [if_neg k1];(conv=>whnf);skip;refine ⟨fun k2=>?_,fun k2=>?_⟩<;>simp at k2
  ·rw [if_pos k2];(conv=>whnf);repeat ((first|refine ⟨_,_,.head _,rfl,?_⟩|refine ⟨_,_,.tail _ (.head _),rfl,?_⟩|refine ⟨_,_,.here _,aI,?_⟩|refine ⟨_,_,.there (.here _),aI,?_⟩|refine And.intro (by show aJ (aH Tryz.f146 _) _=true;decide +kernel) ?_);conv=>whnf)
   rfl
  rw [if_neg k2];(conv=>whnf);skip;refine ⟨fun k3=>?_,fun k3=>?_⟩<;>simp at k3
  ·rw [if_pos k3];(conv=>whnf);repeat ((first|refine ⟨ag ⟨by omega,by omega⟩,?_⟩|refine aY (Fa) ?_|refine ⟨_,_,.head _,rfl,?_⟩|refine ⟨_,_,.tail _ (.head _),rfl,?_⟩|refine ⟨_,_,.there (.here _),aI,?_⟩|refine And.intro (by show aJ (aH Tryz.f146 _) _=true;decide +kernel) ?_);conv=>whnf)
   rfl
  rw [if_neg k3];(conv=>whnf);skip;refine ⟨fun k4=>?_,fun k4=>?_⟩<;>simp at k4
  ·rw [if_pos k4];(conv=>whnf);repeat ((first|refine ix (by assumption) ?_|refine ⟨_,_,.head _,rfl,?_⟩|refine ⟨_,_,.tail _ (.head _),rfl,?_⟩|refine ⟨_,_,.here _,aI,?_⟩|refine ⟨_,_,.there (.here _),aI,?_⟩|refine And.intro (by show aJ (aH Tryz.f146 _) _=true;decide +kernel) ?_);conv=>whnf)
   rw [FJ];rfl
  rw [if_neg k4];(conv=>whnf);repeat ((first|refine ⟨_,_,.tail _ (.head _),rfl,?_⟩|refine ⟨_,_,.there (.here _),aI,?_⟩);conv=>whnf)
  rfl
 have hv:ee u=0:=(by rw [ee,if_neg (by rw [hh];decide)]);rw [hv];(conv=>whnf);skip;refine ⟨fun k1=>?_,fun k1=>?_⟩<;>simp at k1
 ·rw [if_pos k1];(conv=>whnf);repeat ((first|refine ⟨ag ⟨by omega,by omega⟩,?_⟩|refine aY (xg) ?_|refine aY (oI) ?_|refine ⟨_,_,.head _,rfl,?_⟩|refine ⟨_,_,.tail _ (.head _),rfl,?_⟩|refine ⟨_,_,.here _,aI,?_⟩|refine ⟨_,_,.there (.here _),aI,?_⟩|refine And.intro (by show aJ (aH Tryz.f146 _) _=true;decide +kernel) ?_);conv=>whnf)
  rfl
 rw [if_neg k1];(conv=>whnf);skip;refine ⟨fun k2=>?_,fun k2=>?_⟩<;>simp at k2
 ·rw [if_pos k2];(conv=>whnf);repeat ((first|refine ⟨_,_,.head _,rfl,?_⟩|refine ⟨_,_,.tail _ (.head _),rfl,?_⟩|refine ⟨_,_,.here _,aI,?_⟩|refine ⟨_,_,.there (.here _),aI,?_⟩|refine And.intro (by show aJ (aH Tryz.f146 _) _=true;decide +kernel) ?_);conv=>whnf)
  rfl
 rw [if_neg k2];(conv=>whnf);skip;refine ⟨fun k3=>?_,fun k3=>?_⟩<;>simp at k3
 ·rw [if_pos k3];(conv=>whnf);repeat ((first|refine ⟨ag ⟨by omega,by omega⟩,?_⟩|refine aY (Fa) ?_|refine ⟨_,_,.head _,rfl,?_⟩|refine ⟨_,_,.tail _ (.head _),rfl,?_⟩|refine ⟨_,_,.there (.here _),aI,?_⟩|refine And.intro (by show aJ (aH Tryz.f146 _) _=true;decide +kernel) ?_);conv=>whnf)
  rfl
 rw [if_neg k3];(conv=>whnf);skip;refine ⟨fun k4=>?_,fun k4=>?_⟩<;>simp at k4
 ·rw [if_pos k4];(conv=>whnf);repeat ((first|refine ix (by assumption) ?_|refine ⟨_,_,.head _,rfl,?_⟩|refine ⟨_,_,.tail _ (.head _),rfl,?_⟩|refine ⟨_,_,.here _,aI,?_⟩|refine ⟨_,_,.there (.here _),aI,?_⟩|refine And.intro (by show aJ (aH Tryz.f146 _) _=true;decide +kernel) ?_);conv=>whnf)
  rw [FJ];rfl
 rw [if_neg k4];(conv=>whnf);repeat ((first|refine ⟨_,_,.tail _ (.head _),rfl,?_⟩|refine ⟨_,_,.there (.here _),aI,?_⟩);conv=>whnf)
 rfl
theorem wC {E:Env} {x:bA} {u:az} (hE:gk E) (hx:gY E x) (hu:u.text.length<=8) (hn:x.n<12) (h:(bk E x u).2=true):gY E (bk E x u).1/\(bk E x u).1.n=x.n+1:=by
 have sO:=hx.n;have ik:=hx.at_;have vG:=hx.hv;have hv:0<=ee u/\ee u<=8:=by unfold ee;split<;>omega
 have Wv:=Pf hE.eo.2.2 ik;unfold bk at h ⊢;split at h
 ·cases h
 rename_i h0;rw [if_neg h0];split at h
 ·rename_i h1;rw [if_pos h1];unfold uB at h;simp only [Bool.and_eq_true,decide_eq_true_eq] at h;exact ⟨⟨⟨by simp only;omega,by simp only;omega⟩,⟨by simp only;omega,by simp only;omega⟩,hv⟩,rfl⟩
 rename_i h1;rw [if_neg h1];split at h
 ·rename_i h2;rw [if_pos h2];simp only [Bool.and_eq_true,decide_eq_true_eq] at h;have hr:=hE.root;rw [<- h.2] at hr;exact ⟨⟨⟨by simp only;omega,by simp only;omega⟩,⟨by simp only;omega,by simp only;omega⟩,hv⟩,rfl⟩
 rename_i h2;rw [if_neg h2];split at h
 ·rename_i h3;rw [if_pos h3];exact ⟨⟨⟨by simp only;omega,by simp only;omega⟩,ik,hv⟩,rfl⟩
 rename_i h3;rw [if_neg h3];split at h
 ·rename_i h4;rw [if_pos h4];exact ⟨⟨⟨by simp only;omega,by simp only;omega⟩,ik,hv⟩,rfl⟩
 cases h
theorem Ww (E:Env) (x:bA) (s:Nat) (u:az):(vE E x s u).length<=1:=by unfold vE;split<;>simp
theorem JN {E:Env} (hE:gk E) (u:az):0<=jQ E u/\jQ E u<=1000:=by
 have h:=hE.cost;unfold iq at h;unfold jQ;split
 ·exact h _ (by simp)
 split
 ·exact h _ (by simp)
 split
 ·exact h _ (by simp)
 exact h _ (by simp)
theorem Wx (E:Env) (nv cv:AV) (x:bA) (hE:gk E) (hx:gY E x):ab Tryz.prog 100 [.ai (kW E nv cv),.agg (ko x)] [] (.sl 8 none ((di E x).map vD)):=by
 refine ab.of ?_;by_cases hn:x.n=12
 ·rw [di,if_pos hn];refine aA (F:=Tryz.f100) c100 rfl rfl rfl mixed rfl fun X=>?_;(conv=>whnf);skip;refine cT (by simp [hn]) ?_;(conv=>whnf);skip;exact aa.nil (by decide)
 rw [di,if_neg hn];have Dg:=hx.n;have vz:=hE.rows;have Wz:=hE.Df;refine aA (F:=Tryz.f100) c100 rfl rfl rfl mixed rfl fun X=>?_;(conv=>whnf);skip;refine cF (by simp [hn]) ?_;(conv=>whnf);skip;have lE:(xi E.ay).length=E.ay.length:=List.length_map _;refine bD rfl mixed [0,3,4,17,18,19] [] (fun m r h=>∃ (i:Nat) (ov:AV) (oh:af) (acc:List Mv),r=[(0,[],.ai (kW E nv cv)),(3,[],.ai (ko x)),(4,[],ov),(17,[],.sl 1 none (xi E.ay)),(18,[],.int .i64 (xi E.ay).length),(19,[],.int .i64 i)]/\h=oh/\m=E.ay.length - i/\i<=E.ay.length/\Out 8 vD acc ov oh/\acc.length<=200*i/\mR E x 0 E.ay=acc++mR E x i (E.ay.drop i)) ?_ ?_
 ·(conv=>whnf);exact ⟨_,_,ah.refl _ _,_,0,.aS,[],[],rfl,rfl,rfl,by omega,.inl ⟨rfl,rfl,rfl⟩,by simp,rfl⟩
 rintro m r h' ⟨i,ov,oh,acc,rfl,rfl,rfl,hi,ho,il,hm⟩;(conv=>whnf);refine ⟨fun aG=>?_,fun aG=>?_⟩<;>rw [lE] at aG<;>simp at aG
 ·obtain ⟨us,bd⟩:=aF aG;have ze:=List.mem_of_getElem? bd;have mc:=hE.row us ze;have eM:=hE.text us ze;obtain ⟨sg,qJ⟩:=aF (l:=E.B.aK) (i:=i) (by omega);have Dh:=hE.vF sg (List.mem_of_getElem? qJ);have fE:E.B.aK.getD i 0=sg:=Fj qJ;rw [drop_cons bd,mR] at hm;(conv=>whnf);repeat (refine ix (by assumption) ?_;conv=>whnf)
  refine bD rfl mixed [0,3,4,5,17,18,19,24,25,26] [] (fun m r h=>∃ (k:Nat) (ov:AV) (oh:af) (acc:List Mv),r=[(0,[],.ai (kW E nv cv)),(3,[],.ai (ko x)),(4,[],ov),(5,[],.int .i64 i),(17,[],.sl 1 none (xi E.ay)),(18,[],.int .i64 (xi E.ay).length),(19,[],.int .i64 i),(24,[],.sl 2 none (us.map aU)),(25,[],.int .i64 (us.map aU).length),(26,[],.int .i64 k)]/\h=oh/\m=us.length - k/\k<=us.length/\Out 8 vD acc ov oh/\acc.length<=200*i+k/\mR E x 0 E.ay=acc++(oU E x i (us.drop k)++mR E x (i+1) (E.ay.drop (i+1)))) ?_ ?_
  ·(conv=>whnf);exact ⟨_,_,ah.refl _ _,_,0,ov,_,acc,rfl,rfl,rfl,by omega,ho,by omega,hm⟩
  rintro m r h' ⟨k,ov,oh,acc,rfl,rfl,rfl,hk,ho,R1,hm⟩;(conv=>whnf);refine ⟨fun bg=>?_,fun bg=>?_⟩<;>simp at bg
  ·obtain ⟨u,hu⟩:=aF bg;have zf:=eM u (List.mem_of_getElem? hu);have cz:=Wt E nv cv x u hE hx zf;have qk:=Wq E nv cv u;have eW:=JN hE u;rw [drop_cons hu,oU,vE,fE,<- List.append_assoc,<- List.append_assoc] at hm;obtain ⟨to,jl⟩:∃ to,to=(bk E x u).1:=⟨_,rfl⟩;obtain ⟨is,vw⟩:∃ b,b=(bk E x u).2:=⟨_,rfl⟩;rw [<- jl,<- vw] at cz hm;rcases ho with ⟨JO,rfl,rfl⟩|⟨q,rfl,rfl⟩
   all_goals
    (conv=>whnf);repeat ((first|refine ix (by assumption) ?_|refine ab.k0 (cz) ?_|refine ⟨_,_,bj.here _,⟨Nat.le_of_ble_eq_true rfl,rfl⟩,?_⟩|intro (nb:Nat));conv=>whnf)
    refine ⟨fun hq=>?_,fun hq=>?_⟩
    ·have hq:(is&&decide (0<=sg))=true:=hq;rw [if_pos hq] at hm;(conv=>whnf);repeat ((first|refine ⟨ag ⟨by omega,by omega⟩,?_⟩|refine ix (by assumption) ?_|refine aY (qk) ?_|(refine ⟨Nat.le_of_ble_eq_true rfl,fun q'=>?_⟩)|(refine ⟨(by rw [List.length_append,List.length_map];simp;unfold aN;omega),fun q'=>⟨_,.here _,?_⟩⟩)|refine And.intro (by show aJ (aH Tryz.f100 _) _=true;decide +kernel) ?_);conv=>whnf)
     refine ⟨_,_,ah.refl _ _,_,(by omega),k+1,_,[(q',.tok)],acc++[⟨i,jQ E u+sg,u,to⟩],rfl,rfl,rfl,by omega,.inr ⟨q',?_,rfl⟩,by simp;omega,by rw [List.append_assoc] at hm;exact hm⟩;rw [List.map_append];first|done|rfl|(rw [JO];done)|(rw [JO];rfl)
    have hq:(is&&decide (0<=sg))=false:=hq;rw [if_neg (by rw [hq];decide),List.append_nil,List.append_assoc] at hm;(conv=>whnf);repeat (refine ⟨ag ⟨by omega,by omega⟩,?_⟩;conv=>whnf)
    refine ⟨_,_,ah.refl _ _,_,(by omega),k+1,_,_,acc,rfl,rfl,rfl,by omega,?_,by omega,hm⟩;first|exact .inl ⟨JO,rfl,rfl⟩|exact .inr ⟨q,rfl,rfl⟩
  rw [drop_nil bg,oU,List.nil_append] at hm;(conv=>whnf);repeat (refine ⟨ag ⟨by omega,by omega⟩,?_⟩;conv=>whnf)
  exact ⟨_,_,ah.refl _ _,_,(by omega),i+1,ov,_,acc,rfl,rfl,rfl,by omega,ho,by omega,hm⟩
 rw [drop_nil aG,mR,List.append_nil] at hm;rw [hm];(conv=>whnf);skip;exact ho.le (by decide)
end Go.Abs.Wall.Spl
namespace Go.Abs.Wall.Spl
open Go Go.Abs Go.Proofs Go.Abs.Wall
open Go.Abs.Wall.Lst hiding al iW nG kQ ij dA nH lY nI nJ nK nL nM fj nO cm nP
def pH (E:Env) (x:bA):List Int:=if (ez E x).2=true then [(ez E x).1*16] else []
def cD (E:Env) (rec:bA->List Wy) (x:bA):List (List Int):=pH E x::(di E x).map fun m=>(rec m.to).map fun w=>w.cost+(m.cost*16+1)
def FV (E:Env):Nat->bA->List Wy
 | 0,x=>aW (cD E (fun _=>[]) x)
 | d+1,x=>aW (cD E (FV E d) x)
def eA (E:Env) (x:bA):List Wy:=FV E (12 - x.n).toNat x
def fO (E:Env) (x:bA):List (List Int):=cD E (eA E) x
theorem WA {E:Env} {x:bA} {s:Nat} {u:az} {m:Mv} (h:m∈vE E x s u):m=⟨s,jQ E u+E.B.aK.getD s 0,u,(bk E x u).1⟩/\(bk E x u).2=true/\0<=E.B.aK.getD s 0:=by
 unfold vE at h;split at h
 ·rename_i hc;rw [Bool.and_eq_true,decide_eq_true_eq] at hc;rw [List.mem_singleton] at h;exact ⟨h,hc.1,hc.2⟩
 cases h
theorem Ph {E:Env} {x:bA} {s:Nat} {m:Mv}:∀ {us:List az},m∈oU E x s us->∃ u∈us,m∈vE E x s u
 | [],h=>by cases h
 | u::t,h=>by
   rw [oU,List.mem_append] at h;rcases h with h|h
   ·exact ⟨u,List.mem_cons_self ..,h⟩
   obtain ⟨v,h1,h2⟩:=Ph h;exact ⟨v,List.mem_cons_of_mem _ h1,h2⟩
theorem Pj {E:Env} {x:bA} {m:Mv}:∀ {rs:List (List az)} {s:Nat},m∈mR E x s rs->∃ (i:Nat) (us:List az),rs[i]?=some us/\m∈oU E x (s+i) us
 | [],s,h=>by cases h
 | us::t,s,h=>by
   rw [mR,List.mem_append] at h;rcases h with h|h
   ·exact ⟨0,us,rfl,h⟩
   obtain ⟨i,vs,h1,h2⟩:=Pj h;exact ⟨i+1,vs,h1,by rw [show s+(i+1)=s+1+i by omega];exact h2⟩
structure Pk (E:Env) (x:bA) (m:Mv):Prop where
 to:gY E m.to
 next:m.to.n=x.n+1
 cost:0<=m.cost/\m.cost<=2000
 sign:0<=m.sign/\m.sign<E.ay.length
theorem rO {E:Env} {x:bA} (hE:gk E) (hx:gY E x) {m:Mv} (h:m∈di E x):Pk E x m:=by
 unfold di at h;split at h
 ·cases h
 rename_i hn;have Dg:=hx.n;obtain ⟨i,us,bd,hm⟩:=Pj h;rw [Nat.zero_add] at hm;obtain ⟨u,hu,hm⟩:=Ph hm;obtain ⟨rfl,h1,h2⟩:=WA hm;have hi:=(List.getElem?_eq_some_iff.1 bd).1;obtain ⟨ho,gO⟩:=wC hE hx (hE.text us (List.mem_of_getElem? bd) u hu) (by omega) h1;have hc:=JN hE u;have hh:=hE.Df;obtain ⟨sg,qJ⟩:=aF (l:=E.B.aK) (i:=i) (by omega);have Dh:=hE.vF sg (List.mem_of_getElem? qJ);have fE:E.B.aK.getD i 0=sg:=Fj qJ;rw [fE] at h2;refine ⟨ho,gO,⟨?_,?_⟩,?_,?_⟩
 ·show 0<=jQ E u+E.B.aK.getD i 0;rw [fE];omega
 ·show jQ E u+E.B.aK.getD i 0<=2000;rw [fE];omega
 ·show (0:Int)<=(i:Int);omega
 show (i:Int)<E.ay.length;omega
theorem Pl (E:Env) (x:bA) (s:Nat):∀ us:List az,(oU E x s us).length<=us.length
 | []=>Nat.le_refl _
 | u::t=>by have h1:=Pl E x s t;have h2:=Ww E x s u;rw [oU,List.length_append,List.length_cons];omega
theorem Pm {E:Env} {x:bA}:∀ (rs:List (List az)) (s:Nat),(∀ us∈rs,us.length<=200)->(mR E x s rs).length<=200*rs.length
 | [],s,_=>Nat.le_refl _
 | us::t,s,h=>by have h1:=Pm (E:=E) (x:=x) t (s+1) fun v hv=>h v (List.mem_cons_of_mem _ hv);have h2:=Pl E x s us;have h3:=h us (List.mem_cons_self ..);rw [mR,List.length_append,List.length_cons];omega
theorem Di {E:Env} {x:bA} (hE:gk E):(di E x).length<=40000:=by
 unfold di;split
 ·simp
 have h1:=Pm (E:=E) (x:=x) E.ay 0 hE.row;have h2:=hE.rows;omega
theorem Pn {E:Env} {r r':bA->List Wy} {x:bA} (h:∀ m∈di E x,r m.to=r' m.to):cD E r x=cD E r' x:=by unfold cD;congr 1;refine List.map_congr_left fun m hm=>?_;rw [h m hm]
theorem zg {E:Env} {x:bA} (hE:gk E) (hx:gY E x):eA E x=aW (fO E x):=by
 have hn:=hx.n;unfold eA fO;by_cases h:x.n=12
 ·rw [show (12 - x.n).toNat=0 by omega,FV];congr 1;refine Pn fun m hm=>?_;unfold di at hm;rw [if_pos h] at hm;cases hm
 obtain ⟨d,hd⟩:∃ d,(12 - x.n).toNat=d+1:=⟨(11 - x.n).toNat,by omega⟩;rw [hd,FV];congr 1;refine Pn fun m hm=>?_;have:=(rO hE hx hm).next;unfold eA;congr 1;omega
theorem zh (E:Env) (x:bA):(fO E x).length=(di E x).length+1:=by unfold fO cD;simp
theorem zi (E:Env) (x:bA):(fO E x)[0]?=some (pH E x):=rfl
theorem AM {E:Env} {x:bA} {i:Nat} {m:Mv} (hm:(di E x)[i]?=some m):(fO E x)[i+1]?=some ((eA E m.to).map fun w=>w.cost+(m.cost*16+1)):=by unfold fO cD;rw [List.getElem?_cons_succ,List.getElem?_map,hm];rfl
theorem JP {E:Env} (hE:gk E) (x:bA):0<=(ez E x).1/\(ez E x).1<=101000:=by
 have h1:=hE.jP;have h2:=hE.mf;unfold ez;split
 ·exact ⟨by decide,by decide⟩
 split
 ·exact ⟨h1.1,by show E.jP<=101000;omega⟩
 exact ⟨by show 0<=E.jP+E.mf;omega,by show E.jP+E.mf<=101000;omega⟩
theorem Dj {E:Env} (hE:gk E):∀ (d:Nat) (x:bA),gY E x->(12 - x.n).toNat=d->∀ w∈eA E x,0<=w.cost/\w.cost<=(101000+2000*d)*16+d/\w.cost % 16<=d:=by
 intro d;induction d with
 | zero=>
   intro x hx hd w hw;have hn:=hx.n;rw [zg hE hx] at hw;obtain ⟨t,ht⟩:=List.mem_iff_getElem?.1 hw;obtain ⟨_,l,hl,hc⟩:=mG ht;have fu:(di E x).length=0:=by unfold di;rw [if_pos (by omega)];rfl
   have dM:=(List.getElem?_eq_some_iff.1 hl).1;rw [zh,fu] at dM;have he:w.aR=0:=(by omega);rw [he,zi] at hl;cases hl
   have hb:=JP hE x;have fL:=List.mem_of_getElem? hc;unfold pH at fL;split at fL
   ·rw [List.mem_singleton] at fL;rw [fL];omega
   cases fL
 | succ d ih=>
   intro x hx hd w hw;have hn:=hx.n;rw [zg hE hx] at hw;obtain ⟨t,ht⟩:=List.mem_iff_getElem?.1 hw;obtain ⟨_,l,hl,hc⟩:=mG ht;have dM:=(List.getElem?_eq_some_iff.1 hl).1;rw [zh] at dM;have fL:=List.mem_of_getElem? hc;cases he:w.aR with
   | zero=>
     rw [he,zi] at hl;cases hl
     have hb:=JP hE x;unfold pH at fL;split at fL
     ·rw [List.mem_singleton] at fL;rw [fL];omega
     cases fL
   | succ i=>
     obtain ⟨m,hm⟩:=aF (l:=di E x) (i:=i) (by omega);rw [he,AM hm] at hl;cases hl
     have bI:=rO hE hx (List.mem_of_getElem? hm);obtain ⟨v,hv,WB⟩:=List.mem_map.1 fL;have cz:=bI.next;obtain ⟨b1,b2,b3⟩:=ih m.to bI.to (by omega) v hv;have vH:=bI.cost;have JQ:d+1<=12:=(by omega);rw [<- WB];omega
structure AN (cls:List (List Int)) (t:Nat) (due:Bool) (Q:List Wy):Prop where
 ok:nF cls t due Q
 bB:Q.length+(if due=true then 1 else 0)<=60000
 asked:t<=65
def iL (E:Env) (x:bA):AV:=.sl 8 none ((di E x).map vD)
def AO (E:Env) (x:bA) (k:Nat) (hp:af):Prop:=∃ t due Q fv fh ov oh,AN (fO E x) t due Q/\Out 4 al ((aW (fO E x)).take t) fv fh/\fj Q ov oh/\hp=(k,.vec (cm (iL E x) fv ov due))::(fh++oh)
abbrev fW:=List (bA × Nat)
inductive mS (E:Env) (d:Int):fW->af->Prop
 | nil:mS E d [] []
 | skip {x:bA} {k:Nat} {es:fW} {hp:af}:x.n≠d->mS E d es hp->mS E d ((x,k)::es) hp
 | cons {x:bA} {k:Nat} {es:fW} {h1 hp:af}:x.n=d->AO E x k h1->mS E d es hp->mS E d ((x,k)::es) (h1++hp)
inductive ef (E:Env):Nat->Int->fW->af->Prop
 | done {d:Int} {es:fW}:12<d->ef E 0 d es []
 | step {c:Nat} {d:Int} {es:fW} {hA hB:af}:mS E d es hA->ef E c (d+1) es hB->ef E (c+1) d es (hA++hB)
theorem mS.more {E:Env} {d:Int}:∀ {es:fW} {hp:af} {ext:fW},mS E d es hp->(∀ p∈ext,p.1.n≠d)->mS E d (es++ext) hp
 | _,_,[],h,_=>by rw [List.append_nil];exact h
 | _,_,(x,k)::ext,.nil,he=>.skip (he _ (List.mem_cons_self ..)) (mS.more (es:=[]) .nil fun p hp=>he p (List.mem_cons_of_mem _ hp))
 | _,_,y::ext,.skip h1 h2,he=>.skip h1 (h2.more he)
 | _,_,y::ext,.cons h1 h2 h3,he=>.cons h1 h2 (h3.more he)
theorem mS.snoc {E:Env} {d:Int} {x:bA} {k:Nat} (hx:x.n=d) {h1:af} (hn:AO E x k h1):∀ {es:fW} {hp:af},mS E d es hp->mS E d (es++[(x,k)]) (hp++h1)
 | _,_,.nil=>by have:=mS.cons hx hn .nil (E:=E);rwa [List.append_nil] at this
 | _,_,.skip h2 h3=>.skip h2 (h3.snoc hx hn)
 | _,_,.cons h2 h3 h4=>by rw [List.append_assoc];exact .cons h2 h3 (h4.snoc hx hn)
theorem mS.pick {E:Env} {d:Int} {x:bA} {k:Nat} (hx:x.n=d):∀ {es:fW} {hp:af},mS E d es hp->dP x es=some k->∃ hA h1 hB,hp=hA++(h1++hB)/\AO E x k h1/\∀ oG,AO E x k oG->mS E d es (hA++(oG++hB))
 | _,_,.nil,h=>by cases h
 | _,_,.skip (x:=y) (k:=j) h2 h3,h=>by have aM:x≠y:=fun e=>h2 (by rw [<- e];exact hx);rw [dP,if_neg aM] at h;obtain ⟨hA,h1,hB,e,n,f⟩:=h3.pick hx h;exact ⟨hA,h1,hB,e,n,fun oG hn=>.skip h2 (f oG hn)⟩
 | _,_,.cons (x:=y) (k:=j) (h1:=g) h2 h3 h4,h=>by
   unfold dP at h;split at h
   ·rename_i e;cases h
    subst e;refine ⟨[],g,_,rfl,h3,fun oG hn=>?_⟩;rw [List.nil_append];exact .cons h2 hn h4
   obtain ⟨hA,h1,hB,e,n,f⟩:=h4.pick hx h;refine ⟨g++hA,h1,hB,by rw [e,List.append_assoc],n,fun oG hn=>?_⟩;rw [List.append_assoc];exact .cons h2 h3 (f oG hn)
theorem FW {κ ν:Type} [DecidableEq κ] {k:κ} {es ext:List (κ × ν)}:dP k (es++ext)=match dP k es with
  | some v=>some v
  | none=>dP k ext:=by
 induction es with
 | nil=>rfl
 | cons p t ih=>
   obtain ⟨x,v⟩:=p
   show (if k=x then some v else dP k (t++ext))=match (if k=x then some v else dP k t) with
    | some v=>some v
    | none=>dP k ext
   by_cases h:k=x
   ·rw [if_pos h,if_pos h]
   rw [if_neg h,if_neg h];exact ih
theorem Po {κ ν:Type} [DecidableEq κ] {k:κ} {v:ν}:∀ {es:List (κ × ν)},dP k es=none->xj k v es=es++[(k,v)]
 | [],_=>rfl
 | (x,u)::t,h=>by
   unfold dP at h;split at h
   ·cases h
   rename_i aM;unfold xj;rw [if_neg (by first|exact aM|exact fun e=>aM e.symm),Po h];rfl
end Go.Abs.Wall.Spl
namespace Go.Abs.Wall.Spl
open Go Go.Abs Go.Proofs Go.Abs.Wall
open Go.Abs.Wall.Lst hiding al iW nG kQ ij dA nH lY nI nJ nK nL nM fj nO cm nP
def FX (E:Env):Nat->bA->Wy->List Mv
 | 0,_,_=>[]
 | d+1,x,w=>match w.aR with
   | 0=>[]
   | i+1=>match (di E x)[i]? with
     | none=>[]
     | some m=>match (eA E m.to)[w.aO]? with
       | none=>[]
       | some w'=>m::FX E d m.to w'
def mT (E:Env) (x:bA) (w:Wy):List Mv:=FX E (13 - x.n).toNat x w
theorem FY {E:Env} {x:bA} (hE:gk E) (hx:gY E x) {ρ:Nat} {w:Wy} (hw:(eA E x)[ρ]?=some w) (he:w.aR=0):mT E x w=[]/\w.cost=(ez E x).1*16/\(ez E x).2=true:=by
 have hn:=hx.n;refine ⟨?_,?_⟩
 ·unfold mT;obtain ⟨d,hd⟩:∃ d,(13 - x.n).toNat=d+1:=⟨(12 - x.n).toNat,by omega⟩;rw [hd,FX,he]
 rw [zg hE hx] at hw;obtain ⟨_,l,h2,h3⟩:=mG hw;rw [he,zi] at h2;cases h2
 unfold pH at h3;split at h3
 ·rename_i hq;have:=List.mem_of_getElem? h3;rw [List.mem_singleton] at this;exact ⟨this,hq⟩
 cases h3
theorem wP {E:Env} {x:bA} (hE:gk E) (hx:gY E x) {ρ:Nat} {w:Wy} (hw:(eA E x)[ρ]?=some w) (he:w.aR≠0) :
  ∃ m w',(di E x)[w.aR - 1]?=some m/\Pk E x m/\(eA E m.to)[w.aO]?=some w'/\mT E x w=m::mT E m.to w'/\w.cost=w'.cost+(m.cost*16+1)/\w.aO<=ρ:=by
 have hn:=hx.n;rw [zg hE hx] at hw;have rB:=Ck hw;obtain ⟨_,l,h2,h3⟩:=mG hw;have aP:=(List.getElem?_eq_some_iff.1 h2).1;rw [zh] at aP;obtain ⟨m,hm⟩:=aF (l:=di E x) (i:=w.aR - 1) (by omega);have bI:=rO hE hx (List.mem_of_getElem? hm);have cz:=bI.next;have bq:=AM hm;rw [show w.aR - 1+1=w.aR by omega] at bq;rw [bq] at h2;cases h2
 rw [List.getElem?_map] at h3;cases hq:(eA E m.to)[w.aO]? with
 | none=>rw [hq] at h3;cases h3
 | some w'=>
   rw [hq] at h3;refine ⟨m,w',hm,bI,hq,?_,(Option.some.inj h3).symm,rB⟩;unfold mT;have R2:=bI.to.n;obtain ⟨d,hd⟩:∃ d,(13 - x.n).toNat=d+1:=⟨(12 - x.n).toNat,by omega⟩;rw [hd,show (13 - m.to.n).toNat=d by omega];obtain ⟨i,hi⟩:∃ i,w.aR=i+1:=⟨w.aR - 1,by omega⟩;rw [FX,hi];rw [hi] at hm;simp only [Nat.add_sub_cancel] at hm;simp only [hm,hq]
end Go.Abs.Wall.Spl
