/- Small laws for the walks and contracts of functions; each theorem names its conditions. -/
import Derived.Test.YthmcbjcgdfmmaaaGreatN29
import Derived.Test.YthmcbjcgdfmmaaaGreatN17
set_option maxRecDepth 100000
set_option maxHeartbeats 2000000
namespace Go.Abs.Wall.Spl
open Go Go.Abs Go.Proofs Go.Abs.Wall
open Go.Abs.Wall.Lst (gz.pre ah.left)
theorem wU (m:Nat):cI [] m=[]:=by unfold cI dv aW;simp [pA,gen]
def c142:av:=⟨[0,1,2,3,4,5,6,8,9,10,12,13,14,15,16,17,18,19,20,21,22,23,24,25,26,27,28,29,47,56,72,86,115,135,181,204],[75,101],[19,22],[],[(17,[0,1,2,3,4,5,6,7,8,9,10],[]),(28,[0,1,2,3,4,5,6,7,8,9,10,11,12,13,14,15,16,17,18,19],[]),(40,[0,1,2,3,4,5,6,7,8,9,10],[]),(41,[0,1,2,3,4,5,6,7,8,9,10],[]),(18,[],[])],[]⟩
theorem wV (most:Nat) (hm:most<=64):ab Tryz.prog 187 [.gu,.int .i64 most] [] (.sl 1 none []):=by
 refine ab.of ?_;refine aA (F:=Tryz.f187) c187 rfl rfl rfl mixed rfl fun X=>?_;(conv=>whnf);skip;refine bS rfl mixed [0,1,5] [] (fun m r h=>r=[(0,[],.gu),(1,[],.int .i64 most),(5,[],.aS)]/\h=[]/\m=0/\True) ?_ ?_
 ·(conv=>whnf);exact ⟨_,rfl,rfl,rfl,trivial⟩
 rintro m r h' ⟨rfl,rfl,rfl,-⟩;(conv=>whnf);skip;refine ⟨fun hz=>?_,fun hz=>?_⟩<;>simp at hz
 ·(conv=>whnf);skip;refine bS rfl mixed [0,1,5,6,7] [] (fun m r h=>r=[(0,[],.gu),(1,[],.int .i64 most),(5,[],.aS),(6,[],.int .i64 (-1)),(7,[],.int .i64 0)]/\h=[]/\m=0/\True) ?_ ?_
  ·(conv=>whnf);exact ⟨_,rfl,rfl,rfl,trivial⟩
  rintro m r h' ⟨rfl,rfl,rfl,-⟩;(conv=>whnf);skip;refine ⟨fun cx=>absurd (of_decide_eq_true cx) (by omega),fun _=>?_⟩;(conv=>whnf);skip;refine ⟨fun _=>?_,fun bx=>absurd bx (by decide)⟩;(conv=>whnf);skip;exact aa.nil (by decide)
 (conv=>whnf);skip;exact aa.nil (by decide)
def wW (L:List (List cn)) (v:AV) (hp:af):Prop:=(L=[]/\v=.gu/\hp=[])\/∃ lb,L≠[]/\v=.aQ lb 0 L.length 1/\hp=[(lb,.vec (L.map ck).flatten)]
theorem GI (c:Int):ch ⟨[],c⟩=[.ai [.int .i64 c,.int .i64 0,.int .i64 0,.int .i64 0,.int .i64 0,.int .i64 0,.str [],.jC]]:=by show [AV.ai (.int .i64 (c+xu [])::.int .i64 (0:Nat)::vm c [])]=_;rw [show c+xu []=c by unfold xu;simp];rfl
theorem vY (E:Env) (x:bA):(gp E x).length<=1:=by unfold gp;split<;>simp
theorem Bl (E:Env) (x:bA):∀ l∈gp E x,l.length<=65536/\∀ r∈l,r.path.length<=15:=by
 intro l hl;unfold gp at hl;split at hl
 ·rw [List.mem_singleton.1 hl];exact ⟨by simp,fun r hr=>by rw [List.mem_singleton.1 hr];simp⟩
 cases hl
set_option maxHeartbeats 4000000 in
theorem YI (H:aD) (B:bE) (f:br) (hh:dx H) (h0:fA H=0) (hr:lM H B=true) (tW:fC H.lex f=0) (most:Nat) (vn:1<=most) (hm:most<=64) :
  ab Tryz.prog 142 [.agg (aZ H),.agg (dO B),.agg (dt f),.int .i64 most] [] (.sl 3 none ((gn (lO H B f) most).map nV)):=by
 have hf:=qF tW;have dG:=hf.bB;obtain ⟨E,rU⟩:∃ E,E=lO H B f:=⟨_,rfl⟩;obtain ⟨P,Lo⟩:∃ P,P=ib H.lex f:=⟨_,rfl⟩;have hE:gk E:=by rw [rU];exact Gg h0 hr hf
 have hP:nX E P:=by rw [rU,Lo];exact WU h0 hf
 have xw:P.length<=1000:=by rw [Lo];unfold ib;rw [List.length_cons,List.length_map];omega
 have Ku:∀ us∈E.ay,∀ u∈us,1<=u.kind/\u.kind<=4:=by rw [rU];intro us bd u hu;have:=(Gf (vN h0) bd).2 u hu;exact ⟨this.1,this.2.1⟩
 have mU:=XQ H B f hh h0 hf;rw [<- rU,<- Lo] at mU;have Gj:=QV H.lex f hh.lex (by unfold aq;omega);rw [if_pos tW,tW] at Gj;rw [<- rU];have uz:=XU E P hE hP xw Ku;refine ab.of ?_;refine aA (F:=Tryz.f142) c142 rfl rfl rfl mixed rfl fun X=>?_;(conv=>whnf);repeat ((first|refine ab.k0 (mU) ?_|refine ab.k0 (Gj) ?_|(refine aw.mono ?_ uz));conv=>whnf)
 rintro v h' ⟨S,T,hL,rfl,rfl⟩;have EZ:=hL.ls;have fH:=hL.lt;have YJ:E.H=H:=by rw [rU];rfl
 have Lp:E.jP=gE H.lex f:=by rw [rU];rfl
 have YK:=hE.jP;rw [Lp] at YK;(conv=>whnf);skip;refine bD rfl mixed [3,4,9,10,12,13,14,15] [] (fun m r h=>∃ (a:Nat) (c:Int) (Bh:List (List cn)),r=[(3,[],.int .i64 most),(4,[],.ai (aZ H)),(9,[],.ai (jy E P)),(10,[],.int .i64 (gE H.lex f)),(12,[],.sl 1 none (S.map mj)),(13,[],.sl 1 none (T.map kB)),(14,[],.sl 1 none (Bh.map ck)),(15,[],.int .i64 c)]/\h=[]/\m=a/\c=(a:Int) - 1/\a<=13/\∀ l,S[a]?=some l->Bh.length=l.length/\Bb E P most a l Bh) ?_ ?_
 ·(conv=>whnf);refine ⟨_,_,ah.nD (.cons (aa.refl _) (.cons (aa.refl _) (.cons (aa.refl _) (.cons (aa.refl _) (.cons (aa.refl _) (.cons (aa.refl _) (.cons (aa.nil (by decide)) (gT.refl _)))))))),_,13,12,[],rfl,rfl,rfl,rfl,by omega,fun l hl=>?_⟩;have:=(List.getElem?_eq_some_iff.1 hl).1;omega
 rintro a r h' ⟨a',c,Bh,rfl,rfl,rfl,lD,ha,qK⟩;(conv=>whnf);refine ⟨fun hz=>?_,fun hz=>?_⟩<;>simp at hz
 ·obtain ⟨d,rfl⟩:∃ d,a=d+1:=⟨a - 1,by omega⟩;have Jf:c=(d:Int):=(by omega);subst Jf;obtain ⟨l,hl⟩:=aF (l:=S) (i:=d) (by omega);have xz:=hL.Kr d l hl;have T9:=xz.bB hE hP (by omega);(conv=>whnf);skip;refine bD rfl mixed [3,4,9,10,12,13,14,15,16,17] [(16,1)] (fun m r h=>∃ (i:Nat) (Hh:List (List cn)) (eX:Nat),r=[(3,[],.int .i64 most),(4,[],.ai (aZ H)),(9,[],.ai (jy E P)),(10,[],.int .i64 (gE H.lex f)),(12,[],.sl 1 none (S.map mj)),(13,[],.sl 1 none (T.map kB)),(14,[],.sl 1 none (Bh.map ck)),(15,[],.int .i64 d),(16,[],.sl 1 (some eX) (Hh.map ck)),(17,[],.int .i64 i)]/\h=(eX,.tok)::[]/\m=l.length - i/\i<=l.length/\Hh.length=i/\Bb E P most d l Hh) ?_ ?_
  ·(conv=>whnf);refine ⟨by decide,fun eX=>?_⟩;(conv=>whnf);exact ⟨_,_,ah.refl _ _,_,0,[],eX,rfl,rfl,rfl,by omega,rfl,fun i s rs h1 h2=>(by cases h2)⟩
  rintro m r h' ⟨i,Hh,eX,rfl,rfl,rfl,hi,rZ,qX⟩;(conv=>whnf);repeat (refine ix (by assumption) ?_;conv=>whnf)
  refine ⟨fun eC=>?_,fun eC=>?_⟩<;>simp at eC
  ·obtain ⟨s,hs⟩:=aF eC;have ve:=List.mem_of_getElem? hs;have xA:=xz.can s ve;have zs:=xz.last s ve;have hx:=toS_ok hP (n:=d) (by omega) xA zs;have xg:=XK E P s xA xw;obtain ⟨x,jL⟩:∃ x,x=toS P d s:=⟨_,rfl⟩;rw [<- jL] at hx;have Dg:x.n=d:=by rw [jL];rfl
   (conv=>whnf);repeat ((first|refine ix (by assumption) ?_|refine aY (xg) ?_|refine ⟨_,_,bj.here _,⟨Nat.le_of_ble_eq_true rfl,rfl⟩,?_⟩|intro (nb:Nat));conv=>whnf)
   refine ⟨fun hq=>?_,fun hq=>?_⟩
   ·have hq:(decide (0<(d:Int))&&xn E P s)=true:=hq;simp only [Bool.and_eq_true,decide_eq_true_eq] at hq;obtain ⟨e1,e2⟩:=PG hP (n:=d) (by omega) xA;have YL:=hE.cost E.H.cC.oW (by simp [iq]);rw [YJ] at YL e2;rw [<- jL] at e1 e2;have aP:(ez E x).2=true:=by rw [e1];exact hq.2
    have dM:gp E x=[[⟨[],(ez E x).1⟩]]:=by unfold gp;rw [if_pos aP]
    have e3:=e2 hq.2;(conv=>whnf);repeat ((intro (xb:Nat));conv=>whnf)
    refine ⟨fun cR=>?_,fun cR=>?_⟩
    ·have e4:(ez E x).1=gE H.lex f+H.cC.oW:=(by rw [e3,if_pos cR,Lp]);(conv=>whnf);repeat ((first|refine ⟨ag ⟨by omega,by omega⟩,?_⟩|refine ⟨_,_,.head _,rfl,?_⟩|refine ⟨_,_,.here _,aI,?_⟩|refine And.intro (by show aJ (aH Tryz.f142 _) _=true;decide +kernel) ?_);conv=>whnf)
     refine Ll rfl mixed (ah.freeze (b:=xb) (.here _) (jd.refl _) (.cons (.refl _) (.cons (.refl _) (.cons (.refl _) (.cons (.refl _) (.cons (.refl _) (.cons (.refl _) (.cons (.refl _) (.cons (.refl _) (.cons (.refl _) (.cons (.refl _) (.cons (.refl _) (.cons (.refl _) (.cons (.ptr rfl) (qW.refl _))))))))))))))) ?_;(conv=>whnf);repeat ((refine ⟨⟨Nat.le_of_ble_eq_true rfl,Nat.le_of_ble_eq_true rfl⟩,fun bb=>?_⟩);conv=>whnf)
     by_cases hd:d<12
     ·obtain ⟨l',dR⟩:=aF (l:=S) (i:=d+1) (by omega);obtain ⟨rows,DW⟩:=aF (l:=T) (i:=d) (by omega);obtain ⟨vz,DX⟩:=hL.step d l l' rows hl dR DW;obtain ⟨row,og⟩:=aF (l:=rows) (i:=i) (by omega);have ax:=DX i s row hs og;rw [<- jL] at ax;obtain ⟨nN,xI⟩:=qK l' dR;have QW:=ax.len;have fu:=Di (x:=x) hE;refine bD rfl mixed [3,4,9,10,12,13,14,15,16,17,18,21] [] (fun m r h=>∃ (k:Nat) (lv:AV) (lh:af),r=[(3,[],.int .i64 most),(4,[],.ai (aZ H)),(9,[],.ai (jy E P)),(10,[],.int .i64 (gE H.lex f)),(12,[],.sl 1 none (S.map mj)),(13,[],.sl 1 none (T.map kB)),(14,[],.sl 1 none (Bh.map ck)),(15,[],.int .i64 d),(16,[],.sl 1 (some eX) (Hh.map ck)),(17,[],.int .i64 i),(18,[],lv),(21,[],.int .i64 k)]/\h=(eX,.tok)::lh/\m=row.length - k/\k<=row.length/\wW (gp E x++gq Bh (row.take k)) lv lh) ?_ ?_
      ·(conv=>whnf);exact ⟨_,_,ah.perm (List.Perm.swap _ _ _),_,0,.aQ bb 0 1 1,[(bb,_)],rfl,rfl,rfl,by omega,.inr ⟨bb,by rw [dM];simp,by rw [dM];rfl,by rw [dM,e4];show [(bb,Ob.vec [AV.sl 1 none [_]])]=[(bb,Ob.vec [AV.sl 1 none [ch ⟨[],_⟩]])];rw [GI];rfl⟩⟩
      rintro m r h' ⟨k,lv,lh,rfl,rfl,rfl,hk,ho⟩;(conv=>whnf);repeat (refine ix (by assumption) ?_;conv=>whnf)
      refine ⟨fun cx=>?_,fun cx=>?_⟩
      ·have cx:(decide ((d:Int)<12)&&decide ((k:Int)<((row.map oX).length:Int)))=true:=cx;rw [List.length_map,Bool.and_eq_true,decide_eq_true_eq,decide_eq_true_eq] at cx;obtain ⟨t,ht⟩:=aF (l:=row) (i:=k) (by omega);obtain ⟨mv,fD⟩:=aF (l:=di E x) (i:=k) (by omega);have xJ:=ax.get ht fD;have bI:=rO hE hx (List.mem_of_getElem? fD);have vH:=bI.cost;rw [<- xJ.cost] at vH;obtain ⟨r1,g1,g2⟩:=xJ.to;obtain ⟨Bt,xK⟩:=aF (l:=Bh) (i:=t.to) (by have:=(List.getElem?_eq_some_iff.1 g1).1;omega);have aV:=xI _ _ _ g1 xK;have gO:((d+1:Nat):Int)=(d:Int)+1:=by push_cast;rfl
       rw [gO,g2] at aV;have DY:=aV.cost hE bI.to;have DZ:=aV.short hE bI.to;have QX:=aV.many;have gD:gq Bh (row.take (k+1))=gq Bh (row.take k)++[Bt.map (gF t)]:=by unfold gq;rw [cN ht,List.map_append,List.map_singleton,List.getD_eq_getElem?_getD,xK];rfl
       (conv=>whnf);repeat ((first|refine ix (by assumption) ?_|refine ⟨_,_,bj.here _,⟨Nat.le_of_ble_eq_true rfl,rfl⟩,?_⟩|intro (nb:Nat));conv=>whnf)
       refine bD rfl mixed [3,4,9,10,12,13,14,15,16,17,18,21,22,23,24] [(23,1)] (fun m r h=>∃ (j:Nat) (na:Nat),r=[(3,[],.int .i64 most),(4,[],.ai (aZ H)),(9,[],.ai (jy E P)),(10,[],.int .i64 (gE H.lex f)),(12,[],.sl 1 none (S.map mj)),(13,[],.sl 1 none (T.map kB)),(14,[],.sl 1 none (Bh.map ck)),(15,[],.int .i64 d),(16,[],.sl 1 (some eX) (Hh.map ck)),(17,[],.int .i64 i),(18,[],lv),(21,[],.int .i64 k),(22,[],.ai (oX t)),(23,[],.sl 1 (some na) (((Bt.take j).map (gF t)).map ch)),(24,[],.int .i64 j)]/\h=(na,.tok)::(eX,.tok)::lh/\m=Bt.length - j/\j<=Bt.length) ?_ ?_
       ·(conv=>whnf);refine ⟨by decide,fun na=>?_⟩;(conv=>whnf);exact ⟨_,_,ah.refl _ _,_,0,na,rfl,rfl,rfl,by omega⟩
       rintro m r h' ⟨j,na,rfl,rfl,rfl,hj⟩;(conv=>whnf);repeat (refine ix (by assumption) ?_;conv=>whnf)
       refine ⟨fun bx=>?_,fun bx=>?_⟩<;>simp at bx
       ·obtain ⟨rr,tE⟩:=aF bx;have pC:=DY rr (List.mem_of_getElem? tE);have jM:=DZ rr (List.mem_of_getElem? tE);(conv=>whnf);repeat ((first|refine ⟨ag ⟨by omega,by omega⟩,?_⟩|refine ix (by assumption) ?_|(refine ⟨(by rw [List.length_append,List.length_singleton,List.length_map,List.length_map,List.length_take];unfold aN;omega),fun q'=>⟨_,.here _,?_⟩⟩)|refine And.intro (by show aJ (aH Tryz.f142 _) _=true;decide +kernel) ?_);conv=>whnf)
        refine ⟨_,_,ah.refl _ _,_,(by omega),j+1,q',?_,rfl,rfl,by omega⟩;rw [cN tE,List.map_append,List.map_append,List.map_singleton,List.map_singleton,Kx];rfl
       obtain ⟨Lk,tF⟩:∃ Lk,Lk=gp E x++gq Bh (row.take k):=⟨_,rfl⟩;have ll:gp E x++gq Bh (row.take (k+1))=Lk++[Bt.map (gF t)]:=(by rw [gD,tF,List.append_assoc]);have rF:Lk.length+1<=aN:=by have h1:=vY E x;rw [tF,List.length_append];unfold gq;rw [List.length_map,List.length_take];unfold aN;omega
       rw [<- tF] at ho;rw [List.take_of_length_le (by omega)];rcases ho with ⟨eV,rfl,rfl⟩|⟨lb,fw,rfl,rfl⟩
       ·(conv=>whnf);repeat ((first|refine ⟨ag ⟨by omega,by omega⟩,?_⟩|(refine ⟨⟨Nat.le_of_ble_eq_true rfl,Nat.le_of_ble_eq_true rfl⟩,fun b4=>?_⟩));conv=>whnf)
        exact ⟨_,_,ah.trans (ah.cells (ys:=ck (Bt.map (gF t))) (.here _) (.cons aa.sl .nil)) (ah.trans (ah.drop (.there (.here _))) (ah.perm (List.Perm.swap _ _ _))),_,(by omega),k+1,_,[(b4,_)],rfl,rfl,rfl,by omega,.inr ⟨b4,by rw [ll];simp,by rw [ll,eV];rfl,by rw [ll,eV];rfl⟩⟩
       skip;(conv=>whnf);repeat ((first|refine ⟨ag ⟨by omega,by omega⟩,?_⟩|(refine ⟨_,.tail _ (.tail _ (.head _)),⟨qq gQ,rF⟩,fun b4=>⟨_,.there (.there (.here _)),?_⟩⟩));conv=>whnf)
       exact ⟨_,_,ah.trans (ah.cells (ys:=(Lk.map ck).flatten++(ck (Bt.map (gF t))++[])) (.there (.there (.here _))) (cu.pre (.cons aa.sl .nil) _)) (ah.drop (.here _)),_,(by omega),k+1,_,[(b4,_)],rfl,rfl,rfl,by omega,.inr ⟨b4,by rw [ll];simp,by rw [ll,List.length_append];rfl,by rw [ll,List.map_append,List.flatten_append];rfl⟩⟩
      have cx:(decide ((d:Int)<12)&&decide ((k:Int)<((row.map oX).length:Int)))=false:=cx;rw [List.length_map,decide_eq_true (by omega),Bool.true_and,decide_eq_false_iff_not] at cx;rw [List.take_of_length_le (by omega)] at ho;obtain ⟨LS,jB⟩:∃ LS,LS=gp E x++gq Bh row:=⟨_,rfl⟩;have nc:=Ky xI nN ax;have bf:=AY hE hx vn nc;rw [<- jB] at ho bf;rw [jL] at bf
      have gW:∀ l∈LS,l.length<=65536/\∀ r∈l,r.path.length<=15:=by
       intro l2 cX;rw [jB] at cX;rcases List.mem_append.1 cX with h2|h2
       ·exact Bl E x l2 h2
       obtain ⟨k2,bg⟩:=List.mem_iff_getElem?.1 h2;have jT:=(List.getElem?_eq_some_iff.1 bg).1;obtain ⟨mv,fD⟩:=aF (l:=di E x) (i:=k2) (by rw [<- nc.1];exact jT);obtain ⟨t,rs,_,_,c3,rfl⟩:=nc.2 k2 l2 mv bg fD;have bI:=rO hE hx (List.mem_of_getElem? fD);have:=c3.many;refine ⟨by rw [List.length_map];omega,fun r hr=>?_⟩;obtain ⟨r0,kF,rfl⟩:=List.mem_map.1 hr;have:=c3.short hE bI.to r0 kF;show (t::r0.path).length<=15;rw [List.length_cons];omega
      have eu:=fun l hl=>(gW l hl).1;have cM:=fun l hl=>(gW l hl).2;have lX:LS.length<=65536:=by have h1:=vY E x;rw [jB,List.length_append];unfold gq;rw [List.length_map];omega
      rcases ho with ⟨eV,rfl,rfl⟩|⟨lb,fw,rfl,rfl⟩
      ·rw [eV,wU] at bf;(conv=>whnf);repeat ((first|refine ⟨ag ⟨by omega,by omega⟩,?_⟩|refine ab.k0 (wV most hm) ?_|(refine ⟨(by rw [List.length_append,List.length_singleton,List.length_map];unfold aN;omega),fun q'=>⟨_,.here _,?_⟩⟩));conv=>whnf)
       exact ⟨_,_,ah.refl _ _,_,(by omega),i+1,Hh++[[]],q',by rw [List.map_append];rfl,rfl,rfl,by omega,by rw [List.length_append,List.length_singleton];omega,qX.snoc (by rw [rZ];exact hs) bf⟩
      (conv=>whnf);skip;refine aw.mono ?_ (Lst.aw.re (h2:=[(eX,.tok)]) (R':=fun v H=>v=.sl 1 none ((cI LS most).map ch)/\H=[(eX,.tok)]) (uf LS (List.length_pos_iff.2 fw) lX eu cM most hm lb) (List.Perm.swap _ _ _) ?_)
      rotate_left
      ·rintro v h1 ⟨rfl,rfl⟩;exact ⟨_,.refl _,rfl,rfl⟩
      rintro v h1 ⟨rfl,rfl⟩;(conv=>whnf);repeat ((first|refine ⟨ag ⟨by omega,by omega⟩,?_⟩|(refine ⟨(by rw [List.length_append,List.length_singleton,List.length_map];unfold aN;omega),fun q'=>⟨_,.here _,?_⟩⟩));conv=>whnf)
      exact ⟨_,_,ah.refl _ _,_,(by omega),i+1,Hh++[cI LS most],q',by rw [List.map_append];rfl,rfl,rfl,by omega,by rw [List.length_append,List.length_singleton];omega,qX.snoc (by rw [rZ];exact hs) bf⟩
     have JQ:d=12:=(by omega);refine bD rfl mixed [3,4,9,10,12,13,14,15,16,17,18,21] [] (fun m r h=>∃ (k:Nat) (lv:AV) (lh:af),r=[(3,[],.int .i64 most),(4,[],.ai (aZ H)),(9,[],.ai (jy E P)),(10,[],.int .i64 (gE H.lex f)),(12,[],.sl 1 none (S.map mj)),(13,[],.sl 1 none (T.map kB)),(14,[],.sl 1 none (Bh.map ck)),(15,[],.int .i64 d),(16,[],.sl 1 (some eX) (Hh.map ck)),(17,[],.int .i64 i),(18,[],lv),(21,[],.int .i64 k)]/\h=(eX,.tok)::lh/\m=0/\k=0/\wW (gp E x++[]) lv lh) ?_ ?_
     ·(conv=>whnf);exact ⟨_,_,ah.perm (List.Perm.swap _ _ _),_,0,.aQ bb 0 1 1,[(bb,_)],rfl,rfl,rfl,by omega,.inr ⟨bb,by rw [dM];simp,by rw [dM];rfl,by rw [dM,e4];show [(bb,Ob.vec [AV.sl 1 none [_]])]=[(bb,Ob.vec [AV.sl 1 none [ch ⟨[],_⟩]])];rw [GI];rfl⟩⟩
     rintro m r h' ⟨k,lv,lh,rfl,rfl,rfl,rfl,ho⟩;(conv=>whnf);repeat ((refine ⟨0,kB [[]],?_,?_⟩;(focus (conv=>whnf;skip));(focus (intro uE;exact absurd (of_decide_eq_true uE) (by omega))));conv=>whnf)
     refine cF (by rw [decide_eq_false (show ¬ ((d:Int)<12) by omega)];rfl) ?_;obtain ⟨LS,jB⟩:∃ LS,LS=gp E x++[]:=⟨_,rfl⟩;have nc:=Kz (E:=E) (m:=most) (x:=x) (by omega);have bf:=AY hE hx vn nc;rw [<- jB] at ho bf;rw [jL] at bf;have gW:∀ l∈LS,l.length<=65536/\∀ r∈l,r.path.length<=15:=by intro l2 cX;rw [jB,List.append_nil] at cX;exact Bl E x l2 cX
     have eu:=fun l hl=>(gW l hl).1;have cM:=fun l hl=>(gW l hl).2;have lX:LS.length<=65536:=by have h1:=vY E x;rw [jB,List.append_nil];omega
     rcases ho with ⟨eV,rfl,rfl⟩|⟨lb,fw,rfl,rfl⟩
     ·rw [eV,wU] at bf;(conv=>whnf);repeat ((first|refine ⟨ag ⟨by omega,by omega⟩,?_⟩|refine ab.k0 (wV most hm) ?_|(refine ⟨(by rw [List.length_append,List.length_singleton,List.length_map];unfold aN;omega),fun q'=>⟨_,.here _,?_⟩⟩));conv=>whnf)
      exact ⟨_,_,ah.refl _ _,_,(by omega),i+1,Hh++[[]],q',by rw [List.map_append];rfl,rfl,rfl,by omega,by rw [List.length_append,List.length_singleton];omega,qX.snoc (by rw [rZ];exact hs) bf⟩
     (conv=>whnf);skip;refine aw.mono ?_ (Lst.aw.re (h2:=[(eX,.tok)]) (R':=fun v H=>v=.sl 1 none ((cI LS most).map ch)/\H=[(eX,.tok)]) (uf LS (List.length_pos_iff.2 fw) lX eu cM most hm lb) (List.Perm.swap _ _ _) ?_)
     rotate_left
     ·rintro v h1 ⟨rfl,rfl⟩;exact ⟨_,.refl _,rfl,rfl⟩
     rintro v h1 ⟨rfl,rfl⟩;(conv=>whnf);repeat ((first|refine ⟨ag ⟨by omega,by omega⟩,?_⟩|(refine ⟨(by rw [List.length_append,List.length_singleton,List.length_map];unfold aN;omega),fun q'=>⟨_,.here _,?_⟩⟩));conv=>whnf)
     exact ⟨_,_,ah.refl _ _,_,(by omega),i+1,Hh++[cI LS most],q',by rw [List.map_append];rfl,rfl,rfl,by omega,by rw [List.length_append,List.length_singleton];omega,qX.snoc (by rw [rZ];exact hs) bf⟩
    have e4:(ez E x).1=gE H.lex f:=by rw [e3,if_neg (by rw [cR];decide),Lp];omega
    (conv=>whnf);skip;refine Ll rfl mixed (ah.freeze (b:=xb) (.here _) (jd.refl _) (.cons (.refl _) (.cons (.refl _) (.cons (.refl _) (.cons (.refl _) (.cons (.refl _) (.cons (.refl _) (.cons (.refl _) (.cons (.refl _) (.cons (.refl _) (.cons (.refl _) (.cons (.refl _) (.cons (.refl _) (.cons (.ptr rfl) (qW.refl _))))))))))))))) ?_;(conv=>whnf);repeat ((refine ⟨⟨Nat.le_of_ble_eq_true rfl,Nat.le_of_ble_eq_true rfl⟩,fun bb=>?_⟩);conv=>whnf)
    by_cases hd:d<12
    ·obtain ⟨l',dR⟩:=aF (l:=S) (i:=d+1) (by omega);obtain ⟨rows,DW⟩:=aF (l:=T) (i:=d) (by omega);obtain ⟨vz,DX⟩:=hL.step d l l' rows hl dR DW;obtain ⟨row,og⟩:=aF (l:=rows) (i:=i) (by omega);have ax:=DX i s row hs og;rw [<- jL] at ax;obtain ⟨nN,xI⟩:=qK l' dR;have QW:=ax.len;have fu:=Di (x:=x) hE;refine bD rfl mixed [3,4,9,10,12,13,14,15,16,17,18,21] [] (fun m r h=>∃ (k:Nat) (lv:AV) (lh:af),r=[(3,[],.int .i64 most),(4,[],.ai (aZ H)),(9,[],.ai (jy E P)),(10,[],.int .i64 (gE H.lex f)),(12,[],.sl 1 none (S.map mj)),(13,[],.sl 1 none (T.map kB)),(14,[],.sl 1 none (Bh.map ck)),(15,[],.int .i64 d),(16,[],.sl 1 (some eX) (Hh.map ck)),(17,[],.int .i64 i),(18,[],lv),(21,[],.int .i64 k)]/\h=(eX,.tok)::lh/\m=row.length - k/\k<=row.length/\wW (gp E x++gq Bh (row.take k)) lv lh) ?_ ?_
     ·(conv=>whnf);exact ⟨_,_,ah.perm (List.Perm.swap _ _ _),_,0,.aQ bb 0 1 1,[(bb,_)],rfl,rfl,rfl,by omega,.inr ⟨bb,by rw [dM];simp,by rw [dM];rfl,by rw [dM,e4];show [(bb,Ob.vec [AV.sl 1 none [_]])]=[(bb,Ob.vec [AV.sl 1 none [ch ⟨[],_⟩]])];rw [GI];rfl⟩⟩
     rintro m r h' ⟨k,lv,lh,rfl,rfl,rfl,hk,ho⟩;(conv=>whnf);repeat (refine ix (by assumption) ?_;conv=>whnf)
     refine ⟨fun cx=>?_,fun cx=>?_⟩
     ·have cx:(decide ((d:Int)<12)&&decide ((k:Int)<((row.map oX).length:Int)))=true:=cx;rw [List.length_map,Bool.and_eq_true,decide_eq_true_eq,decide_eq_true_eq] at cx;obtain ⟨t,ht⟩:=aF (l:=row) (i:=k) (by omega);obtain ⟨mv,fD⟩:=aF (l:=di E x) (i:=k) (by omega);have xJ:=ax.get ht fD;have bI:=rO hE hx (List.mem_of_getElem? fD);have vH:=bI.cost;rw [<- xJ.cost] at vH;obtain ⟨r1,g1,g2⟩:=xJ.to;obtain ⟨Bt,xK⟩:=aF (l:=Bh) (i:=t.to) (by have:=(List.getElem?_eq_some_iff.1 g1).1;omega);have aV:=xI _ _ _ g1 xK;have gO:((d+1:Nat):Int)=(d:Int)+1:=by push_cast;rfl
      rw [gO,g2] at aV;have DY:=aV.cost hE bI.to;have DZ:=aV.short hE bI.to;have QX:=aV.many;have gD:gq Bh (row.take (k+1))=gq Bh (row.take k)++[Bt.map (gF t)]:=by unfold gq;rw [cN ht,List.map_append,List.map_singleton,List.getD_eq_getElem?_getD,xK];rfl
      (conv=>whnf);repeat ((first|refine ix (by assumption) ?_|refine ⟨_,_,bj.here _,⟨Nat.le_of_ble_eq_true rfl,rfl⟩,?_⟩|intro (nb:Nat));conv=>whnf)
      refine bD rfl mixed [3,4,9,10,12,13,14,15,16,17,18,21,22,23,24] [(23,1)] (fun m r h=>∃ (j:Nat) (na:Nat),r=[(3,[],.int .i64 most),(4,[],.ai (aZ H)),(9,[],.ai (jy E P)),(10,[],.int .i64 (gE H.lex f)),(12,[],.sl 1 none (S.map mj)),(13,[],.sl 1 none (T.map kB)),(14,[],.sl 1 none (Bh.map ck)),(15,[],.int .i64 d),(16,[],.sl 1 (some eX) (Hh.map ck)),(17,[],.int .i64 i),(18,[],lv),(21,[],.int .i64 k),(22,[],.ai (oX t)),(23,[],.sl 1 (some na) (((Bt.take j).map (gF t)).map ch)),(24,[],.int .i64 j)]/\h=(na,.tok)::(eX,.tok)::lh/\m=Bt.length - j/\j<=Bt.length) ?_ ?_
      ·(conv=>whnf);refine ⟨by decide,fun na=>?_⟩;(conv=>whnf);exact ⟨_,_,ah.refl _ _,_,0,na,rfl,rfl,rfl,by omega⟩
      rintro m r h' ⟨j,na,rfl,rfl,rfl,hj⟩;(conv=>whnf);repeat (refine ix (by assumption) ?_;conv=>whnf)
      refine ⟨fun bx=>?_,fun bx=>?_⟩<;>simp at bx
      ·obtain ⟨rr,tE⟩:=aF bx;have pC:=DY rr (List.mem_of_getElem? tE);have jM:=DZ rr (List.mem_of_getElem? tE);(conv=>whnf);repeat ((first|refine ⟨ag ⟨by omega,by omega⟩,?_⟩|refine ix (by assumption) ?_|(refine ⟨(by rw [List.length_append,List.length_singleton,List.length_map,List.length_map,List.length_take];unfold aN;omega),fun q'=>⟨_,.here _,?_⟩⟩)|refine And.intro (by show aJ (aH Tryz.f142 _) _=true;decide +kernel) ?_);conv=>whnf)
       refine ⟨_,_,ah.refl _ _,_,(by omega),j+1,q',?_,rfl,rfl,by omega⟩;rw [cN tE,List.map_append,List.map_append,List.map_singleton,List.map_singleton,Kx];rfl
      obtain ⟨Lk,tF⟩:∃ Lk,Lk=gp E x++gq Bh (row.take k):=⟨_,rfl⟩;have ll:gp E x++gq Bh (row.take (k+1))=Lk++[Bt.map (gF t)]:=(by rw [gD,tF,List.append_assoc]);have rF:Lk.length+1<=aN:=by have h1:=vY E x;rw [tF,List.length_append];unfold gq;rw [List.length_map,List.length_take];unfold aN;omega
      rw [<- tF] at ho;rw [List.take_of_length_le (by omega)];rcases ho with ⟨eV,rfl,rfl⟩|⟨lb,fw,rfl,rfl⟩
      ·(conv=>whnf);repeat ((first|refine ⟨ag ⟨by omega,by omega⟩,?_⟩|(refine ⟨⟨Nat.le_of_ble_eq_true rfl,Nat.le_of_ble_eq_true rfl⟩,fun b4=>?_⟩));conv=>whnf)
       exact ⟨_,_,ah.trans (ah.cells (ys:=ck (Bt.map (gF t))) (.here _) (.cons aa.sl .nil)) (ah.trans (ah.drop (.there (.here _))) (ah.perm (List.Perm.swap _ _ _))),_,(by omega),k+1,_,[(b4,_)],rfl,rfl,rfl,by omega,.inr ⟨b4,by rw [ll];simp,by rw [ll,eV];rfl,by rw [ll,eV];rfl⟩⟩
      skip;(conv=>whnf);repeat ((first|refine ⟨ag ⟨by omega,by omega⟩,?_⟩|(refine ⟨_,.tail _ (.tail _ (.head _)),⟨qq gQ,rF⟩,fun b4=>⟨_,.there (.there (.here _)),?_⟩⟩));conv=>whnf)
      exact ⟨_,_,ah.trans (ah.cells (ys:=(Lk.map ck).flatten++(ck (Bt.map (gF t))++[])) (.there (.there (.here _))) (cu.pre (.cons aa.sl .nil) _)) (ah.drop (.here _)),_,(by omega),k+1,_,[(b4,_)],rfl,rfl,rfl,by omega,.inr ⟨b4,by rw [ll];simp,by rw [ll,List.length_append];rfl,by rw [ll,List.map_append,List.flatten_append];rfl⟩⟩
     have cx:(decide ((d:Int)<12)&&decide ((k:Int)<((row.map oX).length:Int)))=false:=cx;rw [List.length_map,decide_eq_true (by omega),Bool.true_and,decide_eq_false_iff_not] at cx;rw [List.take_of_length_le (by omega)] at ho;obtain ⟨LS,jB⟩:∃ LS,LS=gp E x++gq Bh row:=⟨_,rfl⟩;have nc:=Ky xI nN ax;have bf:=AY hE hx vn nc;rw [<- jB] at ho bf;rw [jL] at bf
     have gW:∀ l∈LS,l.length<=65536/\∀ r∈l,r.path.length<=15:=by
      intro l2 cX;rw [jB] at cX;rcases List.mem_append.1 cX with h2|h2
      ·exact Bl E x l2 h2
      obtain ⟨k2,bg⟩:=List.mem_iff_getElem?.1 h2;have jT:=(List.getElem?_eq_some_iff.1 bg).1;obtain ⟨mv,fD⟩:=aF (l:=di E x) (i:=k2) (by rw [<- nc.1];exact jT);obtain ⟨t,rs,_,_,c3,rfl⟩:=nc.2 k2 l2 mv bg fD;have bI:=rO hE hx (List.mem_of_getElem? fD);have:=c3.many;refine ⟨by rw [List.length_map];omega,fun r hr=>?_⟩;obtain ⟨r0,kF,rfl⟩:=List.mem_map.1 hr;have:=c3.short hE bI.to r0 kF;show (t::r0.path).length<=15;rw [List.length_cons];omega
     have eu:=fun l hl=>(gW l hl).1;have cM:=fun l hl=>(gW l hl).2;have lX:LS.length<=65536:=by have h1:=vY E x;rw [jB,List.length_append];unfold gq;rw [List.length_map];omega
     rcases ho with ⟨eV,rfl,rfl⟩|⟨lb,fw,rfl,rfl⟩
     ·rw [eV,wU] at bf;(conv=>whnf);repeat ((first|refine ⟨ag ⟨by omega,by omega⟩,?_⟩|refine ab.k0 (wV most hm) ?_|(refine ⟨(by rw [List.length_append,List.length_singleton,List.length_map];unfold aN;omega),fun q'=>⟨_,.here _,?_⟩⟩));conv=>whnf)
      exact ⟨_,_,ah.refl _ _,_,(by omega),i+1,Hh++[[]],q',by rw [List.map_append];rfl,rfl,rfl,by omega,by rw [List.length_append,List.length_singleton];omega,qX.snoc (by rw [rZ];exact hs) bf⟩
     (conv=>whnf);skip;refine aw.mono ?_ (Lst.aw.re (h2:=[(eX,.tok)]) (R':=fun v H=>v=.sl 1 none ((cI LS most).map ch)/\H=[(eX,.tok)]) (uf LS (List.length_pos_iff.2 fw) lX eu cM most hm lb) (List.Perm.swap _ _ _) ?_)
     rotate_left
     ·rintro v h1 ⟨rfl,rfl⟩;exact ⟨_,.refl _,rfl,rfl⟩
     rintro v h1 ⟨rfl,rfl⟩;(conv=>whnf);repeat ((first|refine ⟨ag ⟨by omega,by omega⟩,?_⟩|(refine ⟨(by rw [List.length_append,List.length_singleton,List.length_map];unfold aN;omega),fun q'=>⟨_,.here _,?_⟩⟩));conv=>whnf)
     exact ⟨_,_,ah.refl _ _,_,(by omega),i+1,Hh++[cI LS most],q',by rw [List.map_append];rfl,rfl,rfl,by omega,by rw [List.length_append,List.length_singleton];omega,qX.snoc (by rw [rZ];exact hs) bf⟩
    have JQ:d=12:=(by omega);refine bD rfl mixed [3,4,9,10,12,13,14,15,16,17,18,21] [] (fun m r h=>∃ (k:Nat) (lv:AV) (lh:af),r=[(3,[],.int .i64 most),(4,[],.ai (aZ H)),(9,[],.ai (jy E P)),(10,[],.int .i64 (gE H.lex f)),(12,[],.sl 1 none (S.map mj)),(13,[],.sl 1 none (T.map kB)),(14,[],.sl 1 none (Bh.map ck)),(15,[],.int .i64 d),(16,[],.sl 1 (some eX) (Hh.map ck)),(17,[],.int .i64 i),(18,[],lv),(21,[],.int .i64 k)]/\h=(eX,.tok)::lh/\m=0/\k=0/\wW (gp E x++[]) lv lh) ?_ ?_
    ·(conv=>whnf);exact ⟨_,_,ah.perm (List.Perm.swap _ _ _),_,0,.aQ bb 0 1 1,[(bb,_)],rfl,rfl,rfl,by omega,.inr ⟨bb,by rw [dM];simp,by rw [dM];rfl,by rw [dM,e4];show [(bb,Ob.vec [AV.sl 1 none [_]])]=[(bb,Ob.vec [AV.sl 1 none [ch ⟨[],_⟩]])];rw [GI];rfl⟩⟩
    rintro m r h' ⟨k,lv,lh,rfl,rfl,rfl,rfl,ho⟩;(conv=>whnf);repeat ((refine ⟨0,kB [[]],?_,?_⟩;(focus (conv=>whnf;skip));(focus (intro uE;exact absurd (of_decide_eq_true uE) (by omega))));conv=>whnf)
    refine cF (by rw [decide_eq_false (show ¬ ((d:Int)<12) by omega)];rfl) ?_;obtain ⟨LS,jB⟩:∃ LS,LS=gp E x++[]:=⟨_,rfl⟩;have nc:=Kz (E:=E) (m:=most) (x:=x) (by omega);have bf:=AY hE hx vn nc;rw [<- jB] at ho bf;rw [jL] at bf;have gW:∀ l∈LS,l.length<=65536/\∀ r∈l,r.path.length<=15:=by intro l2 cX;rw [jB,List.append_nil] at cX;exact Bl E x l2 cX
    have eu:=fun l hl=>(gW l hl).1;have cM:=fun l hl=>(gW l hl).2;have lX:LS.length<=65536:=by have h1:=vY E x;rw [jB,List.append_nil];omega
    rcases ho with ⟨eV,rfl,rfl⟩|⟨lb,fw,rfl,rfl⟩
    ·rw [eV,wU] at bf;(conv=>whnf);repeat ((first|refine ⟨ag ⟨by omega,by omega⟩,?_⟩|refine ab.k0 (wV most hm) ?_|(refine ⟨(by rw [List.length_append,List.length_singleton,List.length_map];unfold aN;omega),fun q'=>⟨_,.here _,?_⟩⟩));conv=>whnf)
     exact ⟨_,_,ah.refl _ _,_,(by omega),i+1,Hh++[[]],q',by rw [List.map_append];rfl,rfl,rfl,by omega,by rw [List.length_append,List.length_singleton];omega,qX.snoc (by rw [rZ];exact hs) bf⟩
    (conv=>whnf);skip;refine aw.mono ?_ (Lst.aw.re (h2:=[(eX,.tok)]) (R':=fun v H=>v=.sl 1 none ((cI LS most).map ch)/\H=[(eX,.tok)]) (uf LS (List.length_pos_iff.2 fw) lX eu cM most hm lb) (List.Perm.swap _ _ _) ?_)
    rotate_left
    ·rintro v h1 ⟨rfl,rfl⟩;exact ⟨_,.refl _,rfl,rfl⟩
    rintro v h1 ⟨rfl,rfl⟩;(conv=>whnf);repeat ((first|refine ⟨ag ⟨by omega,by omega⟩,?_⟩|(refine ⟨(by rw [List.length_append,List.length_singleton,List.length_map];unfold aN;omega),fun q'=>⟨_,.here _,?_⟩⟩));conv=>whnf)
    exact ⟨_,_,ah.refl _ _,_,(by omega),i+1,Hh++[cI LS most],q',by rw [List.map_append];rfl,rfl,rfl,by omega,by rw [List.length_append,List.length_singleton];omega,qX.snoc (by rw [rZ];exact hs) bf⟩
   have hq:(decide (0<(d:Int))&&xn E P s)=false:=hq
   have aP:(ez E x).2=false:=by
    by_cases Cr:d=0
    ·subst Cr;rw [jL];unfold ez;rw [if_pos (by show (decide (((0:Nat):Int)=0)||_)=true;rfl)]
    obtain ⟨e1,e2⟩:=PG hP (n:=d) (by omega) xA;rw [<- jL] at e1;rw [e1];rw [decide_eq_true (by omega),Bool.true_and] at hq;exact hq
   have dM:gp E x=[]:=by unfold gp;rw [if_neg (by rw [aP];decide)]
   (conv=>whnf);skip;by_cases hd:d<12
   ·obtain ⟨l',dR⟩:=aF (l:=S) (i:=d+1) (by omega);obtain ⟨rows,DW⟩:=aF (l:=T) (i:=d) (by omega);obtain ⟨vz,DX⟩:=hL.step d l l' rows hl dR DW;obtain ⟨row,og⟩:=aF (l:=rows) (i:=i) (by omega);have ax:=DX i s row hs og;rw [<- jL] at ax;obtain ⟨nN,xI⟩:=qK l' dR;have QW:=ax.len;have fu:=Di (x:=x) hE;refine bD rfl mixed [3,4,9,10,12,13,14,15,16,17,18,21] [] (fun m r h=>∃ (k:Nat) (lv:AV) (lh:af),r=[(3,[],.int .i64 most),(4,[],.ai (aZ H)),(9,[],.ai (jy E P)),(10,[],.int .i64 (gE H.lex f)),(12,[],.sl 1 none (S.map mj)),(13,[],.sl 1 none (T.map kB)),(14,[],.sl 1 none (Bh.map ck)),(15,[],.int .i64 d),(16,[],.sl 1 (some eX) (Hh.map ck)),(17,[],.int .i64 i),(18,[],lv),(21,[],.int .i64 k)]/\h=(eX,.tok)::lh/\m=row.length - k/\k<=row.length/\wW (gp E x++gq Bh (row.take k)) lv lh) ?_ ?_
    ·(conv=>whnf);exact ⟨_,_,ah.nD (.cons (aa.refl _) (.cons (aa.refl _) (.cons (aa.refl _) (.cons (aa.refl _) (.cons (aa.refl _) (.cons (aa.refl _) (.cons (aa.refl _) (.cons (aa.refl _) (.cons (aa.refl _) (.cons (aa.refl _) (.cons wD (gT.refl _)))))))))))),_,0,.gu,[],rfl,rfl,rfl,by omega,.inl ⟨by rw [dM];rfl,rfl,rfl⟩⟩
    rintro m r h' ⟨k,lv,lh,rfl,rfl,rfl,hk,ho⟩;(conv=>whnf);repeat (refine ix (by assumption) ?_;conv=>whnf)
    refine ⟨fun cx=>?_,fun cx=>?_⟩
    ·have cx:(decide ((d:Int)<12)&&decide ((k:Int)<((row.map oX).length:Int)))=true:=cx;rw [List.length_map,Bool.and_eq_true,decide_eq_true_eq,decide_eq_true_eq] at cx;obtain ⟨t,ht⟩:=aF (l:=row) (i:=k) (by omega);obtain ⟨mv,fD⟩:=aF (l:=di E x) (i:=k) (by omega);have xJ:=ax.get ht fD;have bI:=rO hE hx (List.mem_of_getElem? fD);have vH:=bI.cost;rw [<- xJ.cost] at vH;obtain ⟨r1,g1,g2⟩:=xJ.to;obtain ⟨Bt,xK⟩:=aF (l:=Bh) (i:=t.to) (by have:=(List.getElem?_eq_some_iff.1 g1).1;omega);have aV:=xI _ _ _ g1 xK;have gO:((d+1:Nat):Int)=(d:Int)+1:=by push_cast;rfl
     rw [gO,g2] at aV;have DY:=aV.cost hE bI.to;have DZ:=aV.short hE bI.to;have QX:=aV.many;have gD:gq Bh (row.take (k+1))=gq Bh (row.take k)++[Bt.map (gF t)]:=by unfold gq;rw [cN ht,List.map_append,List.map_singleton,List.getD_eq_getElem?_getD,xK];rfl
     (conv=>whnf);repeat ((first|refine ix (by assumption) ?_|refine ⟨_,_,bj.here _,⟨Nat.le_of_ble_eq_true rfl,rfl⟩,?_⟩|intro (nb:Nat));conv=>whnf)
     refine bD rfl mixed [3,4,9,10,12,13,14,15,16,17,18,21,22,23,24] [(23,1)] (fun m r h=>∃ (j:Nat) (na:Nat),r=[(3,[],.int .i64 most),(4,[],.ai (aZ H)),(9,[],.ai (jy E P)),(10,[],.int .i64 (gE H.lex f)),(12,[],.sl 1 none (S.map mj)),(13,[],.sl 1 none (T.map kB)),(14,[],.sl 1 none (Bh.map ck)),(15,[],.int .i64 d),(16,[],.sl 1 (some eX) (Hh.map ck)),(17,[],.int .i64 i),(18,[],lv),(21,[],.int .i64 k),(22,[],.ai (oX t)),(23,[],.sl 1 (some na) (((Bt.take j).map (gF t)).map ch)),(24,[],.int .i64 j)]/\h=(na,.tok)::(eX,.tok)::lh/\m=Bt.length - j/\j<=Bt.length) ?_ ?_
     ·(conv=>whnf);refine ⟨by decide,fun na=>?_⟩;(conv=>whnf);exact ⟨_,_,ah.refl _ _,_,0,na,rfl,rfl,rfl,by omega⟩
     rintro m r h' ⟨j,na,rfl,rfl,rfl,hj⟩;(conv=>whnf);repeat (refine ix (by assumption) ?_;conv=>whnf)
     refine ⟨fun bx=>?_,fun bx=>?_⟩<;>simp at bx
     ·obtain ⟨rr,tE⟩:=aF bx;have pC:=DY rr (List.mem_of_getElem? tE);have jM:=DZ rr (List.mem_of_getElem? tE);(conv=>whnf);repeat ((first|refine ⟨ag ⟨by omega,by omega⟩,?_⟩|refine ix (by assumption) ?_|(refine ⟨(by rw [List.length_append,List.length_singleton,List.length_map,List.length_map,List.length_take];unfold aN;omega),fun q'=>⟨_,.here _,?_⟩⟩)|refine And.intro (by show aJ (aH Tryz.f142 _) _=true;decide +kernel) ?_);conv=>whnf)
      refine ⟨_,_,ah.refl _ _,_,(by omega),j+1,q',?_,rfl,rfl,by omega⟩;rw [cN tE,List.map_append,List.map_append,List.map_singleton,List.map_singleton,Kx];rfl
     obtain ⟨Lk,tF⟩:∃ Lk,Lk=gp E x++gq Bh (row.take k):=⟨_,rfl⟩;have ll:gp E x++gq Bh (row.take (k+1))=Lk++[Bt.map (gF t)]:=(by rw [gD,tF,List.append_assoc]);have rF:Lk.length+1<=aN:=by have h1:=vY E x;rw [tF,List.length_append];unfold gq;rw [List.length_map,List.length_take];unfold aN;omega
     rw [<- tF] at ho;rw [List.take_of_length_le (by omega)];rcases ho with ⟨eV,rfl,rfl⟩|⟨lb,fw,rfl,rfl⟩
     ·(conv=>whnf);repeat ((first|refine ⟨ag ⟨by omega,by omega⟩,?_⟩|(refine ⟨⟨Nat.le_of_ble_eq_true rfl,Nat.le_of_ble_eq_true rfl⟩,fun b4=>?_⟩));conv=>whnf)
      exact ⟨_,_,ah.trans (ah.cells (ys:=ck (Bt.map (gF t))) (.here _) (.cons aa.sl .nil)) (ah.trans (ah.drop (.there (.here _))) (ah.perm (List.Perm.swap _ _ _))),_,(by omega),k+1,_,[(b4,_)],rfl,rfl,rfl,by omega,.inr ⟨b4,by rw [ll];simp,by rw [ll,eV];rfl,by rw [ll,eV];rfl⟩⟩
     skip;(conv=>whnf);repeat ((first|refine ⟨ag ⟨by omega,by omega⟩,?_⟩|(refine ⟨_,.tail _ (.tail _ (.head _)),⟨qq gQ,rF⟩,fun b4=>⟨_,.there (.there (.here _)),?_⟩⟩));conv=>whnf)
     exact ⟨_,_,ah.trans (ah.cells (ys:=(Lk.map ck).flatten++(ck (Bt.map (gF t))++[])) (.there (.there (.here _))) (cu.pre (.cons aa.sl .nil) _)) (ah.drop (.here _)),_,(by omega),k+1,_,[(b4,_)],rfl,rfl,rfl,by omega,.inr ⟨b4,by rw [ll];simp,by rw [ll,List.length_append];rfl,by rw [ll,List.map_append,List.flatten_append];rfl⟩⟩
    have cx:(decide ((d:Int)<12)&&decide ((k:Int)<((row.map oX).length:Int)))=false:=cx;rw [List.length_map,decide_eq_true (by omega),Bool.true_and,decide_eq_false_iff_not] at cx;rw [List.take_of_length_le (by omega)] at ho;obtain ⟨LS,jB⟩:∃ LS,LS=gp E x++gq Bh row:=⟨_,rfl⟩;have nc:=Ky xI nN ax;have bf:=AY hE hx vn nc;rw [<- jB] at ho bf;rw [jL] at bf
    have gW:∀ l∈LS,l.length<=65536/\∀ r∈l,r.path.length<=15:=by
     intro l2 cX;rw [jB] at cX;rcases List.mem_append.1 cX with h2|h2
     ·exact Bl E x l2 h2
     obtain ⟨k2,bg⟩:=List.mem_iff_getElem?.1 h2;have jT:=(List.getElem?_eq_some_iff.1 bg).1;obtain ⟨mv,fD⟩:=aF (l:=di E x) (i:=k2) (by rw [<- nc.1];exact jT);obtain ⟨t,rs,_,_,c3,rfl⟩:=nc.2 k2 l2 mv bg fD;have bI:=rO hE hx (List.mem_of_getElem? fD);have:=c3.many;refine ⟨by rw [List.length_map];omega,fun r hr=>?_⟩;obtain ⟨r0,kF,rfl⟩:=List.mem_map.1 hr;have:=c3.short hE bI.to r0 kF;show (t::r0.path).length<=15;rw [List.length_cons];omega
    have eu:=fun l hl=>(gW l hl).1;have cM:=fun l hl=>(gW l hl).2;have lX:LS.length<=65536:=by have h1:=vY E x;rw [jB,List.length_append];unfold gq;rw [List.length_map];omega
    rcases ho with ⟨eV,rfl,rfl⟩|⟨lb,fw,rfl,rfl⟩
    ·rw [eV,wU] at bf;(conv=>whnf);repeat ((first|refine ⟨ag ⟨by omega,by omega⟩,?_⟩|refine ab.k0 (wV most hm) ?_|(refine ⟨(by rw [List.length_append,List.length_singleton,List.length_map];unfold aN;omega),fun q'=>⟨_,.here _,?_⟩⟩));conv=>whnf)
     exact ⟨_,_,ah.refl _ _,_,(by omega),i+1,Hh++[[]],q',by rw [List.map_append];rfl,rfl,rfl,by omega,by rw [List.length_append,List.length_singleton];omega,qX.snoc (by rw [rZ];exact hs) bf⟩
    (conv=>whnf);skip;refine aw.mono ?_ (Lst.aw.re (h2:=[(eX,.tok)]) (R':=fun v H=>v=.sl 1 none ((cI LS most).map ch)/\H=[(eX,.tok)]) (uf LS (List.length_pos_iff.2 fw) lX eu cM most hm lb) (List.Perm.swap _ _ _) ?_)
    rotate_left
    ·rintro v h1 ⟨rfl,rfl⟩;exact ⟨_,.refl _,rfl,rfl⟩
    rintro v h1 ⟨rfl,rfl⟩;(conv=>whnf);repeat ((first|refine ⟨ag ⟨by omega,by omega⟩,?_⟩|(refine ⟨(by rw [List.length_append,List.length_singleton,List.length_map];unfold aN;omega),fun q'=>⟨_,.here _,?_⟩⟩));conv=>whnf)
    exact ⟨_,_,ah.refl _ _,_,(by omega),i+1,Hh++[cI LS most],q',by rw [List.map_append];rfl,rfl,rfl,by omega,by rw [List.length_append,List.length_singleton];omega,qX.snoc (by rw [rZ];exact hs) bf⟩
   have JQ:d=12:=(by omega);refine bD rfl mixed [3,4,9,10,12,13,14,15,16,17,18,21] [] (fun m r h=>∃ (k:Nat) (lv:AV) (lh:af),r=[(3,[],.int .i64 most),(4,[],.ai (aZ H)),(9,[],.ai (jy E P)),(10,[],.int .i64 (gE H.lex f)),(12,[],.sl 1 none (S.map mj)),(13,[],.sl 1 none (T.map kB)),(14,[],.sl 1 none (Bh.map ck)),(15,[],.int .i64 d),(16,[],.sl 1 (some eX) (Hh.map ck)),(17,[],.int .i64 i),(18,[],lv),(21,[],.int .i64 k)]/\h=(eX,.tok)::lh/\m=0/\k=0/\wW (gp E x++[]) lv lh) ?_ ?_
   ·(conv=>whnf);exact ⟨_,_,ah.nD (.cons (aa.refl _) (.cons (aa.refl _) (.cons (aa.refl _) (.cons (aa.refl _) (.cons (aa.refl _) (.cons (aa.refl _) (.cons (aa.refl _) (.cons (aa.refl _) (.cons (aa.refl _) (.cons (aa.refl _) (.cons wD (gT.refl _)))))))))))),_,0,.gu,[],rfl,rfl,rfl,by omega,.inl ⟨by rw [dM];rfl,rfl,rfl⟩⟩
   rintro m r h' ⟨k,lv,lh,rfl,rfl,rfl,rfl,ho⟩;(conv=>whnf);repeat ((refine ⟨0,kB [[]],?_,?_⟩;(focus (conv=>whnf;skip));(focus (intro uE;exact absurd (of_decide_eq_true uE) (by omega))));conv=>whnf)
   refine cF (by rw [decide_eq_false (show ¬ ((d:Int)<12) by omega)];rfl) ?_;obtain ⟨LS,jB⟩:∃ LS,LS=gp E x++[]:=⟨_,rfl⟩;have nc:=Kz (E:=E) (m:=most) (x:=x) (by omega);have bf:=AY hE hx vn nc;rw [<- jB] at ho bf;rw [jL] at bf;have gW:∀ l∈LS,l.length<=65536/\∀ r∈l,r.path.length<=15:=by intro l2 cX;rw [jB,List.append_nil] at cX;exact Bl E x l2 cX
   have eu:=fun l hl=>(gW l hl).1;have cM:=fun l hl=>(gW l hl).2;have lX:LS.length<=65536:=by have h1:=vY E x;rw [jB,List.append_nil];omega
   rcases ho with ⟨eV,rfl,rfl⟩|⟨lb,fw,rfl,rfl⟩
   ·rw [eV,wU] at bf;(conv=>whnf);repeat ((first|refine ⟨ag ⟨by omega,by omega⟩,?_⟩|refine ab.k0 (wV most hm) ?_|(refine ⟨(by rw [List.length_append,List.length_singleton,List.length_map];unfold aN;omega),fun q'=>⟨_,.here _,?_⟩⟩));conv=>whnf)
    exact ⟨_,_,ah.refl _ _,_,(by omega),i+1,Hh++[[]],q',by rw [List.map_append];rfl,rfl,rfl,by omega,by rw [List.length_append,List.length_singleton];omega,qX.snoc (by rw [rZ];exact hs) bf⟩
   (conv=>whnf);skip;refine aw.mono ?_ (Lst.aw.re (h2:=[(eX,.tok)]) (R':=fun v H=>v=.sl 1 none ((cI LS most).map ch)/\H=[(eX,.tok)]) (uf LS (List.length_pos_iff.2 fw) lX eu cM most hm lb) (List.Perm.swap _ _ _) ?_)
   rotate_left
   ·rintro v h1 ⟨rfl,rfl⟩;exact ⟨_,.refl _,rfl,rfl⟩
   rintro v h1 ⟨rfl,rfl⟩;(conv=>whnf);repeat ((first|refine ⟨ag ⟨by omega,by omega⟩,?_⟩|(refine ⟨(by rw [List.length_append,List.length_singleton,List.length_map];unfold aN;omega),fun q'=>⟨_,.here _,?_⟩⟩));conv=>whnf)
   exact ⟨_,_,ah.refl _ _,_,(by omega),i+1,Hh++[cI LS most],q',by rw [List.map_append];rfl,rfl,rfl,by omega,by rw [List.length_append,List.length_singleton];omega,qX.snoc (by rw [rZ];exact hs) bf⟩
  have bw:i=l.length:=(by omega);(conv=>whnf);repeat (refine ⟨ag ⟨by omega,by omega⟩,?_⟩;conv=>whnf)
  exact ⟨_,_,ah.trans (ah.nD (.cons (aa.refl _) (.cons (aa.refl _) (.cons (aa.refl _) (.cons (aa.refl _) (.cons (aa.refl _) (.cons (aa.refl _) (.cons aa.sl (gT.refl _))))))))) (ah.drop (.here _)),_,(by omega),d,_,Hh,rfl,rfl,rfl,by omega,by omega,fun l2 cX=>by rw [hl] at cX;cases cX;exact ⟨by omega,qX⟩⟩
 obtain rfl:a=0:=by omega
 obtain ⟨YM,JX⟩:=qK [Ba] hL.first;obtain ⟨rs,bf⟩:=aF (l:=Bh) (i:=0) (by rw [YM];decide);have aV:=JX 0 Ba rs rfl bf;rw [show toS P ((0:Nat):Int) Ba=gm from rfl] at aV;rw [<- Ya hE aV];have YN:=aV.short hE zm;have U0:=aV.many;(conv=>whnf);skip;refine bD rfl mixed [14,26,27] [(26,3)] (fun m r h=>∃ (i:Nat) (zG:Nat),r=[(14,[],.sl 1 none (Bh.map ck)),(26,[],.sl 3 (some zG) (((rs.take i).map zw).map nV)),(27,[],.int .i64 i)]/\h=(zG,.tok)::[]/\m=rs.length - i/\i<=rs.length) ?_ ?_
 ·(conv=>whnf);refine ⟨by decide,fun zG=>?_⟩;(conv=>whnf);exact ⟨_,_,ah.refl _ _,_,0,zG,rfl,rfl,rfl,by omega⟩
 rintro m r h' ⟨i,zG,rfl,rfl,rfl,hi⟩;(conv=>whnf);repeat (refine ix (by assumption) ?_;conv=>whnf)
 refine ⟨fun cx=>?_,fun cx=>?_⟩<;>simp at cx
 ·obtain ⟨p,hp⟩:=aF cx;have cM:=YN p (List.mem_of_getElem? hp);(conv=>whnf);repeat ((first|refine ix (by assumption) ?_|(intro (sb:Nat))|refine ⟨_,_,.here _,aI,?_⟩);conv=>whnf)
  refine bD rfl mixed [14,26,27,28,29] [] (fun m r h=>∃ (pc L:List fF) (sv uv:AV) (sh uh:af) (sb:Nat),r=[(14,[],.sl 1 none (Bh.map ck)),(26,[],.sl 3 (some zG) (((rs.take i).map zw).map nV)),(27,[],.int .i64 i),(28,[],.ba sb 0),(29,[],.ai (oQ ⟨pc,p.fin⟩))]/\h=(sb,.vec [sv,uv,.int .i64 (mY p)])::(zG,.tok)::(sh++uh)/\m=pc.length/\p.path=L++pc/\((L=[]/\sv=.aS/\uv=.aS/\sh=[]/\uh=[])\/∃ q1 q2,sv=.sl 1 (some q1) (ints (L.map (·.sign)))/\uv=.sl 2 (some q2) (L.map fun m=>aU m.use)/\sh=[(q1,.tok)]/\uh=[(q2,.tok)])) ?_ ?_
  ·(conv=>whnf);exact ⟨_,_,ah.refl _ _,_,p.path,[],.aS,.aS,[],[],sb,rfl,rfl,rfl,rfl,.inl ⟨rfl,rfl,rfl,rfl,rfl⟩⟩
  rintro m r h' ⟨pc,L,sv,uv,sh,uh,sb,rfl,rfl,rfl,ft,ho⟩;have eu:=congrArg List.length ft;rw [List.length_append] at eu;have kj:(ints (L.map (·.sign))).length=L.length:=(by simp [ints]);have cX:(L.map fun m=>aU m.use).length=L.length:=(by simp);cases pc with
  | nil=>
    have CL:p.path=L:=by rw [ft,List.append_nil]
    have GJ:cu [sv,uv,.int .i64 (mY p)] (nV (zw p)):=by
     unfold nV zw;rw [CL];rcases ho with ⟨rfl,rfl,rfl,rfl,rfl⟩|⟨q1,q2,rfl,rfl,rfl,rfl⟩
     ·exact .cons (aa.nil (by decide)) (.cons (aa.nil (by decide)) (.cons (aa.refl _) .nil))
     refine .cons aa.sl (.cons ?_ (.cons (aa.refl _) .nil));rw [List.map_map];exact aa.sl
    (conv=>whnf);skip;refine ⟨fun hz=>absurd hz (by decide),fun _=>?_⟩;(conv=>whnf);repeat ((first|refine ⟨ag ⟨by omega,by omega⟩,?_⟩|(refine ⟨(by rw [List.length_append,List.length_singleton,List.length_map,List.length_map,List.length_take];unfold aN;omega),fun q'=>⟨_,.there (.here _),?_⟩⟩)|refine ⟨_,_,.head _,rfl,?_⟩);conv=>whnf)
    exact ⟨_,_,ah.trans (ah.nD (.cons (aa.refl _) (.cons (aa.lH (gz.snoc GJ)) (gT.refl _)))) (ah.trans (ah.drop (.here _)) (ah.left (A:=[(q',.tok)]) (Z:=sh++uh))),_,(by omega),i+1,q',by rw [cN hp,List.map_append,List.map_append];rfl,rfl,rfl,by omega⟩
  | cons t r=>
    rw [List.length_cons] at eu;(conv=>whnf);skip;refine ⟨fun _=>?_,fun hz=>absurd hz (by decide)⟩;rcases ho with ⟨Dk,rfl,rfl,rfl,rfl⟩|⟨q1,q2,rfl,rfl,rfl,rfl⟩
    ·(conv=>whnf);repeat ((first|(refine ⟨Nat.le_of_ble_eq_true rfl,fun q=>?_⟩)|(refine ⟨_,_,.there (.there (.here _)),aI,?_⟩)|refine ⟨_,_,.head _,rfl,?_⟩|refine ⟨_,_,.tail _ (.head _),rfl,?_⟩|refine ⟨_,_,.there (.here _),aI,?_⟩|refine And.intro (by show aJ (aH Tryz.f142 _) _=true;decide +kernel) ?_);conv=>whnf)
     rename_i q1;exact ⟨_,_,ah.perm ((List.Perm.swap _ _ _).trans (List.perm_append_comm (l₁:=[(q1,Ob.tok),(q,Ob.tok)]) (l₂:=[_,_]))),_,Nat.lt_succ_self _,r,L++[t],.sl 1 (some q1) [[.int .i64 t.sign]],.sl 2 (some q) [aU t.use],[(q1,.tok)],[(q,.tok)],sb,rfl,rfl,rfl,by rw [ft,List.append_assoc];rfl,.inr ⟨q1,q,by rw [Dk];rfl,by rw [Dk];rfl,rfl,rfl⟩⟩
    (conv=>whnf);repeat ((first|(refine ⟨(by rw [List.length_append,kj];simp;unfold aN;omega),fun q=>⟨_,.there (.there (.here _)),?_⟩⟩)|(refine ⟨(by rw [List.length_append,cX];simp;unfold aN;omega),fun q=>⟨_,.there (.there (.there (.here _))),?_⟩⟩)|refine ⟨_,_,.head _,rfl,?_⟩|refine ⟨_,_,.here _,aI,?_⟩|refine And.intro (by show aJ (aH Tryz.f142 _) _=true;decide +kernel) ?_);conv=>whnf)
    rename_i qa;exact ⟨_,_,ah.refl _ _,_,Nat.lt_succ_self _,r,L++[t],.sl 1 (some qa) (ints (L.map (·.sign))++[[.int .i64 t.sign]]),.sl 2 (some q) (L.map (fun m=>aU m.use)++[aU t.use]),[(qa,.tok)],[(q,.tok)],sb,rfl,rfl,rfl,by rw [ft,List.append_assoc];rfl,.inr ⟨qa,q,by unfold ints;rw [List.map_append,List.map_append];rfl,by rw [List.map_append];rfl,rfl,rfl⟩⟩
 rw [List.take_of_length_le (by omega)];(conv=>whnf);skip;exact aa.sl
end Go.Abs.Wall.Spl
