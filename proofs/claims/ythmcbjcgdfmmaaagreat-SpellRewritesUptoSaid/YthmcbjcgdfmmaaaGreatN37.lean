/- Small laws for the walks and contracts of functions; each theorem names its conditions. -/
import Derived.Test.YthmcbjcgdfmmaaaGreatN35
import Derived.Test.YthmcbjcgdfmmaaaGreatN26
set_option maxRecDepth 100000
set_option maxHeartbeats 2000000
namespace Go.Abs.Wall.Spl
open Go Go.Abs Go.Proofs Go.Abs.Wall
open Go.Abs.Wall.Lst (mM ed iX jo kT uj wZ ui)
def oq (H:aD) (B:bE) (line:List Int) (i:Nat) (x:ar):Bool:=xq H B ((line.take x.to.toNat).drop i) x.word
def jU (H:aD) (B:bE) (line:List Int):List (List ar):=(cZ H line).mapIdx fun i es=>es.filter (oq H B line i)
theorem GL (H:aD) (B:bE) (line:List Int):(jU H B line).length=line.length:=by unfold jU;rw [List.length_mapIdx,sM]
theorem Re {H:aD} {B:bE} {line:List Int} {i:Nat} {es:List ar} (h:(cZ H line)[i]?=some es):(jU H B line)[i]?=some (es.filter (oq H B line i)):=by unfold jU;rw [List.getElem?_mapIdx,h];rfl
theorem Lv {H:aD} {B:bE} {line:List Int} {i:Nat} {es:List ar} (h:(jU H B line)[i]?=some es):∃ l,(cZ H line)[i]?=some l/\es=l.filter (oq H B line i):=by
 unfold jU at h;rw [List.getElem?_mapIdx] at h;cases hq:(cZ H line)[i]? with
 | none=>rw [hq] at h;cases h
 | some l=>rw [hq] at h;exact ⟨l,rfl,by simpa using h.symm⟩
theorem GM {H:aD} {B:bE} {line:List Int} (h:fJ (cZ H line)):fJ (jU H B line):=by
 have hl:(jU H B line).length=(cZ H line).length:=(by rw [GL,sM]);refine ⟨by rw [hl];exact h.bB,fun i es bp=>?_,fun i es bp x hx=>?_⟩
 ·obtain ⟨l,h1,rfl⟩:=Lv bp;have:=h.many i l h1;have:=List.length_filter_le (oq H B line i) l;omega
 obtain ⟨l,h1,rfl⟩:=Lv bp;rw [hl];exact h.aR i l h1 x (List.mem_filter.1 hx).1
def pa (V:ar->Int) (s:Int × Option ar) (x:ar):Int × Option ar:=
 if V x<0 then s else if (decide (s.1<0)||decide (x.cost+V x<s.1))=true then (x.cost+V x,some x) else s
def zJ (kp:ar->Bool) (V:ar->Int) (s:Int × Option ar) (x:ar):Int × Option ar:=if kp x=true then pa V s x else s
theorem Rf (kp:ar->Bool) (V:ar->Int):∀ (es:List ar) (s:Int × Option ar),es.foldl (zJ kp V) s=(es.filter kp).foldl (pa V) s
 | [],_=>rfl
 | x::es,s=>by
   rw [List.foldl_cons,Rf kp V es,List.filter_cons];unfold zJ;split
   ·rw [List.foldl_cons]
   rfl
def YZ (V:ar->Int) (es:List ar) (s:Int × Option ar):Prop:=
 (s=(-1,none)/\∀ x∈es,V x<0)\/∃ k x,es[k]?=some x/\0<=V x/\s=(x.cost+V x,some x)/\∀ (j:Nat) y,es[j]?=some y->0<=V y->x.cost+V x<y.cost+V y\/(x.cost+V x=y.cost+V y/\k<=j)
theorem GN {α:Type} {l:List α} {z y:α} {j:Nat} (h:(l++[z])[j]?=some y):l[j]?=some y\/(j=l.length/\y=z):=by
 by_cases hj:j<l.length
 ·rw [List.getElem?_append_left hj] at h;exact .inl h
 rw [List.getElem?_append_right (by omega)] at h
 have:j - l.length=0:=by
  rcases Nat.eq_zero_or_pos (j - l.length) with h0|h0
  ·exact h0
  rw [List.getElem?_eq_none (by simp;omega)] at h;cases h
 rw [this] at h;exact .inr ⟨by omega,by simpa using h.symm⟩
theorem Za {V:ar->Int}:∀ (n:Nat) (es:List ar),es.length=n->(∀ x∈es,0<=V x->0<=x.cost+V x)->YZ V es (es.foldl (pa V) (-1,none)):=by
 intro n;induction n with
 | zero=>
   intro es hl _;have:es=[]:=List.length_eq_zero_iff.1 hl;subst this;exact .inl ⟨rfl,fun x hx=>by cases hx⟩
 | succ n ih=>
   intro es hl hV;obtain ⟨l,z,rfl⟩:∃ l z,es=l++[z]:=⟨es.dropLast,es.getLast (by intro h;subst h;cases hl),(List.dropLast_concat_getLast _).symm⟩;rw [List.length_append] at hl;have Lw:l.length=n:=(by simpa using hl);have hI:=ih l Lw fun x hx=>hV x (List.mem_append_left _ hx);rw [List.foldl_append,List.foldl_cons,List.foldl_nil];have hz:=hV z (by simp);generalize l.foldl (pa V) (-1,none)=s at hI ⊢;by_cases hv:V z<0
   ·have iC:pa V s z=s:=by unfold pa;rw [if_pos hv]
    rw [iC];rcases hI with ⟨h1,h2⟩|⟨k,x,h1,h2,h3,h4⟩
    ·refine .inl ⟨h1,fun x hx=>?_⟩;rcases List.mem_append.1 hx with h|h
     ·exact h2 x h
     rw [List.mem_singleton.1 h];exact hv
    refine .inr ⟨k,x,?_,h2,h3,fun j y hj hy=>?_⟩
    ·rw [List.getElem?_append_left (List.getElem?_eq_some_iff.1 h1).1];exact h1
    rcases GN hj with h|⟨_,rfl⟩
    ·exact h4 j y h hy
    omega
   have Rh:(l++[z])[l.length]?=some z:=by rw [List.getElem?_append_right (Nat.le_refl _)];simp
   rcases hI with ⟨h1,h2⟩|⟨k,x,h1,h2,h3,h4⟩
   ·have iC:pa V s z=(z.cost+V z,some z):=by unfold pa;rw [if_neg hv,h1];rfl
    rw [iC];refine .inr ⟨l.length,z,Rh,by omega,rfl,fun j y hj hy=>?_⟩;rcases GN hj with h|⟨h,rfl⟩
    ·have:=h2 y (List.mem_of_getElem? h);omega
    exact .inr ⟨rfl,by omega⟩
   have Ri:0<=x.cost+V x:=hV x (List.mem_append_left _ (List.mem_of_getElem? h1)) h2;have ea:=(List.getElem?_eq_some_iff.1 h1).1;have Rj:s.1=x.cost+V x:=(by rw [h3]);by_cases aP:z.cost+V z<x.cost+V x
   ·have iC:pa V s z=(z.cost+V z,some z):=by unfold pa;rw [if_neg hv,Rj,if_pos (by simp;omega)]
    rw [iC];refine .inr ⟨l.length,z,Rh,by omega,rfl,fun j y hj hy=>?_⟩;rcases GN hj with h|⟨h,rfl⟩
    ·have:=h4 j y h hy;omega
    exact .inr ⟨rfl,by omega⟩
   have iC:pa V s z=s:=by unfold pa;rw [if_neg hv,Rj,if_neg (by simp;omega)]
   rw [iC];refine .inr ⟨k,x,?_,h2,h3,fun j y hj hy=>?_⟩
   ·rw [List.getElem?_append_left ea];exact h1
   rcases GN hj with h|⟨h,rfl⟩
   ·exact h4 j y h hy
   omega
def wa (g:List (List ar)) (i:Nat):Option ar:=match (dp g i)[0]? with
 | none=>none
 | some w=>(g.getD i [])[w.aR]?
def zK (g:List (List ar)) (x:ar):Int:=eE g x.to.toNat
theorem Zb {g:List (List ar)} (hg:fJ g) {i:Nat} {es:List ar} (bp:g[i]?=some es):es.foldl (pa (zK g)) (-1,none)=(eE g i,wa g i):=by
 have jk:=(List.getElem?_eq_some_iff.1 bp).1;have hE:=hg.aR i es bp
 have wN:∀ x∈es,zK g x=match (dp g x.to.toNat)[0]? with
   | none=>-1
   | some w=>w.cost:=fun x hx=>Cu hg (g.length - x.to.toNat) _ (by have:=(hE x hx).hi;have:=(hE x hx).lo;omega)
 have eb:∀ x∈es,∀ w,(dp g x.to.toNat)[0]?=some w->0<=w.cost:=fun x hx w hw=>(Aw hg (by have:=(hE x hx).hi;omega) w (List.mem_of_getElem? hw)).1;have hI:=Za (V:=zK g) es.length es rfl fun x hx h0=>by have:=(hE x hx).cost;omega
 have hr:=Cu hg (g.length - i) i (by omega);have lZ:dp g i=Go.Abs.Wall.aW (dE g es):=by unfold dp;rw [bp]
 have fE:g.getD i []=es:=by rw [List.getD_eq_getElem?_getD,bp];rfl
 have qA:∀ y,ig (dE g es) (dz (dE g es) 0) y↔∃ x w,es[y.aR]?=some x/\(dp g x.to.toNat)[0]?=some w/\y.cost=x.cost+w.cost/\y.aO=0:=by
  intro y;constructor
  ·rintro ⟨q1,l,q2,q3⟩;have q1:y.aO=0:=q1;rw [q1] at q3;have aP:=(List.getElem?_eq_some_iff.1 q2).1;rw [Ct] at aP;obtain ⟨x,hx⟩:=aF aP;obtain ⟨l',e1,e2⟩:=yJ hg bp hx;rw [q2] at e1;cases e1
   rw [e2] at q3;cases hw:(dp g x.to.toNat)[0]? with
   | none=>rw [hw] at q3;cases q3
   | some w=>rw [hw] at q3;exact ⟨x,w,hx,hw,by simpa using q3.symm,q1⟩
  rintro ⟨x,w,hx,hw,hc,h0⟩;obtain ⟨l',e1,e2⟩:=yJ hg bp hx;exact ⟨h0,l',e1,by rw [h0,e2,hw,hc];rfl⟩
 unfold wa;rw [hr,fE,lZ,kP];rcases hI with ⟨h1,h2⟩|⟨k,x,h1,h2,h3,h4⟩
 ·rw [h1,Fl fun y hy=>?_];obtain ⟨x,w,hx,hw,hc,h0⟩:=(qA y).1 hy;have vg:=List.mem_of_getElem? hx;have:=h2 x vg;have h5:=eb x vg w hw;rw [wN x vg,hw] at this;simp only at this;omega
 have vg:=List.mem_of_getElem? h1;have hv:=wN x vg;cases hw:(dp g x.to.toNat)[0]? with
 | none=>rw [hw] at hv;simp only at hv;omega
 | some w=>
   rw [hw] at hv;simp only at hv
   have hb:fK (dE g es) (dz (dE g es) 0)=some ⟨x.cost+w.cost,k,0⟩:=by
    refine Fk ((qA _).2 ⟨x,w,h1,hw,rfl,rfl⟩) fun y hy=>?_;obtain ⟨z,v,hz,GO,hc,h0⟩:=(qA y).1 hy;have Rl:=List.mem_of_getElem? hz;have GJ:=wN z Rl;rw [GO] at GJ;simp only at GJ;have U1:=eb z Rl v GO;have h5:=h4 y.aR z hz (by omega);by_cases xL:k=y.aR
    ·left;subst xL;rw [h1] at hz;cases hz
     rw [hw] at GO;cases GO
     cases y
     simp only at hc h0 ⊢;rw [hc,h0]
    right;unfold dy;simp only;rw [hc];omega
   rw [hb,h3,hv];simp only;rw [h1]
def mo (H:aD) (B:bE) (line:List Int):Int:=if kr H B≠0 then kr H B else if ed H line 1≠0 then ed H line 1 else if bz (jU H B line) 0=[] then 52 else 0
def qZ (H:aD) (B:bE) (line:List Int):ue:=if mo H B line=0 then (jo (jU H B line) 1).headD ui else ui
def kG (K:List (List ar)) (n a:Nat):List Int:=(List.range (n+1)).map fun j=>if a<=j then eE K j else -1
def mq (K:List (List ar)) (n a:Nat):List (Option ar):=(List.range n).map fun j=>if a<=j then wa K j else none
theorem Zc (K:List (List ar)) (n a:Nat):(kG K n a).length=n+1:=by simp [kG]
theorem Zd (K:List (List ar)) (n a:Nat):(mq K n a).length=n:=by simp [mq]
theorem Rm {K:List (List ar)} {n a j:Nat} (h1:a<=j) (h2:j<=n):(kG K n a)[j]?=some (eE K j):=by unfold kG;rw [List.getElem?_map,List.getElem?_range (by omega)];simp [h1]
theorem Ze {K:List (List ar)} {n a j:Nat} (h1:a<=j) (h2:j<n):(mq K n a)[j]?=some (wa K j):=by unfold mq;rw [List.getElem?_map,List.getElem?_range (by omega)];simp [h1]
theorem GP {α:Type} (f:Nat->α) (m b:Nat) (v:α):((List.range m).map f).set b v=(List.range m).map fun j=>if j=b then v else f j:=by
 refine List.ext_getElem? fun j=>?_;by_cases hj:j<m
 ·rw [List.getElem?_set,List.getElem?_map,List.getElem?_map,List.getElem?_range hj];by_cases h:b=j
  ·subst h;simp [hj]
  rw [if_neg h];simp [Ne.symm h]
 rw [List.getElem?_eq_none (by simp;omega),List.getElem?_eq_none (by simp;omega)]
theorem Zf (K:List (List ar)) (n b:Nat):(kG K n (b+1)).set b (-1)=kG K n (b+1):=by
 unfold kG;rw [GP];refine List.map_congr_left fun j _=>?_;by_cases h:j=b
 ·rw [if_pos h,if_neg (by omega)]
 rw [if_neg h]
theorem Zg (K:List (List ar)) (n b:Nat):(mq K n (b+1)).set b none=mq K n (b+1):=by
 unfold mq;rw [GP];refine List.map_congr_left fun j _=>?_;by_cases h:j=b
 ·rw [if_pos h,if_neg (by omega)]
 rw [if_neg h]
theorem Rn (K:List (List ar)) (n b:Nat):(kG K n (b+1)).set b (eE K b)=kG K n b:=by
 unfold kG;rw [GP];refine List.map_congr_left fun j _=>?_;by_cases h:j=b
 ·rw [if_pos h,if_pos (by omega),h]
 rw [if_neg h];by_cases h2:b<=j
 ·rw [if_pos (by omega),if_pos h2]
 rw [if_neg (by omega),if_neg h2]
theorem Zh (K:List (List ar)) (n b:Nat):(mq K n (b+1)).set b (wa K b)=mq K n b:=by
 unfold mq;rw [GP];refine List.map_congr_left fun j _=>?_;by_cases h:j=b
 ·rw [if_pos h,if_pos (by omega),h]
 rw [if_neg h];by_cases h2:b<=j
 ·rw [if_pos (by omega),if_pos h2]
 rw [if_neg (by omega),if_neg h2]
end Go.Abs.Wall.Spl
namespace Go.Abs.Wall.Spl
open Go Go.Abs Go.Proofs Go.Abs.Wall
open Go.Abs.Wall.Lst (mM ed iX jo kT uj wZ ui)
def c6:av:=⟨[0,1,2,3,4,6,7,8,10,11,12,13,14,15,16,18,19,20,21,26,36,53,64,67,68,69,70,91,112,125,133],[49],[9,18],[],[(20,[0,1,2,3,4,5,6,7,8,9,10,11,12,13,14,15,16,17,18],[]),(21,[0,1,2,3,4,5,6,7,8],[]),(23,[0,1,2,3,4,5,6,7,8,9],[]),(31,[0,1,2,3,4,5,6,7,8,9,10],[])],[]⟩
def zL:Option ar->List AV
 | none=>[.int .i64 0,.int .i64 0,.int .i64 0,.int .i64 0,.int .i64 0,.aS,.aS]
 | some x=>bZ x
theorem Ea:∀ a:Option ar,(zL a).length=7
 | none=>rfl
 | some _=>rfl
theorem Zi (n:Nat):gS n (zL none)=((List.replicate n (none:Option ar)).map zL).flatten:=by
 unfold gS;induction n with
 | zero=>rfl
 | succ n ih=>rw [List.replicate_succ,List.replicate_succ,List.map_cons,List.flatten_cons,List.flatten_cons,ih]
theorem Zj (K:List (List ar)) (n:Nat):List.replicate (n+1) (AV.int .i64 (-1))=((kG K n (n+1)).map encI).flatten:=by
 have h:kG K n (n+1)=List.replicate (n+1) (-1):=by unfold kG;refine List.eq_replicate_iff.2 ⟨by simp,fun b hb=>?_⟩;obtain ⟨j,hj,rfl⟩:=List.mem_map.1 hb;rw [List.mem_range] at hj;rw [if_neg (by omega)]
 rw [h];generalize n+1=m;induction m with
 | zero=>rfl
 | succ n ih=>rw [List.replicate_succ,List.replicate_succ,List.map_cons,List.flatten_cons,<- ih];rfl
theorem Zk (K:List (List ar)) (n:Nat):List.replicate n (none:Option ar)=mq K n n:=by symm;unfold mq;refine List.eq_replicate_iff.2 ⟨by simp,fun b hb=>?_⟩;obtain ⟨j,hj,rfl⟩:=List.mem_map.1 hb;rw [List.mem_range] at hj;rw [if_neg (by omega)]
structure KF (H:aD) (line:List Int) (b:Nat) (x:ar):Prop where
 uL:x.uL=b
 to:x.to=b+x.word.ay.length
 lo:(b:Int)<x.to
 hi:x.to<=line.length
 cost:0<=x.cost/\x.cost<=18000
 form:mg H.lex x.word.form
 ay:x.word.ay.length<=12
theorem Ro {H:aD} {line:List Int} (h:dU H line=0) {b:Nat} (hb:b<line.length) {x:ar} (hx:x∈ei H line b):KF H line b x:=by obtain ⟨hL,_,hG⟩:=wI h;have hle:=Lst.JL (Lst.JM h);have ho:=hG.aR b _ (wH hb) x hx;obtain ⟨⟨h1,h2,h3⟩,h4⟩:=(Jm hL hle (by omega)).1 hx;obtain ⟨ha,_,_⟩:=Fh hL.ka hL.aK (by omega) x hx;have h5:=ho.hi;rw [sM] at h5;exact ⟨ha.uL,ho.to,ho.lo,h5,ho.cost,qF h1,ha.bB⟩
theorem Zl {H:aD} {line:List Int} (h:dU H line=0) {b:Nat} (hb:b<line.length):sL H line b=0/\yC H line b=ei H line b:=by
 obtain ⟨hL,_,hG⟩:=wI h;have hm:=hG.many b _ (wH hb);have he:sL H line b=0:=by unfold sL;rw [if_neg (by rw [Lst.JM h];decide),if_neg (by unfold bL;simp;omega),Int.toNat_natCast,if_neg (by omega)]
 refine ⟨he,?_⟩;unfold yC;rw [if_pos he,Int.toNat_natCast]
theorem Zm {g:List (List ar)} (hg:fJ g) {i:Nat} (hi:i<=g.length):-1<=eE g i/\eE g i<=1080000:=by
 rw [Cu hg (g.length - i) i (by omega)];cases hw:(dp g i)[0]? with
 | none=>simp
 | some w=>have:=Aw hg hi w (List.mem_of_getElem? hw);simp only;omega
set_option maxHeartbeats 4000000 in
theorem Zn (H:aD) (B:bE) (line:List Int) (hf:dx H) (hB:lN B) (hl:line.length<=1048576) :
  ab Tryz.prog 6 [.agg (aZ H),.agg (dO B),.sl 1 none (ints line)] [] (.aB [.agg (km (qZ H B line)),.int .i64 (mo H B line)]):=by
 have ra:∀ e:Int,aa (.aB [.agg [.aS,.int .i64 0],.int .i64 e]) (.aB [.agg (km ui),.int .i64 e]):=fun e=>aa.aB (.cons (aa.agg (.cons (aa.nil (by decide)) (.cons (aa.refl _) .nil))) (.cons (aa.refl _) .nil));refine ab.of ?_;refine aA (F:=Tryz.f6) c6 rfl rfl rfl mixed rfl fun X=>?_;(conv=>whnf);intro rb;(conv=>whnf);repeat (refine ab.k0 (Gb H B hf hB) ?_;conv=>whnf)
 refine ⟨fun h0=>?_,fun h0=>?_⟩<;>simp at h0
 ·have he:mo H B line=kr H B:=by unfold mo;rw [if_pos h0]
  unfold qZ;rw [he,if_neg h0];(conv=>whnf);repeat ((first|refine ⟨_,_,.head _,rfl,?_⟩|refine ⟨_,_,.here _,aI,?_⟩);conv=>whnf)
  exact ra _
 (conv=>whnf);repeat ((first|refine ab.k0 (Lst.CN H line hf hl) ?_|refine ⟨_,_,bj.here _,⟨Nat.le_of_ble_eq_true rfl,rfl⟩,?_⟩|intro (nb:Nat));conv=>whnf)
 refine ⟨fun h1=>?_,fun h1=>?_⟩<;>simp at h1
 ·have he:mo H B line=ed H line 1:=by unfold mo;rw [if_neg (by omega),if_pos h1]
  unfold qZ;rw [he,if_neg h1];(conv=>whnf);repeat ((first|refine ⟨_,_,.head _,rfl,?_⟩|refine ⟨_,_,.here _,aI,?_⟩);conv=>whnf)
  exact ra _
 have dJ:mo H B line=if bz (jU H B line) 0=[] then 52 else 0:=by unfold mo;rw [if_neg (by omega),if_neg (by omega)]
 have mJ:=(Lst.Pd h1).1;obtain ⟨hL,_,hG⟩:=wI mJ;have dG:=hL.bB;have Gk:B.aK.length=H.list.aK.length:=(PY (Dq h0).2).1;obtain ⟨K,hK⟩:∃ K,K=jU H B line:=⟨_,rfl⟩;have tG:fJ K:=by rw [hK];exact GM hG
 have GQ:K.length=line.length:=(by rw [hK,GL]);rw [<- hK] at dJ;(conv=>whnf);repeat ((refine ⟨ag ⟨by rw [cO];omega,by rw [cO];omega⟩,?_⟩);conv=>whnf)
 rw [cO,show ((line.length:Nat):Int)+1=((line.length+1:Nat):Int) from rfl];refine aw.mono ?_ ((Rp (-1) (line.length+1) (by omega) (by omega)).frame _);rintro w h1 ⟨_,⟨lb,rfl,rfl⟩,rfl⟩;rw [Zj K];have eu:∀ a,(kG K line.length a).length=line.length+1:=Zc K line.length;have cY:∀ a,(mq K line.length a).length=line.length:=Zd K line.length;(conv=>whnf);repeat ((first|refine ⟨ag ⟨by omega,by omega⟩,?_⟩|(refine fy (i:=line.length) (by omega) ?_)|(refine qx 0 (by decide) zH (i:=line.length) (by rw [eu];omega) (by omega) rfl (.here _) ?_)|(refine ⟨⟨rfl,by omega,by omega⟩,fun fb=>?_⟩));conv=>whnf)
 rw [show (line.length:Int).toNat=line.length by omega];rw [show gS line.length [AV.int .i64 0,.int .i64 0,.int .i64 0,.int .i64 0,.int .i64 0,.aS,.aS]=((mq K line.length line.length).map zL).flatten by rw [<- Zk];exact Zi _];rw [show (kG K line.length (line.length+1)).set line.length 0=kG K line.length line.length by have h9:=Rn K line.length line.length;rwa [show eE K line.length=0 by rw [<- GQ];exact IK K] at h9];refine bD rfl mixed [2,3,4,6,11,12,13,14] [] (fun m r h=>∃ (a:Nat) (c:Int),r=[(2,[],.sl 1 none (ints line)),(3,[],.ai (aZ H)),(4,[],.ai (dO B)),(6,[],.ba rb 0),(11,[],.int .i64 line.length),(12,[],.aQ lb 0 (line.length+1) 1),(13,[],.aQ fb 0 line.length 7),(14,[],.int .i64 c)]/\h=(fb,.vec ((mq K line.length a).map zL).flatten)::(lb,.vec ((kG K line.length a).map encI).flatten)::(rb,.vec [.aS,.int .i64 0])::[]/\m=a/\c=(a:Int) - 1/\a<=line.length) ?_ ?_
 ·(conv=>whnf);exact ⟨_,_,ah.refl _ _,_,line.length,_,rfl,rfl,rfl,rfl,by omega⟩
 rintro a r h' ⟨a',c,rfl,rfl,rfl,lD,ha⟩;(conv=>whnf);refine ⟨fun vV=>?_,fun vV=>?_⟩<;>simp at vV
 ·obtain ⟨b,rfl⟩:∃ b,a=b+1:=⟨a - 1,by omega⟩;have eW:c=(b:Int):=(by omega);subst eW;obtain ⟨Lx,oP⟩:=Zl mJ (b:=b) (by omega);obtain ⟨es,bp⟩:∃ es,es=ei H line b:=⟨_,rfl⟩;have Zo:K[b]?=some (es.filter (oq H B line b)):=by rw [hK,bp];exact Re (wH (by omega))
  have Rq:=Zb tG Zo;rw [<- Rf] at Rq;have Rr:=UB H line b hf hl;rw [Lx,oP,<- bp] at Rr;have Ly:∀ x∈es,KF H line b x:=fun x hx=>Ro mJ (by omega) (by rw [<- bp];exact hx);have Rs:es.length<=2000:=by rw [bp];exact hG.many b _ (wH (by omega))
  (conv=>whnf);repeat (refine ab.k0 (Rr) ?_;conv=>whnf)
  refine cF (by simp) ?_;(conv=>whnf);skip;refine bD rfl mixed [2,3,4,6,11,12,13,14,67,68,69] [] (fun m r h=>∃ (k:Nat) (s:Int × Option ar),r=[(2,[],.sl 1 none (ints line)),(3,[],.ai (aZ H)),(4,[],.ai (dO B)),(6,[],.ba rb 0),(11,[],.int .i64 line.length),(12,[],.aQ lb 0 (line.length+1) 1),(13,[],.aQ fb 0 line.length 7),(14,[],.int .i64 b),(67,[],.sl 7 none (es.map bZ)),(68,[],.int .i64 (es.map bZ).length),(69,[],.int .i64 k)]/\h=(fb,.vec (((mq K line.length (b+1)).set b s.2).map zL).flatten)::(lb,.vec (((kG K line.length (b+1)).set b s.1).map encI).flatten)::(rb,.vec [.aS,.int .i64 0])::[]/\m=es.length - k/\k<=es.length/\(eE K b,wa K b)=(es.drop k).foldl (zJ (oq H B line b) (zK K)) s/\-1<=s.1/\s.1<=1098000) ?_ ?_
  ·(conv=>whnf);exact ⟨_,_,ah.refl _ _,_,0,(-1,none),rfl,by rw [Zf,Zg],rfl,by omega,Rq.symm,by simp⟩
  rintro m r h' ⟨k,s,rfl,rfl,rfl,hk,dZ,Dh⟩;(conv=>whnf);refine ⟨fun bg=>?_,fun bg=>?_⟩<;>simp at bg
  ·obtain ⟨x,hx⟩:=aF bg;have gy:=Ly x (List.mem_of_getElem? hx);have oc:=gy.to;have Zp:=gy.lo;have Zq:=gy.hi;have CC:=gy.cost;obtain ⟨v,hv⟩:∃ v,v=eE K x.to.toNat:=⟨_,rfl⟩;have IJ:=Zm tG (i:=x.to.toNat) (by omega);rw [<- hv] at IJ;have qE:zK K x=v:=by rw [hv];rfl
   have Rt:((kG K line.length (b+1)).set b s.1)[x.to.toNat]?=some v:=by rw [List.getElem?_set_ne (by omega),hv];exact Rm (by omega) (by omega)
   have dF:((kG K line.length (b+1)).set b s.1)[b]?=some s.1:=(by rw [List.getElem?_set_self (by rw [eu];omega)]);rw [drop_cons hx,List.foldl_cons] at dZ;have uJ:=Xy H B ((line.take x.to.toNat).drop b) x.word (by rw [List.length_drop,List.length_take];omega) (by have:=gy.ay;omega) gy.form (fun z hz=>by rw [Gk];exact hL.aK z (List.mem_of_mem_take (List.mem_of_mem_drop hz)));rw [show ints ((line.take x.to.toNat).drop b)=((ints line).take x.to.toNat).drop b by unfold ints;rw [List.map_drop,List.map_take]] at uJ;(conv=>whnf);repeat ((first|refine ix (by assumption) ?_|(intro (xb:Nat))|(refine ⟨x.to.toNat,ag ⟨by omega,by omega⟩,?_⟩)|(refine fI zH (.tail _ (.head _)) (by omega) Rt ?_)|(refine ⟨ag ⟨by omega,by omega,by rw [cO];omega⟩,?_⟩)|(refine ⟨_,ag (uJ.wide _),?_⟩)|refine ⟨_,_,bj.here _,⟨Nat.le_of_ble_eq_true rfl,rfl⟩,?_⟩|refine And.intro (by show aJ (aH Tryz.f6 _) _=true;decide +kernel) ?_);conv=>whnf)
   have xL:oq H B line b x=xq H B ((line.take x.to.toNat).drop b) x.word:=rfl;refine ⟨fun q1=>?_,fun q1=>?_⟩
   ·have iC:zJ (oq H B line b) (zK K) s x=s:=by
     unfold zJ pa;rw [xL,qE];rw [Bool.or_eq_true,decide_eq_true_eq,Bool.not_eq_true'] at q1;rcases q1 with h|h
     ·rw [if_pos h,ite_self]
     rw [h];rfl
    rw [iC] at dZ;(conv=>whnf);repeat (refine ⟨ag ⟨by omega,by omega⟩,?_⟩;conv=>whnf)
    exact ⟨_,_,ah.refl _ _,_,(by omega),k+1,s,rfl,rfl,rfl,by omega,dZ,Dh⟩
   rw [Bool.or_eq_false_iff,decide_eq_false_iff_not,Bool.not_eq_false'] at q1;have iC:zJ (oq H B line b) (zK K) s x=if (decide (s.1<0)||decide (x.cost+v<s.1))=true then (x.cost+v,some x) else s:=by unfold zJ pa;rw [xL,qE,if_pos q1.2,if_neg q1.1]
   rw [iC] at dZ;(conv=>whnf);repeat ((first|refine ⟨ag ⟨by omega,by omega⟩,?_⟩|(refine ⟨x.to.toNat,ag ⟨by omega,by omega⟩,?_⟩)|(refine fI zH (.tail _ (.head _)) (by omega) Rt ?_)|(refine fy (i:=b) (by omega) ?_)|(refine fI zH (.tail _ (.head _)) (by omega) dF ?_)|refine And.intro (by show aJ (aH Tryz.f6 _) _=true;decide +kernel) ?_);conv=>whnf)
   refine ⟨fun q2=>?_,fun q2=>?_⟩
   ·rw [if_pos q2] at dZ;(conv=>whnf);repeat ((first|refine ⟨ag ⟨by omega,by omega⟩,?_⟩|(refine fy (i:=b) (by omega) ?_)|(refine qx (x.cost+v) (by decide) zH (i:=b) (by rw [List.length_set,eu];omega) (by omega) rfl (.there (.here _)) ?_)|(refine qx (some x) (by decide) Ea (i:=b) (by rw [List.length_set,cY];omega) (by omega) rfl (.here _) ?_)|refine And.intro (by show aJ (aH Tryz.f6 _) _=true;decide +kernel) ?_);conv=>whnf)
    rw [List.set_set,List.set_set];exact ⟨_,_,ah.refl _ _,_,(by omega),k+1,(x.cost+v,some x),rfl,rfl,rfl,by omega,dZ,by constructor<;>(simp only;omega)⟩
   rw [if_neg (by rw [q2];decide)] at dZ;(conv=>whnf);repeat (refine ⟨ag ⟨by omega,by omega⟩,?_⟩;conv=>whnf)
   exact ⟨_,_,ah.refl _ _,_,(by omega),k+1,s,rfl,rfl,rfl,by omega,dZ,Dh⟩
  rw [drop_nil (by omega)] at dZ;have dZ:(eE K b,wa K b)=s:=dZ;rw [<- dZ];simp only;rw [Rn,Zh];(conv=>whnf);repeat (refine ⟨ag ⟨by omega,by omega⟩,?_⟩;conv=>whnf)
  exact ⟨_,_,ah.refl _ _,_,(by omega),b,_,rfl,rfl,rfl,rfl,by omega⟩
 have Lz:a=0:=(by omega);subst Lz;have kF:=Cu tG K.length 0 (by omega);have dw:(kG K line.length 0)[0]?=some (eE K 0):=Rm (by omega) (by omega);(conv=>whnf);repeat ((first|(refine ⟨0,ag ⟨by omega,by omega⟩,?_⟩)|(refine fI zH (.tail _ (.head _)) (by omega) dw ?_));conv=>whnf)
 have jh:=yI tG (i:=0) (by omega) 0;refine ⟨fun q1=>?_,fun q1=>?_⟩<;>simp at q1
 ·have Cv:(dp K 0)[0]?=none:=by
   cases hw:(dp K 0)[0]? with
   | none=>rfl
   | some w=>have:=Aw tG (i:=0) (by omega) w (List.mem_of_getElem? hw);rw [hw] at kF;simp only at kF;omega
  have gB:bz K 0=[]:=by
   rw [Cv] at jh;cases hq:bz K 0 with
   | nil=>rfl
   | cons p t=>rw [hq] at jh;cases jh
  have he:mo H B line=52:=(by rw [dJ,if_pos gB]);unfold qZ;rw [he,if_neg (by decide)];(conv=>whnf);repeat ((first|(refine ⟨_,_,.there (.there (.here _)),aI,?_⟩)|(refine ⟨_,_,.tail _ (.tail _ (.head _)),rfl,?_⟩));conv=>whnf)
  exact ra _
 obtain ⟨w0,Cv⟩:∃ w,(dp K 0)[0]?=some w:=by
  cases hw:(dp K 0)[0]? with
  | none=>rw [hw] at kF;simp only at kF;omega
  | some w=>exact ⟨w,rfl⟩
 rw [Cv] at kF jh;simp only at kF
 obtain ⟨p,hD⟩:∃ p,(bz K 0)[0]?=some p:=by
  cases hq:(bz K 0)[0]? with
  | none=>rw [hq] at jh;cases jh
  | some p=>exact ⟨p,rfl⟩
 rw [hD] at jh;have kN:p.1=w0.cost:=(by simpa using jh);have aM:bz K 0≠[]:=by intro h;rw [h] at hD;cases hD
 have he:mo H B line=0:=by rw [dJ,if_neg aM]
 have hR:qZ H B line=kT p:=by
  unfold qZ jo;rw [if_pos he,<- hK];cases hq:bz K 0 with
  | nil=>exact absurd hq aM
  | cons a t=>rw [hq] at hD;cases hD;rfl
 rw [hR,he];(conv=>whnf);repeat ((first|(intro (qb:Nat))|(refine fI zH (.tail _ (.head _)) (by omega) dw ?_)|(refine ⟨0,ag ⟨by omega,by omega⟩,?_⟩)|refine ⟨_,_,.here _,aI,?_⟩);conv=>whnf)
 clear dw;rw [kF,<- kN];refine bD rfl mixed [6,11,13,20,21] [] (fun m r h=>∃ (i:Nat) (w:Wy) (pc:nQ) (L:List ar) (wv:AV) (wh:af) (rb qb:Nat),r=[(6,[],.ba rb 0),(11,[],.int .i64 line.length),(13,[],.aQ fb 0 line.length 7),(20,[],.ba qb 0),(21,[],.int .i64 i)]/\h=(qb,.vec [wv,.int .i64 p.1])::(fb,.vec ((mq K line.length 0).map zL).flatten)::(rb,.vec [.aS,.int .i64 0])::wh/\m=line.length - i/\i<=line.length/\(dp K i)[0]?=some w/\(bz K i)[0]?=some pc/\p.2=L++pc.2/\Out 4 cG (L.map (·.word)) wv wh/\L.length<=i) ?_ ?_
 ·(conv=>whnf);exact ⟨_,_,ah.sublist (.cons_cons _ (.cons_cons _ (.cons _ (.cons_cons _ .slnil)))),_,0,w0,p,[],.aS,[],rb,qb,rfl,rfl,rfl,by omega,Cv,hD,rfl,.inl ⟨rfl,rfl,rfl⟩,Nat.le_refl _⟩
 rintro m r h' ⟨i,w,pc,L,wv,wh,rb,qb,rfl,rfl,rfl,hi,wQ,CE,hL,ho,UZ⟩;(conv=>whnf);refine ⟨fun hz=>?_,fun hz=>?_⟩<;>simp at hz
 ·obtain ⟨es,x,w',p',bp,hx,jn,kR,aX,ft⟩:=Lst.wP tG (by omega) wQ CE;have IU:=jn.lo;have IV:=jn.hi;have gy:=jn.fit;have jl:((x.to.toNat:Nat):Int)=x.to:=Int.toNat_of_nonneg (by omega);have nx:w.aO=0:=by have:=Lst.Od wQ;omega
  rw [nx] at kR aX;have tW:wa K i=some x:=by unfold wa;rw [wQ];simp only;rw [List.getD_eq_getElem?_getD,bp];exact hx
  have GR:(mq K line.length 0)[i]?=some (some x):=(by rw [Ze (by omega) hz,tW]);have fu:((L.map (·.word)).map cG).length=L.length:=(by simp);rcases ho with ⟨fw,rfl,rfl⟩|⟨q,rfl,rfl⟩
  ·(conv=>whnf);repeat ((first|(refine fy (i:=i) (by omega) ?_)|(refine Am (d:=3) Ea (by decide) (.tail _ (.head _)) (congrArg (fun x=>x+3) (Nat.zero_add (i*7))) GR ?_)|refine ⟨_,_,.head _,rfl,?_⟩|refine And.intro (by show aJ (aH Tryz.f6 _) _=true;decide +kernel) ?_);conv=>whnf)
   refine ⟨Nat.le_of_ble_eq_true rfl,fun q=>?_⟩;(conv=>whnf);repeat ((first|(refine fy (i:=i) (by omega) ?_)|(refine Am (d:=1) Ea (by decide) (.tail _ (.tail _ (.head _))) (congrArg (fun x=>x+1) (Nat.zero_add (i*7))) GR ?_)|refine ⟨_,_,.there (.here _),aI,?_⟩);conv=>whnf)
   exact ⟨_,_,ah.perm (List.perm_middle (l₁:=[_,_,_])).symm,_,(by omega),x.to.toNat,w',p',L++[x],.sl 4 (some q) [cG x.word],[(q,.tok)],rb,qb,by rw [jl],rfl,rfl,by omega,kR,aX,by rw [hL,ft,List.append_assoc];rfl,.inr ⟨q,by rw [List.map_append,fw];rfl,rfl⟩,by rw [List.length_append];simp;omega⟩
  (conv=>whnf);repeat ((first|(refine fy (i:=i) (by omega) ?_)|(refine Am (d:=3) Ea (by decide) (.tail _ (.head _)) (congrArg (fun x=>x+3) (Nat.zero_add (i*7))) GR ?_)|refine ⟨_,_,.head _,rfl,?_⟩|refine And.intro (by show aJ (aH Tryz.f6 _) _=true;decide +kernel) ?_);conv=>whnf)
  refine ⟨(by rw [List.length_append,fu];simp;unfold aN;omega),fun q2=>⟨_,.there (.there (.there (.here _))),?_⟩⟩;(conv=>whnf);repeat ((first|(refine fy (i:=i) (by omega) ?_)|(refine Am (d:=1) Ea (by decide) (.tail _ (.head _)) (congrArg (fun x=>x+1) (Nat.zero_add (i*7))) GR ?_)|refine ⟨_,_,.here _,aI,?_⟩);conv=>whnf)
  exact ⟨_,_,ah.refl _ _,_,(by omega),x.to.toNat,w',p',L++[x],.sl 4 (some q2) ((L.map (·.word)).map cG++[cG x.word]),[(q2,.tok)],rb,qb,by rw [jl],rfl,rfl,by omega,kR,aX,by rw [hL,ft,List.append_assoc];rfl,.inr ⟨q2,by rw [List.map_append,List.map_append];rfl,rfl⟩,by rw [List.length_append];simp;omega⟩
 have bw:i=K.length:=(by omega);subst bw;obtain ⟨IZ,_⟩:=Lst.Oc wQ CE;(conv=>whnf);repeat ((first|(refine ⟨_,_,.there (.there (.here _)),aI,?_⟩)|(refine ⟨_,_,.tail _ (.tail _ (.head _)),rfl,?_⟩)|refine ⟨_,_,.head _,rfl,?_⟩);conv=>whnf)
 show aa _ (.aB [.agg [.sl 4 none ((p.2.map (·.word)).map cG),.int .i64 p.1],.int .i64 0]);rw [hL,IZ,List.append_nil];exact aa.aB (.cons (aa.agg (.cons (ho.le (by decide)) (.cons (aa.refl _) .nil))) (.cons (aa.refl _) .nil))
end Go.Abs.Wall.Spl
