/- What is proved: small laws for the walks of this seat, and contracts of its functions. No condition but those each theorem names. -/
import Derived.Test.YtbmcnieifibckaaGreatN35
import Derived.Test.YtbmcnieifibckaaGreatN26
set_option maxRecDepth 100000
set_option maxHeartbeats 2000000
set_option linter.unusedVariables false
set_option linter.unusedSimpArgs false
namespace Go.Abs.Wall.Spl
open Go Go.Abs Go.Proofs Go.Abs.Wall
open Go.Abs.Wall.Lst (ea cC eI fA gF gG mu pH)
def rZ (H:aj) (B:bl) (line:List Int) (i:Nat) (x:av):Bool:=kN H B ((line.take x.to.toNat).drop i) x.word
def gx (H:aj) (B:bl) (line:List Int):List (List av):=(bX H line).mapIdx fun i es=>es.filter (rZ H B line i)
theorem Hj (H:aj) (B:bl) (line:List Int):(gx H B line).length=line.length:=by unfold gx;rw [List.length_mapIdx,oK]
theorem RP {H:aj} {B:bl} {line:List Int} {i:Nat} {es:List av} (h:(bX H line)[i]?=some es):(gx H B line)[i]?=some (es.filter (rZ H B line i)):=by unfold gx;rw [List.getElem?_mapIdx,h];rfl
theorem DW {H:aj} {B:bl} {line:List Int} {i:Nat} {es:List av} (h:(gx H B line)[i]?=some es):∃ l,(bX H line)[i]?=some l/\es=l.filter (rZ H B line i):=by
 unfold gx at h;rw [List.getElem?_mapIdx] at h;cases hq:(bX H line)[i]? with
 | none=>rw [hq] at h;cases h
 | some l=>rw [hq] at h;exact ⟨l,rfl,by simpa using h.symm⟩
theorem DX {H:aj} {B:bl} {line:List Int} (h:fX (bX H line)):fX (gx H B line):=by
 have hl:(gx H B line).length=(bX H line).length:=(by rw [Hj,oK]);refine ⟨by rw [hl];exact h.bB,fun i es bc=>?_,fun i es bc x hx=>?_⟩
 ·obtain ⟨l,h1,rfl⟩:=DW bc;have:=h.many i l h1;have:=List.length_filter_le (rZ H B line i) l;omega
 obtain ⟨l,h1,rfl⟩:=DW bc;rw [hl];exact h.aO i l h1 x (List.mem_filter.1 hx).1
def oY (V:av->Int) (s:Int × Option av) (x:av):Int × Option av:=
 if V x<0 then s else if (decide (s.1<0)||decide (x.cost+V x<s.1))=true then (x.cost+V x,some x) else s
def zA (kp:av->Bool) (V:av->Int) (s:Int × Option av) (x:av):Int × Option av:=if kp x=true then oY V s x else s
theorem RQ (kp:av->Bool) (V:av->Int):∀ (es:List av) (s:Int × Option av),es.foldl (zA kp V) s=(es.filter kp).foldl (oY V) s
 | [],_=>rfl
 | x::es,s=>by
   rw [List.foldl_cons,RQ kp V es,List.filter_cons];unfold zA;split
   ·rw [List.foldl_cons]
   rfl
def ZE (V:av->Int) (es:List av) (s:Int × Option av):Prop:=
 (s=(-1,none)/\∀ x∈es,V x<0)\/∃ k x,es[k]?=some x/\0<=V x/\s=(x.cost+V x,some x)/\∀ (j:Nat) y,es[j]?=some y->0<=V y->x.cost+V x<y.cost+V y\/(x.cost+V x=y.cost+V y/\k<=j)
theorem Hk {α:Type} {l:List α} {z y:α} {j:Nat} (h:(l++[z])[j]?=some y):l[j]?=some y\/(j=l.length/\y=z):=by
 by_cases hj:j<l.length
 ·rw [List.getElem?_append_left hj] at h;exact .inl h
 rw [List.getElem?_append_right (by omega)] at h
 have:j - l.length=0:=by
  rcases Nat.eq_zero_or_pos (j - l.length) with h0|h0
  ·exact h0
  rw [List.getElem?_eq_none (by simp;omega)] at h;cases h
 rw [this] at h;exact .inr ⟨by omega,by simpa using h.symm⟩
theorem ZF {V:av->Int}:∀ (n:Nat) (es:List av),es.length=n->(∀ x∈es,0<=V x->0<=x.cost+V x)->ZE V es (es.foldl (oY V) (-1,none)):=by
 intro n;induction n with
 | zero=>
   intro es hl _;have:es=[]:=List.length_eq_zero_iff.1 hl;subst this;exact .inl ⟨rfl,fun x hx=>by cases hx⟩
 | succ n ih=>
   intro es hl hV;obtain ⟨l,z,rfl⟩:∃ l z,es=l++[z]:=⟨es.dropLast,es.getLast (by intro h;subst h;cases hl),(List.dropLast_concat_getLast _).symm⟩;rw [List.length_append] at hl;have wI:l.length=n:=(by simpa using hl);have hI:=ih l wI fun x hx=>hV x (List.mem_append_left _ hx);rw [List.foldl_append,List.foldl_cons,List.foldl_nil];have hz:=hV z (by simp);generalize l.foldl (oY V) (-1,none)=s at hI ⊢;by_cases hv:V z<0
   ·have iH:oY V s z=s:=by unfold oY;rw [if_pos hv]
    rw [iH];rcases hI with ⟨h1,h2⟩|⟨k,x,h1,h2,h3,h4⟩
    ·refine .inl ⟨h1,fun x hx=>?_⟩;rcases List.mem_append.1 hx with h|h
     ·exact h2 x h
     rw [List.mem_singleton.1 h];exact hv
    refine .inr ⟨k,x,?_,h2,h3,fun j y hj hy=>?_⟩
    ·rw [List.getElem?_append_left (List.getElem?_eq_some_iff.1 h1).1];exact h1
    rcases Hk hj with h|⟨_,rfl⟩
    ·exact h4 j y h hy
    omega
   have RR:(l++[z])[l.length]?=some z:=by rw [List.getElem?_append_right (Nat.le_refl _)];simp
   rcases hI with ⟨h1,h2⟩|⟨k,x,h1,h2,h3,h4⟩
   ·have iH:oY V s z=(z.cost+V z,some z):=by unfold oY;rw [if_neg hv,h1];rfl
    rw [iH];refine .inr ⟨l.length,z,RR,by omega,rfl,fun j y hj hy=>?_⟩;rcases Hk hj with h|⟨h,rfl⟩
    ·have:=h2 y (List.mem_of_getElem? h);omega
    exact .inr ⟨rfl,by omega⟩
   have RT:0<=x.cost+V x:=hV x (List.mem_append_left _ (List.mem_of_getElem? h1)) h2;have dW:=(List.getElem?_eq_some_iff.1 h1).1;have RU:s.1=x.cost+V x:=(by rw [h3]);by_cases aI:z.cost+V z<x.cost+V x
   ·have iH:oY V s z=(z.cost+V z,some z):=by unfold oY;rw [if_neg hv,RU,if_pos (by simp;omega)]
    rw [iH];refine .inr ⟨l.length,z,RR,by omega,rfl,fun j y hj hy=>?_⟩;rcases Hk hj with h|⟨h,rfl⟩
    ·have:=h4 j y h hy;omega
    exact .inr ⟨rfl,by omega⟩
   have iH:oY V s z=s:=by unfold oY;rw [if_neg hv,RU,if_neg (by simp;omega)]
   rw [iH];refine .inr ⟨k,x,?_,h2,h3,fun j y hj hy=>?_⟩
   ·rw [List.getElem?_append_left dW];exact h1
   rcases Hk hj with h|⟨h,rfl⟩
   ·exact h4 j y h hy
   omega
def wc (g:List (List av)) (i:Nat):Option av:=match (du g i)[0]? with
 | none=>none
 | some w=>(g.getD i [])[w.aO]?
def zB (g:List (List av)) (x:av):Int:=ez g x.to.toNat
theorem ZG {g:List (List av)} (hg:fX g) {i:Nat} {es:List av} (bc:g[i]?=some es):es.foldl (oY (zB g)) (-1,none)=(ez g i,wc g i):=by
 have jv:=(List.getElem?_eq_some_iff.1 bc).1;have hE:=hg.aO i es bc
 have wO:∀ x∈es,zB g x=match (du g x.to.toNat)[0]? with
   | none=>-1
   | some w=>w.cost:=fun x hx=>CA hg (g.length - x.to.toNat) _ (by have:=(hE x hx).hi;have:=(hE x hx).lo;omega)
 have dK:∀ x∈es,∀ w,(du g x.to.toNat)[0]?=some w->0<=w.cost:=fun x hx w hw=>(Ay hg (by have:=(hE x hx).hi;omega) w (List.mem_of_getElem? hw)).1;have hI:=ZF (V:=zB g) es.length es rfl fun x hx h0=>by have:=(hE x hx).cost;omega
 have hr:=CA hg (g.length - i) i (by omega);have mo:du g i=Go.Abs.Wall.aW (cP g es):=by unfold du;rw [bc]
 have eJ:g.getD i []=es:=by rw [List.getD_eq_getElem?_getD,bc];rfl
 have qC:∀ y,iv (cP g es) (cU (cP g es) 0) y↔∃ x w,es[y.aO]?=some x/\(du g x.to.toNat)[0]?=some w/\y.cost=x.cost+w.cost/\y.aM=0:=by
  intro y;constructor
  ·rintro ⟨q1,l,q2,q3⟩;have q1:y.aM=0:=q1;rw [q1] at q3;have aI:=(List.getElem?_eq_some_iff.1 q2).1;rw [Cz] at aI;obtain ⟨x,hx⟩:=aL aI;obtain ⟨l',e1,e2⟩:=yF hg bc hx;rw [q2] at e1;cases e1
   rw [e2] at q3;cases hw:(du g x.to.toNat)[0]? with
   | none=>rw [hw] at q3;cases q3
   | some w=>rw [hw] at q3;exact ⟨x,w,hx,hw,by simpa using q3.symm,q1⟩
  rintro ⟨x,w,hx,hw,hc,h0⟩;obtain ⟨l',e1,e2⟩:=yF hg bc hx;exact ⟨h0,l',e1,by rw [h0,e2,hw,hc];rfl⟩
 unfold wc;rw [hr,eJ,mo,lG];rcases hI with ⟨h1,h2⟩|⟨k,x,h1,h2,h3,h4⟩
 ·rw [h1,FI fun y hy=>?_];obtain ⟨x,w,hx,hw,hc,h0⟩:=(qC y).1 hy;have vm:=List.mem_of_getElem? hx;have:=h2 x vm;have h5:=dK x vm w hw;rw [wO x vm,hw] at this;simp only at this;omega
 have vm:=List.mem_of_getElem? h1;have hv:=wO x vm;cases hw:(du g x.to.toNat)[0]? with
 | none=>rw [hw] at hv;simp only at hv;omega
 | some w=>
   rw [hw] at hv;simp only at hv
   have hb:gU (cP g es) (cU (cP g es) 0)=some ⟨x.cost+w.cost,k,0⟩:=by
    refine FH ((qC _).2 ⟨x,w,h1,hw,rfl,rfl⟩) fun y hy=>?_;obtain ⟨z,v,hz,Hl,hc,h0⟩:=(qC y).1 hy;have RV:=List.mem_of_getElem? hz;have RW:=wO z RV;rw [Hl] at RW;simp only at RW;have Y6:=dK z RV v Hl;have h5:=h4 y.aO z hz (by omega);by_cases Bt:k=y.aO
    ·left;subst Bt;rw [h1] at hz;cases hz
     rw [hw] at Hl;cases Hl
     cases y
     simp only at hc h0 ⊢;rw [hc,h0]
    right;unfold dm;simp only;rw [hc];omega
   rw [hb,h3,hv];simp only;rw [h1]
def kR (H:aj) (B:bl) (line:List Int):Int:=if iB H B≠0 then iB H B else if cC H line 1≠0 then cC H line 1 else if bk (gx H B line) 0=[] then 52 else 0
def nx (H:aj) (B:bl) (line:List Int):sT:=if kR H B line=0 then (fA (gx H B line) 1).headD pH else pH
def kS (K:List (List av)) (n a:Nat):List Int:=(List.range (n+1)).map fun j=>if a<=j then ez K j else -1
def mH (K:List (List av)) (n a:Nat):List (Option av):=(List.range n).map fun j=>if a<=j then wc K j else none
theorem ZH (K:List (List av)) (n a:Nat):(kS K n a).length=n+1:=by simp [kS]
theorem ZI (K:List (List av)) (n a:Nat):(mH K n a).length=n:=by simp [mH]
theorem RX {K:List (List av)} {n a j:Nat} (h1:a<=j) (h2:j<=n):(kS K n a)[j]?=some (ez K j):=by unfold kS;rw [List.getElem?_map,List.getElem?_range (by omega)];simp [h1]
theorem ZJ {K:List (List av)} {n a j:Nat} (h1:a<=j) (h2:j<n):(mH K n a)[j]?=some (wc K j):=by unfold mH;rw [List.getElem?_map,List.getElem?_range (by omega)];simp [h1]
theorem Hm {α:Type} (f:Nat->α) (m b:Nat) (v:α):((List.range m).map f).set b v=(List.range m).map fun j=>if j=b then v else f j:=by
 refine List.ext_getElem? fun j=>?_;by_cases hj:j<m
 ·rw [List.getElem?_set,List.getElem?_map,List.getElem?_map,List.getElem?_range hj];by_cases h:b=j
  ·subst h;simp [hj]
  rw [if_neg h];simp [Ne.symm h]
 rw [List.getElem?_eq_none (by simp;omega),List.getElem?_eq_none (by simp;omega)]
theorem ZK (K:List (List av)) (n b:Nat):(kS K n (b+1)).set b (-1)=kS K n (b+1):=by
 unfold kS;rw [Hm];refine List.map_congr_left fun j _=>?_;by_cases h:j=b
 ·rw [if_pos h,if_neg (by omega)]
 rw [if_neg h]
theorem ZL (K:List (List av)) (n b:Nat):(mH K n (b+1)).set b none=mH K n (b+1):=by
 unfold mH;rw [Hm];refine List.map_congr_left fun j _=>?_;by_cases h:j=b
 ·rw [if_pos h,if_neg (by omega)]
 rw [if_neg h]
theorem RY (K:List (List av)) (n b:Nat):(kS K n (b+1)).set b (ez K b)=kS K n b:=by
 unfold kS;rw [Hm];refine List.map_congr_left fun j _=>?_;by_cases h:j=b
 ·rw [if_pos h,if_pos (by omega),h]
 rw [if_neg h];by_cases h2:b<=j
 ·rw [if_pos (by omega),if_pos h2]
 rw [if_neg (by omega),if_neg h2]
theorem ZM (K:List (List av)) (n b:Nat):(mH K n (b+1)).set b (wc K b)=mH K n b:=by
 unfold mH;rw [Hm];refine List.map_congr_left fun j _=>?_;by_cases h:j=b
 ·rw [if_pos h,if_pos (by omega),h]
 rw [if_neg h];by_cases h2:b<=j
 ·rw [if_pos (by omega),if_pos h2]
 rw [if_neg (by omega),if_neg h2]
end Go.Abs.Wall.Spl
namespace Go.Abs.Wall.Spl
open Go Go.Abs Go.Proofs Go.Abs.Wall
open Go.Abs.Wall.Lst (ea cC eI fA gF gG mu pH)
def c48:az:=⟨[0,1,2,3,4,6,7,8,10,11,12,13,14,15,16,18,19,20,21,26,36,53,64,67,68,69,70,91,112,125,133],[49],[9,18],[],[(20,[0,1,2,3,4,5,6,7,8,9,10,11,12,13,14,15,16,17,18],[]),(21,[0,1,2,3,4,5,6,7,8],[]),(23,[0,1,2,3,4,5,6,7,8,9],[]),(31,[0,1,2,3,4,5,6,7,8,9,10],[])],[]⟩
def zC:Option av->List AV
 | none=>[.int .i64 0,.int .i64 0,.int .i64 0,.int .i64 0,.int .i64 0,.aT,.aT]
 | some x=>cz x
theorem DY:∀ a:Option av,(zC a).length=7
 | none=>rfl
 | some _=>rfl
theorem ZN (n:Nat):gM n (zC none)=((List.replicate n (none:Option av)).map zC).flatten:=by
 unfold gM;induction n with
 | zero=>rfl
 | succ n ih=>rw [List.replicate_succ,List.replicate_succ,List.map_cons,List.flatten_cons,List.flatten_cons,ih]
theorem ZO (K:List (List av)) (n:Nat):List.replicate (n+1) (AV.int .i64 (-1))=((kS K n (n+1)).map encI).flatten:=by
 have h:kS K n (n+1)=List.replicate (n+1) (-1):=by unfold kS;refine List.eq_replicate_iff.2 ⟨by simp,fun b hb=>?_⟩;obtain ⟨j,hj,rfl⟩:=List.mem_map.1 hb;rw [List.mem_range] at hj;rw [if_neg (by omega)]
 rw [h];generalize n+1=m;induction m with
 | zero=>rfl
 | succ n ih=>rw [List.replicate_succ,List.replicate_succ,List.map_cons,List.flatten_cons,<- ih];rfl
theorem ZP (K:List (List av)) (n:Nat):List.replicate n (none:Option av)=mH K n n:=by symm;unfold mH;refine List.eq_replicate_iff.2 ⟨by simp,fun b hb=>?_⟩;obtain ⟨j,hj,rfl⟩:=List.mem_map.1 hb;rw [List.mem_range] at hj;rw [if_neg (by omega)]
structure KF (H:aj) (line:List Int) (b:Nat) (x:av):Prop where
 xE:x.xE=b
 to:x.to=b+x.word.ai.length
 lo:(b:Int)<x.to
 hi:x.to<=line.length
 cost:0<=x.cost/\x.cost<=18000
 form:lZ H.lex x.word.form
 ai:x.word.ai.length<=12
theorem ZQ {H:aj} {line:List Int} (h:df H line=0) {b:Nat} (hb:b<line.length) {x:av} (hx:x∈dE H line b):KF H line b x:=by obtain ⟨hL,_,hG⟩:=oL h;have hle:=Lst.xf (Lst.pM h);have ho:=hG.aO b _ (rH hb) x hx;obtain ⟨⟨h1,h2,h3⟩,h4⟩:=(AH hL hle (by omega)).1 hx;obtain ⟨ha,_,_⟩:=FF hL.ia hL.aA (by omega) x hx;have h5:=ho.hi;rw [oK] at h5;exact ⟨ha.xE,ho.to,ho.lo,h5,ho.cost,mn h1,ha.bB⟩
theorem ZR {H:aj} {line:List Int} (h:df H line=0) {b:Nat} (hb:b<line.length):sI H line b=0/\yz H line b=dE H line b:=by
 obtain ⟨hL,_,hG⟩:=oL h;have hm:=hG.many b _ (rH hb);have he:sI H line b=0:=by unfold sI;rw [if_neg (by rw [Lst.pM h];decide),if_neg (by unfold bI;simp;omega),Int.toNat_natCast,if_neg (by omega)]
 refine ⟨he,?_⟩;unfold yz;rw [if_pos he,Int.toNat_natCast]
theorem ZS {g:List (List av)} (hg:fX g) {i:Nat} (hi:i<=g.length):-1<=ez g i/\ez g i<=1080000:=by
 rw [CA hg (g.length - i) i (by omega)];cases hw:(du g i)[0]? with
 | none=>simp
 | some w=>have:=Ay hg hi w (List.mem_of_getElem? hw);simp only;omega
set_option maxHeartbeats 4000000 in
theorem RZ (H:aj) (B:bl) (line:List Int) (hf:dU H) (hB:pS B) (hl:line.length<=1048576) :
  ae Tryz.prog 48 [.agg (bu H),.agg (fN B),.sl 1 none (ints line)] [] (.aH [.agg (kI (nx H B line)),.int .i64 (kR H B line)]):=by
 have uL:∀ e:Int,ag (.aH [.agg [.aT,.int .i64 0],.int .i64 e]) (.aH [.agg (kI pH),.int .i64 e]):=fun e=>ag.aH (.cons (ag.agg (.cons (ag.nil (by decide)) (.cons (ag.refl _) .nil))) (.cons (ag.refl _) .nil));refine ae.of ?_;refine aG (F:=Tryz.f48) c48 rfl rfl rfl mixed rfl fun X=>?_;(conv=>whnf);intro rb;(conv=>whnf);repeat (refine ae.k0 (Ba H B hf hB) ?_;conv=>whnf)
 refine ⟨fun h0=>?_,fun h0=>?_⟩<;>simp at h0
 ·have he:kR H B line=iB H B:=by unfold kR;rw [if_pos h0]
  unfold nx;rw [he,if_neg h0];(conv=>whnf);repeat ((first|refine ⟨_,_,.head _,rfl,?_⟩|refine ⟨_,_,.here _,aR,?_⟩);conv=>whnf)
  exact uL _
 (conv=>whnf);repeat ((first|refine ae.k0 (Lst.rM H line hf hl) ?_|refine ⟨_,_,bo.here _,⟨Nat.le_of_ble_eq_true rfl,rfl⟩,?_⟩|intro (nb:Nat));conv=>whnf)
 refine ⟨fun h1=>?_,fun h1=>?_⟩<;>simp at h1
 ·have he:kR H B line=cC H line 1:=by unfold kR;rw [if_neg (by omega),if_pos h1]
  unfold nx;rw [he,if_neg h1];(conv=>whnf);repeat ((first|refine ⟨_,_,.head _,rfl,?_⟩|refine ⟨_,_,.here _,aR,?_⟩);conv=>whnf)
  exact uL _
 have fm:kR H B line=if bk (gx H B line) 0=[] then 52 else 0:=by unfold kR;rw [if_neg (by omega),if_neg (by omega)]
 have iP:=(Lst.tf h1).1;obtain ⟨hL,_,hG⟩:=oL iP;have dw:=hL.bB;have Dw:B.aA.length=H.list.aA.length:=(QU (vQ h0).2).1;obtain ⟨K,hK⟩:∃ K,K=gx H B line:=⟨_,rfl⟩;have we:fX K:=by rw [hK];exact DX hG
 have ZT:K.length=line.length:=(by rw [hK,Hj]);rw [<- hK] at fm;(conv=>whnf);repeat ((refine ⟨ah ⟨by rw [cg];omega,by rw [cg];omega⟩,?_⟩);conv=>whnf)
 rw [cg,show ((line.length:Nat):Int)+1=((line.length+1:Nat):Int) from rfl];refine aB.mono ?_ ((Sa (-1) (line.length+1) (by omega) (by omega)).frame _);rintro w h1 ⟨_,⟨lb,rfl,rfl⟩,rfl⟩;rw [ZO K];have gD:∀ a,(kS K line.length a).length=line.length+1:=ZH K line.length;have dP:∀ a,(mH K line.length a).length=line.length:=ZI K line.length;(conv=>whnf);repeat ((first|refine ⟨ah ⟨by omega,by omega⟩,?_⟩|(refine fx (i:=line.length) (by omega) ?_)|(refine py 0 (by decide) tF (i:=line.length) (by rw [gD];omega) (by omega) rfl (.here _) ?_)|(refine ⟨⟨rfl,by omega,by omega⟩,fun fb=>?_⟩));conv=>whnf)
 rw [show (line.length:Int).toNat=line.length by omega];rw [show gM line.length [AV.int .i64 0,.int .i64 0,.int .i64 0,.int .i64 0,.int .i64 0,.aT,.aT]=((mH K line.length line.length).map zC).flatten by rw [<- ZP];exact ZN _];rw [show (kS K line.length (line.length+1)).set line.length 0=kS K line.length line.length by have h9:=RY K line.length line.length;rwa [show ez K line.length=0 by rw [<- ZT];exact Jm K] at h9];refine bW rfl mixed [2,3,4,6,11,12,13,14] [] (fun m r h=>∃ (a:Nat) (c:Int),r=[(2,[],.sl 1 none (ints line)),(3,[],.au (bu H)),(4,[],.au (fN B)),(6,[],.bj rb 0),(11,[],.int .i64 line.length),(12,[],.aQ lb 0 (line.length+1) 1),(13,[],.aQ fb 0 line.length 7),(14,[],.int .i64 c)]/\h=(fb,.vec ((mH K line.length a).map zC).flatten)::(lb,.vec ((kS K line.length a).map encI).flatten)::(rb,.vec [.aT,.int .i64 0])::[]/\m=a/\c=(a:Int) - 1/\a<=line.length) ?_ ?_
 ·(conv=>whnf);exact ⟨_,_,ao.refl _ _,_,line.length,_,rfl,rfl,rfl,rfl,by omega⟩
 rintro a r h' ⟨a',c,rfl,rfl,rfl,mq,ha⟩;(conv=>whnf);refine ⟨fun od=>?_,fun od=>?_⟩<;>simp at od
 ·obtain ⟨b,rfl⟩:∃ b,a=b+1:=⟨a - 1,by omega⟩;have gJ:c=(b:Int):=(by omega);subst gJ;obtain ⟨Bu,oO⟩:=ZR iP (b:=b) (by omega);obtain ⟨es,bc⟩:∃ es,es=dE H line b:=⟨_,rfl⟩;have ZU:K[b]?=some (es.filter (rZ H B line b)):=by rw [hK,bc];exact RP (rH (by omega))
  have Sb:=ZG we ZU;rw [<- RQ] at Sb;have Sc:=VN H line b hf hl;rw [Bu,oO,<- bc] at Sc;have ZV:∀ x∈es,KF H line b x:=fun x hx=>ZQ iP (by omega) (by rw [<- bc];exact hx);have ZW:es.length<=2000:=by rw [bc];exact hG.many b _ (rH (by omega))
  (conv=>whnf);repeat (refine ae.k0 (Sc) ?_;conv=>whnf)
  refine cF (by simp) ?_;(conv=>whnf);skip;refine bW rfl mixed [2,3,4,6,11,12,13,14,67,68,69] [] (fun m r h=>∃ (k:Nat) (s:Int × Option av),r=[(2,[],.sl 1 none (ints line)),(3,[],.au (bu H)),(4,[],.au (fN B)),(6,[],.bj rb 0),(11,[],.int .i64 line.length),(12,[],.aQ lb 0 (line.length+1) 1),(13,[],.aQ fb 0 line.length 7),(14,[],.int .i64 b),(67,[],.sl 7 none (es.map cz)),(68,[],.int .i64 (es.map cz).length),(69,[],.int .i64 k)]/\h=(fb,.vec (((mH K line.length (b+1)).set b s.2).map zC).flatten)::(lb,.vec (((kS K line.length (b+1)).set b s.1).map encI).flatten)::(rb,.vec [.aT,.int .i64 0])::[]/\m=es.length - k/\k<=es.length/\(ez K b,wc K b)=(es.drop k).foldl (zA (rZ H B line b) (zB K)) s/\-1<=s.1/\s.1<=1098000) ?_ ?_
  ·(conv=>whnf);exact ⟨_,_,ao.refl _ _,_,0,(-1,none),rfl,by rw [ZK,ZL],rfl,by omega,Sb.symm,by simp⟩
  rintro m r h' ⟨k,s,rfl,rfl,rfl,hk,dV,AR⟩;(conv=>whnf);refine ⟨fun bw=>?_,fun bw=>?_⟩<;>simp at bw
  ·obtain ⟨x,hx⟩:=aL bw;have jX:=ZV x (List.mem_of_getElem? hx);have oU:=jX.to;have Y7:=jX.lo;have Y8:=jX.hi;have CH:=jX.cost;obtain ⟨v,hv⟩:∃ v,v=ez K x.to.toNat:=⟨_,rfl⟩;have Jl:=ZS we (i:=x.to.toNat) (by omega);rw [<- hv] at Jl;have qG:zB K x=v:=by rw [hv];rfl
   have Sd:((kS K line.length (b+1)).set b s.1)[x.to.toNat]?=some v:=by rw [List.getElem?_set_ne (by omega),hv];exact RX (by omega) (by omega)
   have dh:((kS K line.length (b+1)).set b s.1)[b]?=some s.1:=(by rw [List.getElem?_set_self (by rw [gD];omega)]);rw [drop_cons hx,List.foldl_cons] at dV;have Bk:=QS H B ((line.take x.to.toNat).drop b) x.word (by rw [List.length_drop,List.length_take];omega) (by have:=jX.ai;omega) jX.form (fun z hz=>by rw [Dw];exact hL.aA z (List.mem_of_mem_take (List.mem_of_mem_drop hz)));rw [show ints ((line.take x.to.toNat).drop b)=((ints line).take x.to.toNat).drop b by unfold ints;rw [List.map_drop,List.map_take]] at Bk;(conv=>whnf);repeat ((first|refine ix (by assumption) ?_|(intro (xb:Nat))|(refine ⟨x.to.toNat,ah ⟨by omega,by omega⟩,?_⟩)|(refine eR tF (.tail _ (.head _)) (by omega) Sd ?_)|(refine ⟨ah ⟨by omega,by omega,by rw [cg];omega⟩,?_⟩)|(refine ⟨_,ah (Bk.wide _),?_⟩)|refine ⟨_,_,bo.here _,⟨Nat.le_of_ble_eq_true rfl,rfl⟩,?_⟩|refine And.intro (by show aP (aN Tryz.f48 _) _=true;decide +kernel) ?_);conv=>whnf)
   have Bt:rZ H B line b x=kN H B ((line.take x.to.toNat).drop b) x.word:=rfl;refine ⟨fun q1=>?_,fun q1=>?_⟩
   ·have iH:zA (rZ H B line b) (zB K) s x=s:=by
     unfold zA oY;rw [Bt,qG];rw [Bool.or_eq_true,decide_eq_true_eq,Bool.not_eq_true'] at q1;rcases q1 with h|h
     ·rw [if_pos h,ite_self]
     rw [h];rfl
    rw [iH] at dV;(conv=>whnf);repeat (refine ⟨ah ⟨by omega,by omega⟩,?_⟩;conv=>whnf)
    exact ⟨_,_,ao.refl _ _,_,(by omega),k+1,s,rfl,rfl,rfl,by omega,dV,AR⟩
   rw [Bool.or_eq_false_iff,decide_eq_false_iff_not,Bool.not_eq_false'] at q1;have iH:zA (rZ H B line b) (zB K) s x=if (decide (s.1<0)||decide (x.cost+v<s.1))=true then (x.cost+v,some x) else s:=by unfold zA oY;rw [Bt,qG,if_pos q1.2,if_neg q1.1]
   rw [iH] at dV;(conv=>whnf);repeat ((first|refine ⟨ah ⟨by omega,by omega⟩,?_⟩|(refine ⟨x.to.toNat,ah ⟨by omega,by omega⟩,?_⟩)|(refine eR tF (.tail _ (.head _)) (by omega) Sd ?_)|(refine fx (i:=b) (by omega) ?_)|(refine eR tF (.tail _ (.head _)) (by omega) dh ?_)|refine And.intro (by show aP (aN Tryz.f48 _) _=true;decide +kernel) ?_);conv=>whnf)
   refine ⟨fun q2=>?_,fun q2=>?_⟩
   ·rw [if_pos q2] at dV;(conv=>whnf);repeat ((first|refine ⟨ah ⟨by omega,by omega⟩,?_⟩|(refine fx (i:=b) (by omega) ?_)|(refine py (x.cost+v) (by decide) tF (i:=b) (by rw [List.length_set,gD];omega) (by omega) rfl (.there (.here _)) ?_)|(refine py (some x) (by decide) DY (i:=b) (by rw [List.length_set,dP];omega) (by omega) rfl (.here _) ?_)|refine And.intro (by show aP (aN Tryz.f48 _) _=true;decide +kernel) ?_);conv=>whnf)
    rw [List.set_set,List.set_set];exact ⟨_,_,ao.refl _ _,_,(by omega),k+1,(x.cost+v,some x),rfl,rfl,rfl,by omega,dV,by constructor<;>(simp only;omega)⟩
   rw [if_neg (by rw [q2];decide)] at dV;(conv=>whnf);repeat (refine ⟨ah ⟨by omega,by omega⟩,?_⟩;conv=>whnf)
   exact ⟨_,_,ao.refl _ _,_,(by omega),k+1,s,rfl,rfl,rfl,by omega,dV,AR⟩
  rw [drop_nil (by omega)] at dV;have dV:(ez K b,wc K b)=s:=dV;rw [<- dV];simp only;rw [RY,ZM];(conv=>whnf);repeat (refine ⟨ah ⟨by omega,by omega⟩,?_⟩;conv=>whnf)
  exact ⟨_,_,ao.refl _ _,_,(by omega),b,_,rfl,rfl,rfl,rfl,by omega⟩
 have LK:a=0:=(by omega);subst LK;have oV:=CA we K.length 0 (by omega);have dF:(kS K line.length 0)[0]?=some (ez K 0):=RX (by omega) (by omega);(conv=>whnf);repeat ((first|(refine ⟨0,ah ⟨by omega,by omega⟩,?_⟩)|(refine eR tF (.tail _ (.head _)) (by omega) dF ?_));conv=>whnf)
 have jr:=yE we (i:=0) (by omega) 0;refine ⟨fun q1=>?_,fun q1=>?_⟩<;>simp at q1
 ·have yG:(du K 0)[0]?=none:=by
   cases hw:(du K 0)[0]? with
   | none=>rfl
   | some w=>have:=Ay we (i:=0) (by omega) w (List.mem_of_getElem? hw);rw [hw] at oV;simp only at oV;omega
  have fM:bk K 0=[]:=by
   rw [yG] at jr;cases hq:bk K 0 with
   | nil=>rfl
   | cons p t=>rw [hq] at jr;cases jr
  have he:kR H B line=52:=(by rw [fm,if_pos fM]);unfold nx;rw [he,if_neg (by decide)];(conv=>whnf);repeat ((first|(refine ⟨_,_,.there (.there (.here _)),aR,?_⟩)|(refine ⟨_,_,.tail _ (.tail _ (.head _)),rfl,?_⟩));conv=>whnf)
  exact uL _
 obtain ⟨w0,yG⟩:∃ w,(du K 0)[0]?=some w:=by
  cases hw:(du K 0)[0]? with
  | none=>rw [hw] at oV;simp only at oV;omega
  | some w=>exact ⟨w,rfl⟩
 rw [yG] at oV jr;simp only at oV
 obtain ⟨p,fP⟩:∃ p,(bk K 0)[0]?=some p:=by
  cases hq:(bk K 0)[0]? with
  | none=>rw [hq] at jr;cases jr
  | some p=>exact ⟨p,rfl⟩
 rw [fP] at jr;have jj:p.1=w0.cost:=(by simpa using jr);have aJ:bk K 0≠[]:=by intro h;rw [h] at fP;cases fP
 have he:kR H B line=0:=by rw [fm,if_neg aJ]
 have hR:nx H B line=gF p:=by
  unfold nx fA;rw [if_pos he,<- hK];cases hq:bk K 0 with
  | nil=>exact absurd hq aJ
  | cons a t=>rw [hq] at fP;cases fP;rfl
 rw [hR,he];(conv=>whnf);repeat ((first|(intro (qb:Nat))|(refine eR tF (.tail _ (.head _)) (by omega) dF ?_)|(refine ⟨0,ah ⟨by omega,by omega⟩,?_⟩)|refine ⟨_,_,.here _,aR,?_⟩);conv=>whnf)
 clear dF;rw [oV,<- jj];refine bW rfl mixed [6,11,13,20,21] [] (fun m r h=>∃ (i:Nat) (w:Wy) (pc:lQ) (L:List av) (wv:AV) (wh:af) (rb qb:Nat),r=[(6,[],.bj rb 0),(11,[],.int .i64 line.length),(13,[],.aQ fb 0 line.length 7),(20,[],.bj qb 0),(21,[],.int .i64 i)]/\h=(qb,.vec [wv,.int .i64 p.1])::(fb,.vec ((mH K line.length 0).map zC).flatten)::(rb,.vec [.aT,.int .i64 0])::wh/\m=line.length - i/\i<=line.length/\(du K i)[0]?=some w/\(bk K i)[0]?=some pc/\p.2=L++pc.2/\Out 4 cr (L.map (·.word)) wv wh/\L.length<=i) ?_ ?_
 ·(conv=>whnf);exact ⟨_,_,ao.sublist (.cons_cons _ (.cons_cons _ (.cons _ (.cons_cons _ .slnil)))),_,0,w0,p,[],.aT,[],rb,qb,rfl,rfl,rfl,by omega,yG,fP,rfl,.inl ⟨rfl,rfl,rfl⟩,Nat.le_refl _⟩
 rintro m r h' ⟨i,w,pc,L,wv,wh,rb,qb,rfl,rfl,rfl,hi,wP,CJ,hL,ho,We⟩;(conv=>whnf);refine ⟨fun hz=>?_,fun hz=>?_⟩<;>simp at hz
 ·obtain ⟨es,x,w',p',bc,hx,jA,kZ,aY,hD⟩:=Lst.vr we (by omega) wP CJ;have Jt:=jA.lo;have Ju:=jA.hi;have jX:=jA.fit;have eS:((x.to.toNat:Nat):Int)=x.to:=Int.toNat_of_nonneg (by omega);have mP:w.aM=0:=by have:=Lst.OO wP;omega
  rw [mP] at kZ aY;have tZ:wc K i=some x:=by unfold wc;rw [wP];simp only;rw [List.getD_eq_getElem?_getD,bc];exact hx
  have Hn:(mH K line.length 0)[i]?=some (some x):=(by rw [ZJ (by omega) hz,tZ]);have gQ:((L.map (·.word)).map cr).length=L.length:=(by simp);rcases ho with ⟨ml,rfl,rfl⟩|⟨q,rfl,rfl⟩
  ·(conv=>whnf);repeat ((first|(refine fx (i:=i) (by omega) ?_)|(refine Ap (d:=3) DY (by decide) (.tail _ (.head _)) (congrArg (fun x=>x+3) (Nat.zero_add (i*7))) Hn ?_)|refine ⟨_,_,.head _,rfl,?_⟩|refine And.intro (by show aP (aN Tryz.f48 _) _=true;decide +kernel) ?_);conv=>whnf)
   refine ⟨Nat.le_of_ble_eq_true rfl,fun q=>?_⟩;(conv=>whnf);repeat ((first|(refine fx (i:=i) (by omega) ?_)|(refine Ap (d:=1) DY (by decide) (.tail _ (.tail _ (.head _))) (congrArg (fun x=>x+1) (Nat.zero_add (i*7))) Hn ?_)|refine ⟨_,_,.there (.here _),aR,?_⟩);conv=>whnf)
   exact ⟨_,_,ao.perm (List.perm_middle (l₁:=[_,_,_])).symm,_,(by omega),x.to.toNat,w',p',L++[x],.sl 4 (some q) [cr x.word],[(q,.tok)],rb,qb,by rw [eS],rfl,rfl,by omega,kZ,aY,by rw [hL,hD,List.append_assoc];rfl,.inr ⟨q,by rw [List.map_append,ml];rfl,rfl⟩,by rw [List.length_append];simp;omega⟩
  (conv=>whnf);repeat ((first|(refine fx (i:=i) (by omega) ?_)|(refine Ap (d:=3) DY (by decide) (.tail _ (.head _)) (congrArg (fun x=>x+3) (Nat.zero_add (i*7))) Hn ?_)|refine ⟨_,_,.head _,rfl,?_⟩|refine And.intro (by show aP (aN Tryz.f48 _) _=true;decide +kernel) ?_);conv=>whnf)
  refine ⟨(by rw [List.length_append,gQ];simp;unfold aU;omega),fun q2=>⟨_,.there (.there (.there (.here _))),?_⟩⟩;(conv=>whnf);repeat ((first|(refine fx (i:=i) (by omega) ?_)|(refine Ap (d:=1) DY (by decide) (.tail _ (.head _)) (congrArg (fun x=>x+1) (Nat.zero_add (i*7))) Hn ?_)|refine ⟨_,_,.here _,aR,?_⟩);conv=>whnf)
  exact ⟨_,_,ao.refl _ _,_,(by omega),x.to.toNat,w',p',L++[x],.sl 4 (some q2) ((L.map (·.word)).map cr++[cr x.word]),[(q2,.tok)],rb,qb,by rw [eS],rfl,rfl,by omega,kZ,aY,by rw [hL,hD,List.append_assoc];rfl,.inr ⟨q2,by rw [List.map_append,List.map_append];rfl,rfl⟩,by rw [List.length_append];simp;omega⟩
 have bC:i=K.length:=(by omega);subst bC;obtain ⟨Jz,_⟩:=Lst.ON wP CJ;(conv=>whnf);repeat ((first|(refine ⟨_,_,.there (.there (.here _)),aR,?_⟩)|(refine ⟨_,_,.tail _ (.tail _ (.head _)),rfl,?_⟩)|refine ⟨_,_,.head _,rfl,?_⟩);conv=>whnf)
 show ag _ (.aH [.agg [.sl 4 none ((p.2.map (·.word)).map cr),.int .i64 p.1],.int .i64 0]);rw [hL,Jz,List.append_nil];exact ag.aH (.cons (ag.agg (.cons (ho.le (by decide)) (.cons (ag.refl _) .nil))) (.cons (ag.refl _) .nil))
end Go.Abs.Wall.Spl
