/- What is proved: small laws for the walks of this seat, and contracts of its functions. No condition but those each theorem names. -/
import Derived.Test.YtbmcnieifibckaaGreatN38
import Derived.Test.YtbmcnieifibckaaGreatN19
set_option maxRecDepth 100000
set_option maxHeartbeats 2000000
set_option linter.unusedVariables false
set_option linter.unusedSimpArgs false
namespace Go.Abs.Wall.Spl
open Go Go.Abs Go.Proofs Go.Abs.Wall
def sM (a b:bc):Int:=fT [bN a.entry b.entry,bN a.ending b.ending,cu bN a.ah b.ah]
theorem zF:iX sM:=by
 have h:=(iX.jt zI (iX.jt zI zI.cu)).of (fun f:bc=>(f.entry,f.ending,f.ah)) (fun a b h=>by
  obtain ⟨a1,a2,a3⟩:=a;obtain ⟨b1,b2,b3⟩:=b;simp at h;simp [h])
 have he:sM=fun a b=>jt bN (jt bN (cu bN)) ((fun f:bc=>(f.entry,f.ending,f.ah)) a) ((fun f:bc=>(f.entry,f.ending,f.ah)) b):=by funext a b;simp only [sM,jt];rw [fT,yN]
 rw [he];exact h
theorem ZJ (a b:bc):(sM a b<0↔oE a b<0)/\(sM a b=0↔oE a b=0):=by
 have hc:=KI a.ah b.ah;unfold sM oE;rw [fT,yN];by_cases h1:a.entry=b.entry
 ·have k1:¬ bN a.entry b.entry≠0:=by rw [ne_eq,kT];simpa using h1
  have k2:¬ a.entry≠b.entry:=(by simpa using h1);rw [if_neg k1,if_neg k2];by_cases h2:a.ending=b.ending
  ·have k3:¬ bN a.ending b.ending≠0:=by rw [ne_eq,kT];simpa using h2
   have k4:¬ a.ending≠b.ending:=(by simpa using h2);rw [if_neg k3,if_neg k4];exact ⟨hc.1.symm,hc.2.symm⟩
  have k3:bN a.ending b.ending≠0:=by rw [ne_eq,kT];exact h2
  have k4:a.ending≠b.ending:=h2;rw [if_pos k3,if_pos k4,sN,kT];omega
 have k1:bN a.entry b.entry≠0:=by rw [ne_eq,kT];exact h1
 have k2:a.entry≠b.entry:=h1;rw [if_pos k1,if_pos k2,sN,kT];omega
def eqs {α:Type} [DecidableEq α]:List α->List α
 | []=>[]
 | [x]=>[x]
 | x::y::r=>if x=y then eqs (y::r) else x::eqs (y::r)
def nM {α:Type} [DecidableEq α]:α->List α->List α
 | _,[]=>[]
 | x,y::t=>if y=x then nM y t else y::nM y t
theorem FR {α:Type} [DecidableEq α]:∀ (t:List α) (x:α),eqs (x::t)=x::nM x t
 | [],x=>rfl
 | y::r,x=>by
   unfold eqs nM;rw [FR r y];by_cases h:x=y
   ·rw [if_pos h,if_pos h.symm,h]
   rw [if_neg h,if_neg (fun e=>h e.symm)]
theorem Rv {α:Type} [DecidableEq α] {a:α}:∀ (t:List α) (x:α),(a=x\/a∈nM x t)↔(a=x\/a∈t)
 | [],x=>by simp [nM]
 | y::r,x=>by
   unfold nM;have ih:=Rv (a:=a) r y;by_cases h:y=x
   ·rw [if_pos h,<- h,ih,List.mem_cons];simp
   rw [if_neg h,List.mem_cons,ih,List.mem_cons]
theorem Rw {α:Type} [DecidableEq α] {a:α} (l:List α):a∈eqs l↔a∈l:=by
 cases l with
 | nil=>rfl
 | cons x t=>rw [FR,List.mem_cons,List.mem_cons,Rv]
theorem Rx {α:Type} [DecidableEq α]:∀ (t:List α) (x:α),(nM x t).length<=t.length
 | [],x=>Nat.le_refl _
 | y::r,x=>by unfold nM;have:=Rx r y;split<;>simp<;>omega
theorem ZK {α:Type} [DecidableEq α] (L:List α):(eqs L).length<=L.length:=by
 cases L with
 | nil=>simp [eqs]
 | cons x t=>
   have:=Rx t x;rw [FR];simp;omega
theorem vu (x:bc):(dm x).length=3:=rfl
def Ry:List AV->bc
 | [.int _ e,.int _ n,.sl _ _ cl]=>⟨e,n,Aw cl⟩
 | _=>⟨0,0,[]⟩
theorem ZL (f:bc):Ry (dm f)=f:=by obtain ⟨e,n,cl⟩:=f;show bc.mk e n (Aw (ints cl))=_;rw [Rz]
def c78:aw:=⟨[0,1,2,3,4],[],[],[],[(1,[0,1,2,3,4,5,6,7,8,9,10,11,12,13,14,15,16,17],[])],[]⟩
def c80:aw:=⟨[0,1,2,3,4],[],[],[],[],[]⟩
def c79:aw:=⟨[0,1,4,5,6,7,10,15,28,35,49],[],[],[],[(6,[0,1,2,3,4,5,6,7,8,9,10],[]),(11,[0,1,2,3,4,5,6,7,8,9,10,11],[])],[]⟩
def c77:aw:=⟨[0,1,4],[],[],[],[],[]⟩
def c134:aw:=⟨[0,1,2,3,4,10,11,12,13,14,15,16,17,18,19,20,25,32,39,56,75,80,97,125],[],[],[],[(17,[0,1,2,3,4,5,6,7,8,9,10,11,12,13,14,15,16],[])],[]⟩
def c200:aw:=⟨[0,1,2,3,8,9,14,34],[],[],[],[(4,[0,1,2,3,4,5,6,7,8,9,10,11,12,13,14,15,16],[]),(6,[0,1,2,3,4,5,6,7,8,9,10,11,12,13,14,15,16,17],[])],[]⟩
def c38:aw:=⟨[0,1,2,4,5,6,8,16,18,19,20,21,28],[],[8],[],[],[]⟩
theorem RA (a b:bc) (ha:a.ah.length<=1048576) (hb:b.ah.length<=1048576):ae Tryz.prog 78 [.agg (dm a),.agg (dm b)] [] (.int .i64 (sM a b)):=by
 refine aG (F:=Tryz.f78) c78 rfl rfl rfl mixed rfl fun X=>?_;(conv=>whnf);repeat ((first|refine aX (zm _ _) ?_|refine aX (RB a.ah b.ah (by unfold aq;omega) (by unfold aq;omega)) ?_|refine aX (Bu [bN a.entry b.entry,bN a.ending b.ending,cu bN a.ah b.ah] (by simp [aq])) ?_|refine And.intro (by show aJ (aH Tryz.f78 _) _=true;decide +kernel) ?_);conv=>whnf)
 exact ⟨rfl,rfl⟩
theorem RC (a b:bc) (ha:a.ah.length<=1048576) (hb:b.ah.length<=1048576):ae Tryz.prog 80 [.agg (dm a),.agg (dm b)] [] (.bool (decide (a=b))):=by
 refine aG (F:=Tryz.f80) c80 rfl rfl rfl mixed rfl fun X=>?_;(conv=>whnf);repeat (refine ae.k0 (RA a b ha hb) ?_;conv=>whnf)
 refine ⟨congrArg AV.bool ?_,rfl⟩;rw [decide_eq_decide];exact zF.zero a b
theorem ZM:yF Tryz.prog 77 78 3:=
 Kw Tryz.YN 3 78 Tryz.isAgg38 Tryz.sizeOf38 (fun args w=>AX ⟨Tryz.f78,_,rfl,rfl,rfl⟩)
theorem ZN (c:FuncId):ae Tryz.prog 200 [.aW,.int .i64 0,.int .i64 0,.fn c []] [] (.aQ []):=by
 refine aG (F:=Tryz.f200) c200 rfl rfl rfl mixed rfl fun X=>?_;(conv=>whnf);repeat (refine ⟨af ⟨by omega,by omega⟩,?_⟩;conv=>whnf)
 refine bM rfl mixed [0,1,2,3,8] [] (fun m r h=>r=[(0,[],.aW),(1,[],.int .i64 0),(2,[],.int .i64 0),(3,[],.fn c []),(8,[],.int .i64 1)]/\h=[]/\m=0/\True) ?_ ?_
 ·(conv=>whnf);exact ⟨_,rfl,rfl,rfl,trivial⟩
 rintro m r h ⟨rfl,rfl,rfl,_⟩;(conv=>whnf);refine cF rfl ?_;(conv=>whnf);exact ⟨rfl,rfl⟩
theorem ZO (c:FuncId):ae Tryz.prog 134 [.aW,.int .i64 0,.int .i64 0,.int .i64 0,.fn c []] [] (.aQ []):=by
 refine aG (F:=Tryz.f134) c134 rfl rfl rfl mixed rfl fun X=>?_;(conv=>whnf);skip;refine bM rfl mixed [0,1,2,3,4,10,11] [] (fun m r h=>r=[(0,[],.aW),(1,[],.int .i64 0),(2,[],.int .i64 0),(3,[],.int .i64 0),(4,[],.fn c []),(10,[],.bool true),(11,[],.bool true)]/\h=[]/\m=0/\True) ?_ ?_
 ·(conv=>whnf);exact ⟨_,rfl,rfl,rfl,trivial⟩
 rintro m r h ⟨rfl,rfl,rfl,_⟩;(conv=>whnf);repeat (refine ⟨af ⟨by omega,by omega⟩,?_⟩;conv=>whnf)
 refine cT rfl ?_;(conv=>whnf);repeat (refine ae.k0 (ZN c) ?_;conv=>whnf)
 exact ⟨rfl,rfl⟩
theorem ZP (c:FuncId):ae Tryz.prog 77 [.fM,.fn c []] [] (.aQ []):=by
 refine ae.args (wJ:=[.aW,.fn c []]) ?_ (.cons (by intro c u h;simpa [aa] using h) (.cons (ag.refl _) .nil));refine aG (F:=Tryz.f77) c77 rfl rfl rfl mixed rfl fun X=>?_;(conv=>whnf);repeat ((first|refine ae.k0 (bitsLen) ?_|refine ae.k0 (ZO c) ?_);conv=>whnf)
 exact ⟨rfl,rfl⟩
theorem ZQ (b:Nat) (xs:List bc) (hx:∀ x∈xs,x.ah.length<=1048576) (aI:xs≠[]) (iS:xs.length<=4294967296) :
  ay Tryz.prog 77 [.aR b 0 xs.length 3,.fn 78 []] [(b,.vec (xs.map dm).flatten)] (fun v h'=>v=.aQ []/\h'=[(b,.vec ((ni sM xs).map dm).flatten)]):=
 KJ (by decide) ⟨Tryz.f77,_,rfl,rfl,rfl⟩ ⟨Tryz.f78,_,rfl,rfl,rfl⟩ ZM sM (dec:=Ry) ZL (fun a=>rfl) zF.c.w xs (fun x hx y hy h1 h2=>zF.c.uu _ _ h1 h2) aI iS (fun x h1 y h2=>RA x y (hx x h1) (hx y h2)) b
theorem ZR (b:Nat) (L:List bc) (aI:L≠[]) (hl:L.length<=1048576) (hx:∀ x∈L,x.ah.length<=1048576) :
  ay Tryz.prog 79 [.aR b 0 L.length 3,.fn 80 []] [(b,.vec (L.map dm).flatten)] (fun v h'=>∃ post:List AV,v=.aR b 0 (eqs L).length 3/\h'=[(b,.vec (((eqs L).map dm).flatten++post))]):=by
 have hn:0<L.length:=List.length_pos_iff.2 aI;refine aG (F:=Tryz.f79) c79 rfl rfl rfl mixed rfl fun X=>?_;(conv=>whnf);refine ⟨fun hs=>?_,fun hs=>?_⟩<;>simp only [decide_eq_true_eq,decide_eq_false_iff_not] at hs
 ·have h1:eqs L=L:=by
   cases L with
   | nil=>exact absurd rfl aI
   | cons x t=>
     cases t with
     | nil=>rfl
     | cons y r=>simp at hs;omega
  (conv=>whnf);skip;exact ⟨[],by rw [h1],by rw [h1,List.append_nil]⟩
 obtain ⟨x0,kF⟩:=aN (l:=L) (i:=0) hn;have jJ:eqs L=L.take 1++nM x0 (L.drop 1):=by have h2:=drop_cons kF;rw [List.drop_zero] at h2;rw [h2,FR];rfl
 (conv=>whnf);skip;refine bM rfl mixed [0,1,5] [] (fun m r h=>∃ (k:Nat) (p:bc),r=[(0,[],.aR b 0 L.length 3),(1,[],.fn 80 []),(5,[],.int .i64 k)]/\h=[(b,.vec (L.map dm).flatten)]/\m=L.length - k/\1<=k/\k<=L.length/\L[k - 1]?=some p/\eqs L=L.take k++nM p (L.drop k)) ?_ ?_
 ·(conv=>whnf);exact ⟨_,1,x0,rfl,rfl,rfl,by omega,by omega,kF,jJ⟩
 clear jJ;rintro m r h ⟨k,p,rfl,rfl,rfl,cL,bo,hp,hc⟩;(conv=>whnf);skip;refine ⟨fun aD=>?_,fun aD=>?_⟩<;>simp only [decide_eq_true_eq,decide_eq_false_iff_not] at aD
 ·obtain ⟨y,hy⟩:=aN (l:=L) (i:=k) (by omega);have hyp:=RC y p (hx y (List.mem_of_getElem? hy)) (hx p (List.mem_of_getElem? hp));rw [drop_cons hy,nM] at hc;(conv=>whnf);repeat ((first|refine ⟨af ⟨by omega,by omega⟩,?_⟩|(refine ⟨k,af ⟨by omega,by omega⟩,?_⟩)|(refine ⟨k - 1,af ⟨by omega,by omega⟩,?_⟩)|(refine ft vu (.head _) (Nat.zero_add _) hy ?_)|(refine ft vu (.head _) (Nat.zero_add _) hp ?_)|(refine ⟨_,af (hyp.wide _),?_⟩)|refine And.intro (by show aJ (aH Tryz.f79 _) _=true;decide +kernel) ?_);conv=>whnf)
  refine ⟨fun hq=>?_,fun hq=>?_⟩
  ·have hq:y=p:=of_decide_eq_true hq;rw [if_pos hq] at hc;(conv=>whnf);repeat (refine ⟨af ⟨by omega,by omega⟩,?_⟩;conv=>whnf)
   refine bM rfl mixed [0,1,5,6,7] [] (fun m r h=>∃ (k:Nat) (n:Nat) (A:List bc) (z:bc),r=[(0,[],.aR b 0 L.length 3),(1,[],.fn 80 []),(5,[],.int .i64 A.length),(6,[],.aR b (k*3) (L.length - k) 3),(7,[],.int .i64 n)]/\h=[(b,.vec ((A++L.drop A.length).map dm).flatten)]/\m=L.length - (k+n)/\1<=n/\k+n<=L.length/\A.length<k+n/\L[k+n - 1]?=some z/\eqs L=A++nM z (L.drop (k+n))) ?_ ?_
   ·(conv=>whnf);refine ⟨_,k,1,L.take k,y,?_,?_,rfl,by omega,by omega,by rw [List.length_take];omega,by rw [Nat.add_sub_cancel];exact hy,hc⟩
    ·rw [List.length_take,Nat.min_eq_left (by omega),show 0+((k:Nat):Int).toNat*3=k*3 by omega];rfl
    rw [List.length_take,Nat.min_eq_left (by omega),List.take_append_drop]
   clear hc hq hp hy hyp;rintro m r h ⟨k,n,A,z,rfl,rfl,rfl,jh,dx,hA,hz,hc⟩;have hR:∀ j,A.length<=j->(A++L.drop A.length)[j]?=L[j]?:=by intro j hj;rw [List.getElem?_append_right hj,List.getElem?_drop,show A.length+(j - A.length)=j by omega]
   have tn:(A++L.drop A.length).length=L.length:=by rw [List.length_append,List.length_drop];omega
   (conv=>whnf);skip;refine ⟨fun cI=>?_,fun cI=>?_⟩<;>simp only [decide_eq_true_eq,decide_eq_false_iff_not] at cI
   ·obtain ⟨y,hy⟩:=aN (l:=L) (i:=k+n) (by omega);have yI:=(hR (k+n) (by omega)).trans hy;have eX:=(hR (k+n - 1) (by omega)).trans hz;have ZS:=RC y z (hx y (List.mem_of_getElem? hy)) (hx z (List.mem_of_getElem? hz));rw [drop_cons hy,nM] at hc;(conv=>whnf);repeat ((first|refine ⟨af ⟨by omega,by omega⟩,?_⟩|(refine ⟨n,af ⟨by omega,by omega⟩,?_⟩)|(refine ⟨n - 1,af ⟨by omega,by omega⟩,?_⟩)|(refine ft vu (.head _) (by omega) yI ?_)|(refine ft vu (.head _) (by omega) eX ?_)|(refine ⟨_,af (ZS.wide _),?_⟩)|refine And.intro (by show aJ (aH Tryz.f79 _) _=true;decide +kernel) ?_);conv=>whnf)
    refine ⟨fun hq=>?_,fun hq=>?_⟩
    ·have hq:(!decide (y=z))=true:=hq;rw [Bool.not_eq_true',decide_eq_false_iff_not] at hq;rw [if_neg hq] at hc;have iA:(A++L.drop A.length).set A.length y=(A++[y])++L.drop (A++[y]).length:=by obtain ⟨w,hw⟩:=aN (l:=L) (i:=A.length) (by omega);rw [drop_cons hw,List.set_append_right _ _ (Nat.le_refl _),Nat.sub_self,List.set_cons_zero,List.length_append,List.append_assoc];rfl
     (conv=>whnf);repeat ((first|refine ⟨af ⟨by omega,by omega⟩,?_⟩|(refine ⟨n,af ⟨by omega,by omega⟩,?_⟩)|(refine ⟨A.length,af ⟨by omega,by omega⟩,?_⟩)|(refine ft vu (.head _) (by omega) yI ?_)|(refine rM y (by decide) vu (i:=A.length) (by omega) (Nat.zero_add _) rfl (.here _) ?_));conv=>whnf)
     rw [iA];refine ⟨_,by omega,k,n+1,A++[y],y,?_,rfl,rfl,by omega,by omega,by simp;omega,by rw [show k+(n+1) - 1=k+n by omega];exact hy,?_⟩
     ·rw [List.length_append];first|rfl|(simp;done)
     rw [hc,List.append_assoc,show k+(n+1)=k+n+1 by omega];rfl
    have hq:(!decide (y=z))=false:=hq;rw [Bool.not_eq_false',decide_eq_true_eq] at hq;rw [if_pos hq] at hc;(conv=>whnf);repeat (refine ⟨af ⟨by omega,by omega⟩,?_⟩;conv=>whnf)
    exact ⟨_,by omega,k,n+1,A,y,rfl,rfl,rfl,by omega,by omega,by omega,by rw [show k+(n+1) - 1=k+n by omega];exact hy,by rw [hc,show k+(n+1)=k+n+1 by omega]⟩
   have DT:k+n=L.length:=(by omega);rw [DT,List.drop_length,nM,List.append_nil] at hc;have eO:=mz vu (A++L.drop A.length);have RD:=By vu (A++L.drop A.length) A.length;rw [List.take_left] at RD;(conv=>whnf);repeat ((first|refine ⟨af ⟨by omega,by omega⟩,?_⟩|(refine ⟨_,_,.here _,⟨by omega,by rw [eO,tn];omega⟩,?_⟩));conv=>whnf)
   refine ⟨?post,?e1,?e2⟩
   case e1=>rw [hc];rfl
   case e2=>
    rw [hc];unfold cY;rw [show 0+((A.length:Nat):Int).toNat*3=A.length*3 by omega,RD,List.append_assoc]
  have hq:¬ y=p:=of_decide_eq_false hq;rw [if_neg hq] at hc;(conv=>whnf);repeat (refine ⟨af ⟨by omega,by omega⟩,?_⟩;conv=>whnf)
  refine ⟨_,by omega,k+1,y,rfl,rfl,rfl,by omega,by omega,by rw [Nat.add_sub_cancel];exact hy,?_⟩;rw [hc,dg hy,List.append_assoc];rfl
 have KK:k=L.length:=by have:¬ (k:Int)<(L.length:Int):=aD;omega
 subst KK;rw [List.take_length,List.drop_length,nM,List.append_nil] at hc;(conv=>whnf);skip;exact ⟨[],by rw [hc],by rw [hc,List.append_nil]⟩
theorem ZT (b:Nat) (L:List bc) (aI:L≠[]) (hl:L.length<=1048576) (hx:∀ x∈L,x.ah.length<=1048576) :
  ay Tryz.prog 79 [.aR b 0 L.length 3,.fn 80 []] [(b,.vec (L.map dm).flatten)] (fun v h'=>v=.sl 3 none ((eqs L).map dm)/\h'=[]):=by
 refine ay.xk (ZR b L aI hl hx) ?_;rintro v h1 ⟨post,rfl,rfl⟩;exact ⟨b,_,[],[],_,.here _,.nil,iW.row (pre:=[]) (post:=[post]) (wC:=[]) (by simp) rfl (by simp) (by intro x hx;obtain ⟨a,_,rfl⟩:=List.mem_map.1 hx;rfl),rfl,rfl⟩
theorem ZU:ay Tryz.prog 79 [.fM,.fn 80 []] [] (fun v h'=>v=.sl 3 none []/\h'=[]):=by refine ae.of (v:=.sl 3 none []) ?_;refine aG (F:=Tryz.f79) c79 rfl rfl rfl mixed rfl fun X=>?_;(conv=>whnf);refine cT rfl ?_;(conv=>whnf);skip;exact RE (by decide)
end Go.Abs.Wall.Spl
namespace Go.Abs.Wall.Spl
open Go Go.Abs Go.Proofs Go.Abs.Wall
def vw (line:List Int) (x:az):Bool:=decide (x.to=line.length)
def jQ (line:List Int) (E:List az):List bc:=(E.filter (vw line)).map (·.word.form)
def qA (H:ax) (line:List Int):List bc:=if jA H line 0=0 then eqs (jQ line (cD H line 0)) else []
theorem Df {H:ax} {line:List Int} (h:jA H line 0=0):qR H line/\gN H.lex=0/\(cD H line 0).length<=2000:=by
 unfold jA at h;split at h
 ·rename_i h1;exact absurd h h1
 rename_i h1;have h1:eb H line=0:=(by simpa using h1);split at h
 ·cases h
 split at h
 ·cases h
 rename_i h3;exact ⟨qS h1,Lst.wu h1,Nat.not_lt.1 h3⟩
theorem ZV {H:ax} {line:List Int} (h:jA H line 0=0):(jQ line (cD H line 0)).Pairwise fun a b=>¬ sM b a<0:=by
 obtain ⟨hL,hle,_⟩:=Df h;unfold jQ;rw [List.pairwise_map];have h1:=(Lst.NK hL 0).filter (vw line);rw [List.pairwise_iff_forall_sublist] at h1 ⊢;intro a b hs;have h2:=h1 hs;have hlen:∀ x:az,x∈(cD H line 0).filter (vw line)->(x.word.aj.length:Int)=line.length:=by intro x hx;obtain ⟨pW,ee⟩:=List.mem_filter.1 hx;unfold vw at ee;rw [decide_eq_true_eq] at ee;have:=congrArg az.to ((yb hL hle (Nat.zero_le _)).1 pW).2;have:x.to=((0:Nat):Int)+x.word.aj.length:=this;omega
 have ha:=hlen a (hs.subset (by simp));have hb:=hlen b (hs.subset (by simp));obtain ⟨h3,_⟩:=RF a.word b.word (by omega);have h4:=ZJ a.word.form b.word.form;have h5:=zF.qd a.word.form b.word.form;have h6:=zF.qd b.word.form a.word.form;intro hc;by_cases e:oE a.word.form b.word.form=0
 ·have:=h4.2.2 e;omega
 have:=h4.1.2 ((h3 e).2 h2);omega
theorem ZW {H:ax} {line:List Int} (h:jA H line 0=0):ni sM (jQ line (cD H line 0))=jQ line (cD H line 0):=
 (zF.c.w.unique (fun x _ y _ h1 h2=>zF.c.uu _ _ h1 h2) (List.Perm.refl _) (ZV h)).symm
theorem ZX {line:List Int} {E:List az} {k:Nat} {x:az} (h:E[k]?=some x):jQ line (E.take (k+1))=jQ line (E.take k)++(if vw line x=true then [x.word.form] else []):=by
 unfold jQ;rw [dg h,List.filter_append,List.map_append];congr 1;by_cases e:vw line x=true
 ·rw [List.filter_cons_of_pos e,if_pos e];rfl
 rw [List.filter_cons_of_neg e,if_neg e];rfl
theorem RG {H:ax} {line:List Int} (h:jA H line 0=0):∀ x∈cD H line 0,FT x.word.form/\Wall.od x.word:=by obtain ⟨hL,hle,_⟩:=Df h;intro x hx;have hg:=Lst.II hL hle (Nat.zero_le _) hx;exact ⟨hg.small.form,hg.fit⟩
theorem RH (H:ax) (line:List Int) (hf:eP H) (hl:line.length<=1048576) :
  ae Tryz.prog 38 [.agg (bJ H),.sl 1 none (ints line)] [] (.aQ [.sl 3 none ((qA H line).map dm),.int .i64 (jA H line 0)]):=by
 refine ae.of ?_;refine aG (F:=Tryz.f38) c38 rfl rfl rfl mixed rfl fun X=>?_;(conv=>whnf);repeat (refine ae.k0 (TW H line 0 hf hl) ?_;conv=>whnf)
 refine ⟨fun h0=>?_,fun h0=>?_⟩<;>simp at h0
 ·unfold qA;rw [if_neg h0];(conv=>whnf);skip;exact ag.aQ (.cons (ag.nil (by decide)) (.cons (ag.refl _) .nil))
 have hE:xJ H line 0=cD H line 0:=by unfold xJ;rw [if_pos h0];rfl
 have pj:=ZW h0;obtain ⟨_,_,V6⟩:=Df h0;have gi:=RG h0;have hM:qA H line=eqs (jQ line (cD H line 0)):=by unfold qA;rw [if_pos h0]
 rw [hM,hE,h0];generalize cD H line 0=E at *;(conv=>whnf);skip;refine cy rfl mixed [1,4,18,19,20] [] (fun m r h=>∃ (k:Nat) (lv:AV) (lh:ab),r=[(1,[],.sl 1 none (ints line)),(4,[],lv),(18,[],.sl 7 none (E.map cx)),(19,[],.int .i64 (E.map cx).length),(20,[],.int .i64 k)]/\h=lh/\m=E.length - k/\k<=E.length/\Row 3 dm (jQ line (E.take k)) lv lh) ?_ ?_
 ·(conv=>whnf);exact ⟨_,_,ar.qP (.cons (ag.refl _) (.cons xC (je.refl _))),_,0,.fM,[],rfl,rfl,rfl,by omega,.inl ⟨rfl,rfl,rfl⟩⟩
 rintro m r h' ⟨k,lv,lh,rfl,rfl,rfl,hk,lW⟩;have ZY:(jQ line (E.take k)).length<=k:=by unfold jQ;rw [List.length_map];exact Nat.le_trans (List.length_filter_le _ _) (by rw [List.length_take];omega)
 (conv=>whnf);refine ⟨fun bo=>?_,fun bo=>?_⟩<;>simp at bo
 ·obtain ⟨x,hx⟩:=aN bo;have aA:=ZX (line:=line) hx;(conv=>whnf);repeat ((first|refine ix (by assumption) ?_|(intro (b9:Nat))|refine ⟨_,_,aK.here _,⟨Nat.le_of_ble_eq_true rfl,rfl⟩,?_⟩);conv=>whnf)
  refine ⟨fun he=>?_,fun he=>?_⟩<;>simp only [decide_eq_true_eq,decide_eq_false_iff_not,dB] at he
  ·have KL:vw line x=true:=decide_eq_true he;rw [if_pos KL] at aA;rcases lW with ⟨nD,rfl,rfl⟩|⟨aI,lb,rfl,rfl⟩
   ·(conv=>whnf);repeat ((first|refine ⟨af ⟨by omega,by omega⟩,?_⟩|(refine ⟨⟨Nat.le_of_ble_eq_true rfl,Nat.le_of_ble_eq_true rfl⟩,fun b'=>?_⟩));conv=>whnf)
    refine ⟨_,_,ar.refl _ _,_,by omega,k+1,_,[(b',_)],rfl,rfl,rfl,by omega,.inr ⟨by rw [aA];simp,b',?_,?_⟩⟩
    ·rw [aA,nD];rfl
    rw [aA,nD];rfl
   (conv=>whnf);repeat ((first|refine ⟨af ⟨by omega,by omega⟩,?_⟩|(refine ⟨_,.head _,⟨rL vu,by unfold aV;simp;omega⟩,fun b'=>⟨_,.here _,?_⟩⟩));conv=>whnf)
   refine ⟨_,_,ar.refl _ _,_,by omega,k+1,_,[(b',_)],rfl,rfl,rfl,by omega,.inr ⟨by rw [aA];simp,b',?_,?_⟩⟩
   ·rw [aA,List.length_append];rfl
   rw [aA,List.map_append,List.flatten_append];rfl
  have KL:vw line x=false:=decide_eq_false he;rw [if_neg (by rw [KL];decide),List.append_nil] at aA;(conv=>whnf);repeat (refine ⟨af ⟨by omega,by omega⟩,?_⟩;conv=>whnf)
  exact ⟨_,_,ar.refl _ _,_,by omega,k+1,lv,h',rfl,rfl,rfl,by omega,by rw [aA];exact lW⟩
 rw [List.take_of_length_le bo] at lW;have tm:(jQ line E).length<=2000:=by rw [List.take_of_length_le bo] at ZY;omega
 have kg:∀ x∈jQ line E,x.ah.length<=1048576:=by intro y hy;unfold jQ at hy;obtain ⟨x,hx,rfl⟩:=List.mem_map.1 hy;exact (gi x (List.mem_filter.1 hx).1).2.cl
 rcases lW with ⟨nD,rfl,rfl⟩|⟨aI,lb,rfl,rfl⟩
 ·rw [nD];(conv=>whnf);refine ae.k0 (ZP _) ?_;(conv=>whnf);refine ay.mono ?_ ZU;rintro v h1 ⟨rfl,rfl⟩;(conv=>whnf);skip;exact ag.refl _
 have FU:=ZQ lb (jQ line E) kg aI (by omega);rw [pj] at FU;have BS:=ZT lb (jQ line E) aI (by omega) kg;(conv=>whnf);refine ay.mono ?_ FU;rintro v h1 ⟨rfl,rfl⟩;(conv=>whnf);refine ay.mono ?_ BS;rintro v h1 ⟨rfl,rfl⟩;(conv=>whnf);skip;exact ag.refl _
theorem ZZ {H:ax} {line:List Int}:∀ f∈qA H line,f.ah.length<=1048576:=by
 intro f hf;unfold qA at hf;split at hf
 ·rename_i h0;rw [Rw] at hf;unfold jQ at hf;obtain ⟨x,hx,rfl⟩:=List.mem_map.1 hf;exact (RG h0 x (List.mem_filter.1 hx).1).2.cl
 cases hf
theorem b8 {H:ax} {line:List Int}:(qA H line).length<=2000:=by
 unfold qA;split
 ·rename_i h0;have h1:=ZK (jQ line (cD H line 0));have h2:=(Df h0).2.2;have h3:(jQ line (cD H line 0)).length<=(cD H line 0).length:=by unfold jQ;rw [List.length_map];exact List.length_filter_le _ _
  omega
 simp
end Go.Abs.Wall.Spl
