/- What is proved: small laws for the walks of this seat, and contracts of its functions. No condition but those each theorem names. -/
import Derived.Test.YtbmcnieifibckaaGreatN6
set_option maxRecDepth 100000
set_option maxHeartbeats 2000000
set_option linter.unusedVariables false
set_option linter.unusedSimpArgs false
namespace Go.Abs.Wall
open Go Go.Abs Go.Proofs
theorem wrap64 {n:Int} (h0:0<=n) (h1:n<4294967296):IntKind.u64.wrap n=n:=by simp [IntKind.wrap,IntKind.signed,IntKind.bits];omega
def c160:az:=⟨[0,1,4,5,6,7,8,9],[],[],[],[],[]⟩
def c226:az:=⟨[0,1,4,5,6,7,8,9,10,11,12,13],[],[],[],[],[]⟩
def c96:az:=⟨[0,1,4,5,6,7,8,10,26,37],[],[],[],[(9,[0,1,2,3,4,5,6,7,8,9],[])],[]⟩
theorem N9 (n:Int) (h0:0<=n) (h1:n<=1048577):ae Tryz.prog 226 [.int .u64 1,.int .u64 n] [] (.aH [.int .u64 0,.int .u64 n]):=by
 have w1:IntKind.u64.wrap (1*n)=n:=by rw [Int.one_mul];exact wrap64 h0 (by omega)
 have w2:IntKind.u64.wrap (0*n)=0:=by rw [Int.zero_mul];exact wrap64 (by omega) (by omega)
 have w3:IntKind.u64.wrap (1*0)=0:=wrap64 (by omega) (by omega);have w4:IntKind.u64.wrap (0*0)=0:=wrap64 (by omega) (by omega);have w5:IntKind.u64.wrap (0+0)=0:=wrap64 (by omega) (by omega);refine aG (F:=Tryz.f226) c226 rfl rfl rfl mixed rfl fun X=>?_;(conv=>whnf);repeat ((refine ⟨ah ⟨⟨rfl,rfl⟩,⟨by first|omega|(rw [w1];omega)|(rw [w2,w5];omega)|(rw [w2,w5,w3,w5];omega),by first|omega|(rw [w1];omega)|(rw [w2,w5];omega)|(rw [w2,w5,w3,w5];omega)⟩,rfl⟩,?_⟩);conv=>whnf)
 refine ⟨?_,rfl⟩;rw [w1,w4,w5,w5]
theorem O0 (n:Int) (h0:0<=n) (h1:n<=1048577):ae Tryz.prog 160 [.int .u64 1,.int .u64 n] [] (.aH [.int .u64 0,.int .u64 n]):=by
 refine aG (F:=Tryz.f160) c160 rfl rfl rfl mixed rfl fun X=>?_;(conv=>whnf);refine cF rfl ?_;(conv=>whnf);repeat (refine ae.k0 (N9 n h0 h1) ?_;conv=>whnf)
 exact ⟨rfl,rfl⟩
def mK (n m:Nat) (v:Int):List AV:=List.replicate m (.int .i64 v)++List.replicate (n - m) (.int .i64 0)
theorem Ux {n m:Nat} {v:Int} (h:m<=n):(mK n m v).length=n:=by unfold mK;simp;omega
theorem Uy {n m c:Nat} {v:Int} (h:m+c<=n):dt (mK n m v) m (List.replicate c (.int .i64 v))=mK n (m+c) v:=by
 unfold dt mK;rw [List.take_append_of_le_length (by simp),List.take_of_length_le (by simp),List.length_replicate,List.drop_append,List.drop_eq_nil_of_le (by simp),List.nil_append,List.length_replicate,List.drop_replicate];congr 1
 ·rw [List.replicate_append_replicate]
 congr 1;omega
theorem O1 {n:Nat} {v:Int}:mK n n v=List.replicate n (.int .i64 v):=by unfold mK;simp
theorem Sa (v:Int) (n:Nat) (h1:1<=n) (h2:n<=1048577):aB Tryz.prog 96 [.sl 1 none [[.int .i64 v]],.int .i64 n] [] (fun w h'=>∃ b,w=.aQ b 0 n 1/\h'=[(b,.vec (List.replicate n (.int .i64 v)))]):=by
 refine aG (F:=Tryz.f96) c96 rfl rfl rfl mixed rfl fun X=>?_;(conv=>whnf);refine ⟨fun h=>absurd (of_decide_eq_true h) (by omega),fun h=>?_⟩;(conv=>whnf);skip;rw [show IntKind.u64.wrap ((([[AV.int .i64 v]]:List (List AV)).length:Nat):Int)=1 from wrap64 (by simp) (by simp),show IntKind.u64.wrap (n:Int)=n from wrap64 (by omega) (by omega)];refine ae.k0 (O0 n (by omega) (by omega)) ?_;(conv=>whnf);refine cF (by simp;omega) ?_;(conv=>whnf);repeat ((first|refine ⟨ah ⟨by omega,by omega⟩,?_⟩|(refine ⟨⟨by omega,by omega,by omega⟩,fun b=>?_⟩));conv=>whnf)
 rw [show gM (n:Int).toNat [AV.int .i64 0]=mK n 0 v by rw [show (n:Int).toNat=n from rfl,Ly];simp [mK],show (n:Int).toNat=n from rfl];refine ⟨_,_,.here _,⟨by simp,by simp;omega,by rw [Ux (by omega)];simp;omega⟩,?_⟩;rw [show dt (mK n 0 v) 0 [[AV.int .i64 v]].flatten=mK n 1 v from Uy (m:=0) (c:=1) (by omega)];(conv=>whnf);skip;refine bR rfl mixed [7,8] [] (fun m r h=>∃ (q:Nat),r=[(7,[],.aQ b 0 n 1),(8,[],.int .i64 q)]/\h=[(b,.vec (mK n q v))]/\m=n - q/\1<=q/\q<=n) ?_ ?_
 ·(conv=>whnf);exact ⟨_,1,rfl,rfl,rfl,by omega,by omega⟩
 rintro x r h' ⟨q,rfl,rfl,rfl,Pc,hm2⟩;(conv=>whnf);refine ⟨fun hf=>?_,fun hf=>?_⟩<;>simp at hf
 ·(conv=>whnf);repeat ((first|refine ⟨ah ⟨by omega,by omega⟩,?_⟩|refine And.intro (by show aP (aN Tryz.f96 _) _=true;decide +kernel) ?_);conv=>whnf)
  obtain ⟨c,hc⟩:∃ c,c=min q (n - q):=⟨_,rfl⟩;have hm:min ((q:Int).toNat - Int.toNat 0) ((n:Int).toNat - (q:Int).toNat)=c:=by rw [hc];show min (q - 0) (n - q)=_;rw [Nat.sub_zero]
  have dP:(List.replicate c [AV.int .i64 v]).flatten=List.replicate c (.int .i64 v):=(by simp);rw [hm];refine ⟨mK n q v,List.replicate c [.int .i64 v],.head _,⟨?_,by intro z hz;rw [List.mem_replicate] at hz;rw [hz.2];rfl,by simp⟩,mK n q v,_,.here _,⟨by omega,?_⟩,?_⟩
  ·rw [dP];show List.take (c*1) (List.drop 0 (mK n q v))=_;rw [List.drop_zero,Nat.mul_one];unfold mK;rw [List.take_append_of_le_length (by simp;omega),List.take_replicate];congr 1;omega
  ·rw [dP,Ux (by omega)];show 0+q*1+_<=n;simp;omega
  rw [dP,show dt (mK n q v) (0+(q:Int).toNat*1) (List.replicate c (.int .i64 v))=mK n (q+c) v by rw [show 0+(q:Int).toNat*1=q by omega];exact Uy (by omega)];(conv=>whnf);repeat (refine ⟨ah ⟨by omega,by omega⟩,?_⟩;conv=>whnf)
  exact ⟨_,by omega,q+c,rfl,rfl,rfl,by omega,by omega⟩
 have:n=q:=(by omega);subst this;(conv=>whnf);exact ⟨b,rfl,by rw [O1]⟩
end Go.Abs.Wall
namespace Go.Abs.Wall
open Go Go.Abs Go.Proofs
def dE (H:aj) (line:List Int) (at_:Nat):List av:=kE (lE H (mR H line at_) at_)
def bX (H:aj) (line:List Int):List (List av):=(List.range line.length).map (dE H line)
def eH (g:List (List av)):Nat:=(g.map List.length).sum
def df (H:aj) (line:List Int):Int:=if dX H line≠0 then dX H line else if 2000<eH (bX H line) then 2 else 0
def sO (q cur cost:Int):Int:=if (!decide (q = -1)&&(decide (cur = -1)||decide (cost+q<cur)))=true then cost+q else cur
def jU (t:List Int) (r:Int) (x:av):Int:=sO (t.getD (x.word.ai.length - 1) 0) r x.cost
def dQ:List (List av)->List Int
 | []=>[0]
 | es::g=>es.foldl (jU (dQ g)) (-1)::dQ g
def ez (g:List (List av)) (i:Nat):Int:=(dQ (g.drop i)).headD 0
theorem Uz:∀ g,(dQ g).length=g.length+1
 | []=>rfl
 | es::g=>by simp [dQ,Uz g]
theorem yB:∀ (g:List (List av)) (i:Nat),i<=g.length->(dQ g)[i]?=some (ez g i)
 | [],i,h=>by have:i=0:=(by simpa using h);subst this;rfl
 | es::g,0,_=>by simp [dQ,ez]
 | es::g,i+1,h=>by have:=yB g i (by simpa using h);simp only [dQ,List.getElem?_cons_succ];rw [this];rfl
theorem Jk (g:List (List av)) (a i:Nat):ez (g.drop a) i=ez g (a+i):=by unfold ez;rw [List.drop_drop]
theorem Jm (g:List (List av)):ez g g.length=0:=by unfold ez;rw [List.drop_length];rfl
theorem O2 (g:List (List av)):dQ g=(List.range (g.length+1)).map (ez g):=by
 refine List.ext_getElem? fun i=>?_;by_cases h:i<=g.length
 ·rw [yB g i h,List.getElem?_map,List.getElem?_range (by omega)];rfl
 rw [List.getElem?_eq_none (by rw [Uz];omega),List.getElem?_eq_none (by simp;omega)]
theorem O3 {q cur cost B:Int} (h1:-1<=q) (h2:q<=B) (h3:-1<=cur) (h4:cur<=B+18000) (h5:0<=cost) (h6:cost<=18000):-1<=sO q cur cost/\sO q cur cost<=B+18000:=by
 unfold sO;split
 ·omega
 omega
theorem UA {t:List Int} {B:Int} (hB:0<=B) (ht:∀ v∈t,-1<=v/\v<=B):∀ (es:List av) (r:Int),-1<=r->r<=B+18000->(∀ x∈es,0<=x.cost/\x.cost<=18000)->-1<=es.foldl (jU t) r/\es.foldl (jU t) r<=B+18000
 | [],r,h1,h2,_=>⟨h1,h2⟩
 | x::es,r,h1,h2,hx=>by
   have hq:-1<=t.getD (x.word.ai.length - 1) 0/\t.getD (x.word.ai.length - 1) 0<=B:=by
    by_cases h:x.word.ai.length - 1<t.length
    ·have:=ht _ (List.getElem_mem h);simp [List.getD,List.getElem?_eq_getElem h];exact this
    simp [List.getD,List.getElem?_eq_none (Nat.le_of_not_lt h)];omega
   have hc:=hx x (by simp);obtain ⟨h3,h4⟩:=O3 hq.1 hq.2 h1 h2 hc.1 hc.2;exact UA hB ht es _ h3 h4 fun y hy=>hx y (by simp [hy])
theorem IT:∀ (g:List (List av)),(∀ es∈g,∀ x∈es,0<=x.cost/\x.cost<=18000)->∀ v∈dQ g,-1<=v/\v<=18000*(g.length:Int)
 | [],_,v,hv=>by simp [dQ] at hv;subst hv;simp
 | es::g,h,v,hv=>by
   have ih:=IT g fun e he=>h e (by simp [he]);simp only [dQ,List.mem_cons] at hv;rcases hv with rfl|hv
   ·have:=UA (B:=18000*(g.length:Int)) (by omega) ih es (-1) (by omega) (by omega) (h es (by simp));simp only [List.length_cons];omega
   have:=ih v hv;simp only [List.length_cons];omega
theorem UB {E:Env}:∀ (rest:List (List ay)) (p:bn) (T:List ay),∀ e∈fj E rest p T,e.word.ai.length<=T.length+rest.length
 | [],_,_,e,he=>by cases he
 | us::r,p,T,e,he=>by
   unfold fj at he;rw [List.mem_flatMap] at he;obtain ⟨u,Fq,he⟩:=he;rw [List.mem_flatMap] at he;obtain ⟨q,hq,he⟩:=he;rw [List.length_cons];rcases List.mem_append.1 he with he|he
   ·unfold jO at he;split at he
    ·cases List.mem_singleton.1 he
     show (T++[u]).length<=_;rw [List.length_append,List.length_singleton];omega
    cases he
   have:=UB r q (T++[u]) e he;rw [List.length_append,List.length_singleton] at this;omega
theorem FF {H:aj} (hH:jg H) {line:List Int} (hl:∀ s∈line,0<=s/\s<H.list.aA.length) {at_:Nat} (cM:at_<=line.length):∀ x∈dE H line at_,wG H at_ x/\at_+x.word.ai.length<=line.length/\0<=x.cost/\x.cost<=18000:=by
 intro x hx;unfold dE kE at hx;rw [JM] at hx;obtain ⟨vd,ve⟩:=Uw hH (line:=line) (at_:=at_) hl;have h1:=Fs hH vd ve x hx;have h2:=FA hH (w:=x.word);have h3:=h1.bB;refine ⟨h1,?_,by rw [h1.cost];omega,by rw [h1.cost];omega⟩;unfold lE at hx;rw [List.mem_flatMap] at hx;obtain ⟨i,hi,hx⟩:=hx;unfold mm at hx;rw [List.mem_flatMap] at hx;obtain ⟨k,hk,hx⟩:=hx;unfold gB at hx;split at hx
 ·cases hx
 unfold cS at hx;rw [Am,List.nil_append] at hx;have:=UB _ _ _ x hx;unfold mR at this;simp at this;omega
theorem FE {g:List (List av)} {l:List av}:eH (g++[l])=eH g+l.length:=by unfold eH;simp
theorem FD {g:List (List av)} (i:Nat):eH (g.take i)<=eH g:=by
 have h1:eH (g.take i++g.drop i)=eH (g.take i)+eH (g.drop i):=by unfold eH;rw [List.map_append,List.sum_append]
 rw [List.take_append_drop] at h1;omega
theorem NZ {H:aj} {line:List Int} {at_ most:Nat} (h:(dE H line at_).length<=most):wq H line at_ most=dE H line at_:=by unfold dE kE at h;rw [sG] at h;unfold wq dE;rw [List.take_of_length_le (by omega)]
theorem Oa {H:aj} {line:List Int} {at_ most:Nat} (h:most<(dE H line at_).length):(wq H line at_ most).length=most+1:=by unfold dE kE at h;rw [sG] at h;unfold wq kE;rw [sG,List.length_take];omega
def pA (es:List av):List AV:=[.sl 7 none (es.map cz)]
theorem ag.au {xs ys:List AV} (h:cW xs ys):ag (.au xs) (.au ys):=by intro c u hu;simp only [aa] at hu ⊢;obtain ⟨b,o,hv,hr⟩:=hu;exact ⟨b,o,hv,h.Lz hr⟩
structure rF (H:aj) (line:List Int):Prop where
 ia:jg H
 bB:line.length<=60
 aA:∀ s∈line,0<=s/\s<H.list.aA.length
theorem mS {H:aj} {line:List Int} (h:dX H line=0):rF H line:=by
 unfold dX at h;split at h
 ·rename_i h1;exact absurd h h1
 rename_i h1;split at h
 ·cases h
 split at h
 ·cases h
 rename_i h2 h3;rw [Bool.not_eq_true,List.any_eq_false] at h3;refine ⟨vR (by omega),by omega,fun s hs=>?_⟩;have:=h3 s hs;rw [Bool.not_eq_true,Bool.not_eq_false',dY] at this;omega
end Go.Abs.Wall
namespace Go.Abs.Wall
open Go Go.Abs Go.Proofs
theorem O4 {a b:Nat} {x x' y y':List AV} {z:af} (hx:x=x') (hy:y=y'):(a,Ob.vec x)::(b,Ob.vec y)::z=(a,Ob.vec x')::(b,Ob.vec y')::z:=by subst hx;subst hy;rfl
def oz (G:List (List av)) (a:Nat) (j:Nat):AV:=.int .i64 (if a<=j then ez G j else -1)
def c146:az:=⟨[0,1,2,4,5,6,7,8,9,10,11,13,14,19,29,30,31,44,67,76,77,78,79,115],[27],[13],[],[(22,[0,1,2,3,4,5,6,7,8],[]),(23,[0,1,2,3,4,5,6,7,8,9,10,11,12,13,14,15,16,17,18,19,20,21,22,23,24,25],[]),(24,[0,1,2,3,4,5,6,7,8,9,10],[])],[]⟩
set_option maxHeartbeats 2000000 in
theorem O5 (H:aj) (line:List Int) (iJ:dU H) (hlen:line.length<=1048576) :
  aB Tryz.prog 146 [.agg (bu H),.sl 1 none (ints line)] [] (fun v h'=>(df H line≠0/\v=.aH [.kA,.int .i64 (df H line)])\/(df H line=0/\∃ fb rb ev hp,v=.aH [.bj fb 0,.int .i64 0]/\Out 1 pA (bX H line) ev hp/\h'=(fb,.vec [ev,.aQ rb 0 (line.length+1) 1])::(rb,.vec (ep (line.length+1) (oz (bX H line) 0)))::hp)):=by
 have sU:line.length<=aw:=by unfold aw;omega
 refine aG (F:=Tryz.f146) c146 rfl rfl rfl mixed rfl fun X=>?_;(conv=>whnf);repeat (refine ae.k0 (Fy H line iJ sU) ?_;conv=>whnf)
 refine ⟨fun hc=>?_,fun hc=>?_⟩<;>simp at hc
 ·have hg:df H line=dX H line:=(by rw [df,if_pos hc]);(conv=>whnf);exact .inl ⟨by rw [hg];exact hc,by rw [hg]⟩
 have hL:=mS hc;have hH:=hL.ia;have dw:=hL.bB;have hg:df H line=if 2000<eH (bX H line) then 2 else 0:=(by rw [df,if_neg (by omega)]);obtain ⟨G,hG⟩:∃ G,G=bX H line:=⟨_,rfl⟩;have FG:G.length=line.length:=by rw [hG];simp [bX]
 have Cq:∀ i,i<line.length->G[i]?=some (dE H line i):=fun i hi=>by rw [hG,bX,List.getElem?_map,List.getElem?_range hi];rfl
 rw [<- hG] at hg ⊢;(conv=>whnf);repeat ((refine ⟨ah ⟨by rw [cg];omega,by rw [cg];omega⟩,?_⟩);conv=>whnf)
 rw [cg,show ((line.length:Nat):Int)+1=((line.length+1:Nat):Int) from rfl];refine aB.mono ?_ (Sa (-1) (line.length+1) (by omega) (by omega));rintro w h1 ⟨rb,rfl,rfl⟩;(conv=>whnf);intro fb;(conv=>whnf);skip;refine bW rfl mixed [1,2,7,8,29,30] [] (fun m r h=>∃ (i:Nat) (ev:AV) (hp:af),r=[(1,[],.sl 1 none (ints line)),(2,[],.au (bu H)),(7,[],.bj fb 0),(8,[],.int .i64 (eH (G.take i):Nat)),(29,[],.int .i64 (ints line).length),(30,[],.int .i64 i)]/\h=(fb,.vec [ev,.aQ rb 0 (line.length+1) 1])::(rb,.vec (List.replicate (line.length+1) (.int .i64 (-1))))::hp/\m=line.length - i/\i<=line.length/\eH (G.take i)<=2000/\Out 1 pA (G.take i) ev hp) ?_ ?_
 ·(conv=>whnf);exact ⟨_,_,ao.refl _ _,_,0,_,[],by simp [eH],rfl,rfl,by omega,by simp [eH],.inl ⟨by simp,rfl,rfl⟩⟩
 rintro m r h' ⟨i,ev,hp,rfl,rfl,rfl,hi,wL,ho⟩;(conv=>whnf);refine ⟨fun aD=>?_,fun aD=>?_⟩<;>simp at aD
 ·have IS:=Cq i aD;have cj:=dj IS;have dG:eH (G.take (i+1))=eH (G.take i)+(dE H line i).length:=(by rw [cj,FE]);have aF:=FD (g:=G) (i+1);(conv=>whnf);repeat (refine ⟨ah ⟨by omega,by omega⟩,?_⟩;conv=>whnf)
  rw [show (2000:Int) - ((eH (G.take i):Nat):Int)=((2000 - eH (G.take i):Nat):Int) by omega];refine ae.k0 (NY H line i (2000 - eH (G.take i)) hH iJ hL.aA hlen (by omega) (by omega)) ?_;by_cases O6:(dE H line i).length<=2000 - eH (G.take i)
  ·rw [NZ O6];have ju:((dE H line i).map cz).length=(dE H line i).length:=List.length_map _;rcases ho with ⟨he,rfl,rfl⟩|⟨q,rfl,rfl⟩
   all_goals
    (conv=>whnf);repeat (refine ⟨ah ⟨by omega,by omega⟩,?_⟩;conv=>whnf)
    refine ⟨fun hz=>absurd (of_decide_eq_true hz) (by omega),fun hz=>?_⟩;(conv=>whnf);repeat ((first|refine ⟨ah ⟨by omega,by omega⟩,?_⟩|(refine ⟨Nat.le_of_ble_eq_true rfl,fun q'=>?_⟩)|(refine ⟨(by simp;unfold aU;omega),fun q'=>⟨_,.there (.there (.here _)),?_⟩⟩)|refine ⟨_,_,.head _,rfl,?_⟩|refine ⟨_,_,.here _,aR,?_⟩|refine ⟨_,_,.there (.here _),aR,?_⟩);conv=>whnf)
    rw [show ((eH (G.take i):Nat):Int)+((((dE H line i).map cz).length:Nat):Int)=((eH (G.take (i+1)):Nat):Int) by rw [dG,ju,Int.natCast_add]];refine ⟨_,[(fb,.vec [.sl 1 (some q') ((G.take (i+1)).map pA),AV.aQ rb 0 (line.length+1) 1]),(rb,.vec (List.replicate (line.length+1) (.int .i64 (-1)))),(q',.tok)],?_,_,(by omega),i+1,_,[(q',.tok)],rfl,rfl,rfl,by omega,by omega,.inr ⟨q',rfl,rfl⟩⟩
    first
     | (rw [cj,he];exact ao.perm (List.perm_append_comm (l₁:=[_]) (l₂:=[_,_])))
     | (rw [cj,List.map_append];exact ao.refl _ _)
  have ju:((wq H line i (2000 - eH (G.take i))).map cz).length=(wq H line i (2000 - eH (G.take i))).length:=List.length_map _;rw [Oa (by omega)] at ju;(conv=>whnf);repeat (refine ⟨ah ⟨by omega,by omega⟩,?_⟩;conv=>whnf)
  refine ⟨fun hz=>?_,fun hz=>absurd hz (by rw [decide_eq_false_iff_not];omega)⟩;have UC:df H line=2:=(by rw [hg,if_pos (by omega)]);(conv=>whnf);exact .inl ⟨by rw [UC];decide,by rw [UC]⟩
 rw [List.take_of_length_le (by omega)] at wL ho;have cx:df H line=0:=(by rw [hg,if_neg (by omega)]);have xB:List.replicate (line.length+1) (AV.int .i64 (-1))=ep (line.length+1) (fun _=>.int .i64 (-1)):=(by rw [<- Pd,Ly]);rw [xB];(conv=>whnf);repeat ((first|(refine ⟨line.length,ah ⟨by rw [cg],by omega⟩,?_⟩)|(refine CO ?_ (.there (.here _)) ?_;(focus omega))|(refine ⟨ah ⟨by rw [cg];omega,by rw [cg];omega⟩,?_⟩)|refine ⟨_,_,.head _,rfl,?_⟩);conv=>whnf)
 rw [show ep (line.length+1) (fun j=>if j=0+line.length*1 then AV.int .i64 0 else .int .i64 (-1))=ep (line.length+1) (oz G line.length) from yO fun j hj=>by
  unfold oz;by_cases h:j=line.length
  ·rw [if_pos (by omega),if_pos (by omega),h,<- FG,Jm]
  rw [if_neg (by omega),if_neg (by omega)]]
 refine bW rfl mixed [7,11] [] (fun m r h=>∃ (a:Nat) (c:Int),r=[(7,[],.bj fb 0),(11,[],.int .i64 c)]/\h=(fb,.vec [ev,.aQ rb 0 (line.length+1) 1])::(rb,.vec (ep (line.length+1) (oz G a)))::hp/\m=a/\c=(a:Int) - 1/\a<=line.length) ?_ ?_
 ·(conv=>whnf);exact ⟨_,_,ao.refl _ _,_,line.length,_,rfl,rfl,rfl,by rw [cg],by omega⟩
 rintro a r h' ⟨a',c,rfl,rfl,rfl,mq,ha⟩;(conv=>whnf);refine ⟨fun de=>?_,fun de=>?_⟩<;>simp at de
 ·obtain ⟨b,rfl⟩:∃ b,a=b+1:=⟨a - 1,by omega⟩;have gJ:c=(b:Int):=(by omega);subst gJ;have MG:=Cq b (by omega);obtain ⟨es,bc⟩:∃ es,es=dE H line b:=⟨_,rfl⟩;rw [<- bc] at MG;have vB:∀ x∈es,wG H b x/\b+x.word.ai.length<=line.length/\0<=x.cost/\x.cost<=18000:=fun x hx=>FF hH hL.aA (by omega) x (by rw [<- bc];exact hx)
  have O7:∀ e∈G,∀ x∈e,0<=x.cost/\x.cost<=18000:=by
   intro e he x hx;obtain ⟨i,bC⟩:=List.mem_iff_getElem?.1 he;have jv:i<line.length:=by have:=(List.getElem?_eq_some_iff.1 bC).1;omega
   rw [Cq i jv] at bC;cases bC
   exact (FF hH hL.aA (by omega) x hx).2.2
  have ZW:es.length<=2000:=by have h1:=FD (g:=G) (b+1);rw [dj MG,FE] at h1;omega
  rcases ho with ⟨he,rfl,rfl⟩|⟨q,rfl,rfl⟩
  ·rw [he] at FG;simp at FG;omega
  (conv=>whnf);repeat ((first|refine ix (by assumption) ?_|refine ⟨_,_,.head _,rfl,?_⟩);conv=>whnf)
  rw [show ep (line.length+1) (oz G (b+1))=ep (line.length+1) (fun j=>if j=b then .int .i64 ((es.take 0).foldl (jU (dQ (G.drop (b+1)))) (-1)) else oz G (b+1) j) from yO fun j hj=>by
   by_cases h:j=b
   ·rw [if_pos h];unfold oz;rw [if_neg (by omega)];rfl
   rw [if_neg h]]
  refine bW rfl mixed [7,11,76,77,78] [] (fun m r h=>∃ (k:Nat),r=[(7,[],.bj fb 0),(11,[],.int .i64 b),(76,[],.sl 7 none (es.map cz)),(77,[],.int .i64 (es.map cz).length),(78,[],.int .i64 k)]/\h=(fb,.vec [.sl 1 (some q) (G.map pA),.aQ rb 0 (line.length+1) 1])::(rb,.vec (ep (line.length+1) (fun j=>if j=b then .int .i64 ((es.take k).foldl (jU (dQ (G.drop (b+1)))) (-1)) else oz G (b+1) j)))::[(q,.tok)]/\m=es.length - k/\k<=es.length) ?_ ?_
  ·(conv=>whnf);exact ⟨_,_,ao.refl _ _,_,0,rfl,rfl,rfl,by omega⟩
  rintro m r h' ⟨k,rfl,rfl,rfl,hk⟩;(conv=>whnf);refine ⟨fun bw=>?_,fun bw=>?_⟩<;>simp at bw
  ·obtain ⟨x,hx⟩:=aL bw;obtain ⟨UD,oU,CH⟩:=vB x (List.mem_of_getElem? hx);have xa:=UD.some;have eS:=UD.to;have cj:=dj hx;obtain ⟨u,hu⟩:∃ u,u=x.word.ai.length:=⟨_,rfl⟩;rw [<- hu] at oU xa eS;obtain ⟨cur,jB⟩:∃ cur,cur=(es.take k).foldl (jU (dQ (G.drop (b+1)))) (-1):=⟨_,rfl⟩;obtain ⟨qv,MH⟩:∃ qv,qv=ez G (b+u):=⟨_,rfl⟩;have O8:(dQ (G.drop (b+1))).getD (x.word.ai.length - 1) 0=qv:=by have h1:=yB (G.drop (b+1)) (u - 1) (by rw [List.length_drop];omega);rw [Jk,show b+1+(u - 1)=b+u by omega,<- MH] at h1;rw [List.getD,<- hu,h1];rfl
   have cp:(es.take (k+1)).foldl (jU (dQ (G.drop (b+1)))) (-1)=sO qv cur x.cost:=by rw [cj,List.foldl_append,<- jB];show jU _ cur x=_;unfold jU;rw [O8]
   have jY:=IT (G.drop (b+1)) fun e he=>O7 e (List.mem_of_mem_drop he);have hqb:-1<=qv/\qv<=18000*60:=by have h1:=yB (G.drop (b+1)) (u - 1) (by rw [List.length_drop];omega);rw [Jk,show b+1+(u - 1)=b+u by omega,<- MH] at h1;have:=jY qv (List.mem_of_getElem? h1);rw [List.length_drop] at this;omega
   have KN:(fun j=>if j=b then AV.int .i64 cur else oz G (b+1) j) (0+(b+u)*1)=.int .i64 qv:=by show (if 0+(b+u)*1=b then _ else _)=_;rw [if_neg (by omega)];unfold oz;rw [if_pos (by omega),MH,show 0+(b+u)*1=b+u by omega]
   have mX:(fun j=>if j=b then AV.int .i64 cur else oz G (b+1) j) (0+b*1)=.int .i64 cur:=by show (if 0+b*1=b then _ else _)=_;rw [if_pos (by omega)]
   rw [<- jB];(conv=>whnf);repeat ((first|refine ⟨ah ⟨by omega,by omega⟩,?_⟩|refine ix (by assumption) ?_|(refine ⟨b+u,ah ⟨by rw [eS];omega,by omega⟩,?_⟩)|(refine fx (i:=b) (by omega) ?_)|(refine vz (.int .i64 qv) (.tail _ (.head _)) rfl (by omega) KN ?_)|(refine vz (.int .i64 cur) (.tail _ (.head _)) rfl (by omega) mX ?_)|refine ⟨_,_,bo.here _,⟨Nat.le_of_ble_eq_true rfl,rfl⟩,?_⟩|refine ⟨_,_,.head _,rfl,?_⟩|refine And.intro (by show aP (aN Tryz.f146 _) _=true;decide +kernel) ?_|intro (nb:Nat));conv=>whnf)
   refine ⟨fun hz=>?_,fun hz=>?_⟩
   ·have hn:sO qv cur x.cost=x.cost+qv:=by unfold sO;rw [if_pos hz]
    rw [hn] at cp;(conv=>whnf);repeat ((first|refine ⟨ah ⟨by omega,by omega⟩,?_⟩|(refine fx (i:=b) (by omega) ?_)|(refine CO ?_ (.there (.here _)) ?_;(focus omega))|refine ⟨_,_,.head _,rfl,?_⟩|refine And.intro (by show aP (aN Tryz.f146 _) _=true;decide +kernel) ?_);conv=>whnf)
    refine ⟨_,_,ao.refl _ _,_,(by omega),k+1,rfl,?_,rfl,by omega⟩;rw [cp];refine O4 rfl (yO fun j hj=>?_);by_cases h:j=b
    ·rw [if_pos (by omega),if_pos h]
    rw [if_neg (by omega),if_neg h,if_neg h]
   have hn:sO qv cur x.cost=cur:=by unfold sO;rw [if_neg (by rw [hz];decide)]
   rw [hn] at cp;(conv=>whnf);repeat (refine ⟨ah ⟨by omega,by omega⟩,?_⟩;conv=>whnf)
   refine ⟨_,_,ao.refl _ _,_,(by omega),k+1,rfl,?_,rfl,by omega⟩;rw [cp]
  rw [List.take_of_length_le bw];have nG:ez G b=es.foldl (jU (dQ (G.drop (b+1)))) (-1):=by unfold ez;rw [drop_cons MG];rfl
  rw [<- nG,show ep (line.length+1) (fun j=>if j=b then AV.int .i64 (ez G b) else oz G (b+1) j)=ep (line.length+1) (oz G b) from yO fun j hj=>by
   by_cases h:j=b
   ·rw [if_pos h];unfold oz;rw [if_pos (by omega),h]
   rw [if_neg h];unfold oz;by_cases h2:b<=j
   ·rw [if_pos (by omega),if_pos h2]
   rw [if_neg (by omega),if_neg h2]]
  (conv=>whnf);repeat (refine ⟨ah ⟨by omega,by omega⟩,?_⟩;conv=>whnf)
  exact ⟨_,_,ao.refl _ _,_,(by omega),b,_,rfl,rfl,rfl,rfl,by omega⟩
 have:a=0:=(by omega);subst this;(conv=>whnf);skip;exact .inr ⟨cx,fb,rb,ev,hp,rfl,ho,rfl⟩
end Go.Abs.Wall
namespace Go.Abs.Wall
open Go Go.Abs Go.Proofs
def Az (G:List (List av)) (R:List Int):List AV:=[.sl 1 none (G.map pA),.sl 1 none (ints R)]
def CL (H:aj) (line:List Int):AV:=if df H line=0 then .au (Az (bX H line) (dQ (bX H line))) else .kA
theorem O9 (G:List (List av)) (n:Nat) (h:G.length=n):(List.range (n+1)).map (fun j=>[oz G 0 j])=ints (dQ G):=by rw [O2,h];unfold ints;rw [List.map_map];refine List.map_congr_left fun j _=>?_;show [AV.int .i64 (if 0<=j then ez G j else -1)]=_;rw [if_pos (Nat.zero_le _)];rfl
theorem Wh (H:aj) (line:List Int) (iJ:dU H) (hlen:line.length<=1048576):ae Tryz.prog 146 [.agg (bu H),.sl 1 none (ints line)] [] (.aH [CL H line,.int .i64 (df H line)]):=by
 have h0:=O5 H line iJ hlen;have hl:(bX H line).length=line.length:=(by simp [bX]);refine ae.of (aB.GM (R:=fun v h'=>(df H line≠0/\v=.aH [.kA,.int .i64 (df H line)])\/(df H line=0/\∃ fb ev hp,v=.aH [.bj fb 0,.int .i64 0]/\Out 1 pA (bX H line) ev hp/\h'=(fb,.vec [ev,.sl 1 none (ints (dQ (bX H line)))])::hp)) (aB.GM h0 ?_) ?_)
 ·rintro v h1 (h|⟨hg,fb,rb,ev,hp,rfl,ho,rfl⟩)
  ·exact .inl (.inl h)
  refine .inr ⟨rb,_,_,(fb,.vec [ev,.sl 1 none (ints (dQ (bX H line)))])::hp,_,.there (.here _),.vec (.cons (.refl _) (.cons (Zr (O9 _ _ hl).symm) .nil)) (lp.refl _),.refl _,.inr ⟨hg,fb,ev,hp,rfl,ho,rfl⟩⟩
 rintro v h1 (⟨hg,rfl⟩|⟨hg,fb,ev,hp,rfl,ho,rfl⟩)
 ·left;unfold CL;rw [if_neg hg];exact ag.refl _
 refine .inr ⟨fb,_,hp,hp,_,.here _,lp.refl _,.aH (.cons (.ptr rfl) (.cons (.refl _) .nil)),?_⟩;unfold CL;rw [if_pos hg,hg];exact ag.aH (.cons (ag.au (.cons (Out.le (by decide) ho) (.cons (ag.refl _) .nil))) (.cons (ag.refl _) .nil))
def c251:az:=⟨[0,1,2,4,6,7,8,9,10,11,17,31],[],[],[],[(5,[0,1,2,3,4,5,6,7],[]),(8,[0,1,2,3,4,5,6,7,8,9,10,11,12,13,14,15],[])],[]⟩
def c252:az:=⟨[0,1,2,6,7,8,9,16,22,31,68],[],[],[],[(11,[0,1,2,3,4,5,6,7,8],[]),(15,[0,1,2,3,4,5,6,7,8],[])],[]⟩
def c215:az:=⟨[0,1,3,4],[],[],[],[(1,[0,1,2,3,4,5,6,7,8,9,10,11,12,13,14],[]),(2,[0,1,2,3,4,5,6,7,8,9,10,11],[])],[27]⟩
end Go.Abs.Wall
namespace Go.Abs.Wall
open Go Go.Abs Go.Proofs
def ins {α:Type} (cmp:α->α->Int) (a:α):List α->List α
 | []=>[a]
 | b::t=>if cmp b a<0 then b::ins cmp a t else a::b::t
def xm {α:Type} (cmp:α->α->Int):List α->List α
 | []=>[]
 | a::t=>ins cmp a (xm cmp t)
theorem MI {α:Type} {cmp:α->α->Int} {a:α}:∀ {l:List α},(ins cmp a l).Perm (a::l)
 | []=>.refl _
 | b::t=>by
   unfold ins;split
   ·exact (List.Perm.cons _ MI).trans (.swap _ _ _)
   exact .refl _
theorem UE {α:Type} {cmp:α->α->Int}:∀ {l:List α},(xm cmp l).Perm l
 | []=>.refl _
 | a::t=>MI.trans (List.Perm.cons _ UE)
theorem UF {α:Type} {cmp:α->α->Int} (h:oZ cmp) {a:α}:∀ {l:List α},l.Pairwise (fun x y=>¬ cmp y x<0)->(ins cmp a l).Pairwise fun x y=>¬ cmp y x<0
 | [],_=>by simp [ins]
 | b::t,hl=>by
   rw [List.pairwise_cons] at hl;unfold ins;split
   ·rename_i hc;rw [List.pairwise_cons];refine ⟨fun x hx=>?_,UF h hl.2⟩;rcases List.mem_cons.1 (MI.mem_iff.1 hx) with rfl|hx
    ·exact fun h2=>h.ud _ (h.tr _ _ _ hc h2)
    exact hl.1 x hx
   rename_i hc;rw [List.pairwise_cons,List.pairwise_cons];refine ⟨fun x hx=>?_,hl⟩;rcases List.mem_cons.1 hx with rfl|hx
   ·exact hc
   exact h.nt _ _ _ (hl.1 x hx) hc
theorem UG {α:Type} {cmp:α->α->Int} (h:oZ cmp):∀ {l:List α},(xm cmp l).Pairwise fun x y=>¬ cmp y x<0
 | []=>.nil
 | a::t=>UF h (UG h)
theorem oZ.xm {α:Type} {cmp:α->α->Int} (h:oZ cmp) {l:List α} (ha:∀ x∈l,∀ y∈l,¬ cmp x y<0->¬ cmp y x<0->x=y):px cmp l=Wall.xm cmp l:=(h.unique ha UE (UG h)).symm
theorem Ys (p:Int) (s:eL):oR p s=xm mb (ke p s.values):=zU.c.w.xm fun x _ y _=>zU.c.yw x y
end Go.Abs.Wall
namespace Go.Abs.Wall
open Go Go.Abs Go.Proofs
def c101:az:=⟨[0,1,4,5,9],[],[4],[],[],[]⟩
def c52:az:=⟨[0,1,2],[4,7,10,13,16,19,22,26],[0,1,2],[],[],[4,7,10,13,16,19,22,26]⟩
theorem P0 (code t:List UInt8) (k:Int) (b:Nat):aB Tryz.prog 101 [.str code,.aQ b 0 1 4] [(b,.vec [.int .i64 k,.str t,.int .i64 0,.int .i64 0])] (fun v h'=>v=.agg (iX ⟨code,1,1,false,[⟨k,t,1,1⟩]⟩)/\h'=[]):=by
 refine aB.Ad (R:=fun v h'=>v=.agg [.str code,.int .i64 1,.int .i64 1,.bool false,.aQ b 0 1 4]/\h'=[(b,.vec [.int .i64 k,.str t,.int .i64 1,.int .i64 1])]) ?_ ?_
 ·refine aG (F:=Tryz.f101) c101 rfl rfl rfl mixed rfl fun X=>?_;(conv=>whnf);intro rb;(conv=>whnf);refine yx 60 rfl mixed ?_;(conv=>whnf);refine .inr ?_;(conv=>whnf);refine cT rfl ?_;(conv=>whnf);repeat ((first|refine ⟨ah ⟨by omega,by omega⟩,?_⟩|(refine ⟨0,ah ⟨rfl,by decide⟩,?_⟩)|(refine ⟨_,_,.there (.here _),aR,?_⟩));conv=>whnf)
  refine .inr ?_;(conv=>whnf);refine cF rfl ?_;(conv=>whnf);repeat (refine ⟨_,_,bo.here _,⟨Nat.le_of_ble_eq_true rfl,rfl⟩,?_⟩;conv=>whnf)
  exact ⟨rfl,rfl⟩
 rintro v h1 ⟨rfl,rfl⟩;exact ⟨b,_,[],[],_,.here _,.nil,.agg (.cons (.refl _) (.cons (.refl _) (.cons (.refl _) (.cons (.refl _) (.cons (.row (zl:=[]) (pre:=[]) (post:=[]) (xs:=[[.int .i64 k,.str t,.int .i64 1,.int .i64 1]]) rfl rfl rfl (by simp)) .nil))))),rfl,rfl⟩
theorem P1 (code t t2:List UInt8) (k k2:Int) (b:Nat):aB Tryz.prog 101 [.str code,.aQ b 0 2 4] [(b,.vec [.int .i64 k,.str t,.int .i64 0,.int .i64 0,.int .i64 k2,.str t2,.int .i64 0,.int .i64 0])] (fun v h'=>v=.agg (iX ⟨code,1,1,false,[⟨k,t,1,1⟩,⟨k2,t2,1,1⟩]⟩)/\h'=[]):=by
 refine aB.Ad (R:=fun v h'=>v=.agg [.str code,.int .i64 1,.int .i64 1,.bool false,.aQ b 0 2 4]/\h'=[(b,.vec [.int .i64 k,.str t,.int .i64 1,.int .i64 1,.int .i64 k2,.str t2,.int .i64 1,.int .i64 1])]) ?_ ?_
 ·refine aG (F:=Tryz.f101) c101 rfl rfl rfl mixed rfl fun X=>?_;(conv=>whnf);intro rb;(conv=>whnf);refine yx 60 rfl mixed ?_;(conv=>whnf);refine .inr ?_;(conv=>whnf);refine cT rfl ?_;(conv=>whnf);repeat ((first|refine ⟨ah ⟨by omega,by omega⟩,?_⟩|(refine ⟨0,ah ⟨rfl,by decide⟩,?_⟩)|(refine ⟨_,_,.there (.here _),aR,?_⟩));conv=>whnf)
  refine .inr ?_;(conv=>whnf);refine cT rfl ?_;(conv=>whnf);repeat ((first|refine ⟨ah ⟨by omega,by omega⟩,?_⟩|(refine ⟨1,ah ⟨rfl,by decide⟩,?_⟩)|(refine ⟨_,_,.there (.here _),aR,?_⟩));conv=>whnf)
  refine .inr ?_;(conv=>whnf);refine cF rfl ?_;(conv=>whnf);repeat (refine ⟨_,_,bo.here _,⟨Nat.le_of_ble_eq_true rfl,rfl⟩,?_⟩;conv=>whnf)
  exact ⟨rfl,rfl⟩
 rintro v h1 ⟨rfl,rfl⟩;exact ⟨b,_,[],[],_,.here _,.nil,.agg (.cons (.refl _) (.cons (.refl _) (.cons (.refl _) (.cons (.refl _) (.cons (.row (zl:=[]) (pre:=[]) (post:=[]) (xs:=[[.int .i64 k,.str t,.int .i64 1,.int .i64 1],[.int .i64 k2,.str t2,.int .i64 1,.int .i64 1]]) rfl rfl rfl (by simp)) .nil))))),rfl,rfl⟩
def xR (code:List UInt8) (l:List db):eL:=⟨code,1,1,false,l⟩
def mB:aj:=⟨⟨1,[xR [65,49] [⟨1,[110],1,1⟩],xR [66,49] [⟨1,[110,102,114],1,1⟩],xR [67,49] [⟨1,[102],1,1⟩],xR [68,49] [⟨1,[114],1,1⟩],
  xR [69,49] [⟨2,[110,102,114],1,1⟩],xR [70,49] [⟨3,[103,111,111,100],1,1⟩],xR [71,49] [⟨1,[116],1,1⟩],xR [72,49] [⟨1,[110],1,1⟩,⟨2,[110],1,1⟩]]⟩,
 ⟨[⟨[110,102,114],1,[103,111,111,100],2⟩,⟨[110],2,[],1⟩],[⟨1,[116],[102,101,109],1⟩],[⟨[102],[104,105,115],3⟩]⟩,⟨1,0,0,0,4⟩,1⟩
theorem Yx:ae Tryz.prog 52 [] [] (.agg (bu mB)):=by
 refine ae.zd ?_;refine aG (F:=Tryz.f52) c52 rfl rfl rfl mixed rfl fun X=>?_;(conv=>whnf);intro rb;(conv=>whnf);repeat ((first|(intro (nb:Nat))|(refine aB.mono ?_ (aB.frame (P0 _ _ _ _) _);rintro v h1 ⟨h2,⟨rfl,rfl⟩,rfl⟩)|(refine aB.mono ?_ (aB.frame (P1 _ _ _ _ _ _) _);rintro v h1 ⟨h2,⟨rfl,rfl⟩,rfl⟩)|refine ⟨_,_,bo.here _,⟨Nat.le_of_ble_eq_true rfl,rfl⟩,?_⟩);conv=>whnf)
 rfl
def Bc (to cost:Int) (l:List ay):av:=⟨0,to,cost,⟨⟨0,-1,[]⟩,l⟩⟩
def c217:az:=⟨[0,1,2],[1],[2],[],[],[]⟩
theorem OQ (w:bU) (h1:w.form.ar.length<=aU) (h2:w.ai.length<=aU):ae Tryz.prog 217 [.agg (cr w)] [] (.agg (cr w)):=by
 refine ae.zd ?_;refine aG (F:=Tryz.f217) c217 rfl rfl rfl mixed rfl fun X=>?_;(conv=>whnf);intro b1;(conv=>whnf);intro b2;(conv=>whnf);repeat ((first|refine ae.k0 (Mx w.form.ar h1) ?_|refine ae.k0 (H8 w.ai h2) ?_|refine ⟨_,_,bo.here _,⟨Nat.le_of_ble_eq_true rfl,rfl⟩,?_⟩|refine ⟨_,_,.tail _ (.head _),rfl,?_⟩|refine ⟨_,_,.there (.here _),aR,?_⟩);conv=>whnf)
 rfl
end Go.Abs.Wall
namespace Go.Abs.Wall
open Go Go.Abs Go.Proofs
def c147:az:=⟨[0,2,3,4,5,6,7,8,16,17,18,29,30,31,32,45],[11,22],[7],[],[(9,[0,1,2,3,4,5,6,7,8],[]),(11,[0,1,2,3,4,5,6,7,8,9],[])],[55]⟩
def c216:az:=⟨[0,1,2,6,7,8,9,10,11,12,22,39,43,83,105],[],[9,10,11],[],[(7,[0,1,2,3,4,5,6,7,8,9,10,11,12,13],[9]),(8,[0,1,2,3,4,5,6,7,8,9,10,11,12,13,14,15],[10]),(11,[0,1,2,3,4,5,6,7,8,9,10,11,12,13,14],[]),(14,[0,1,2,3,4,5,6,7,8,9,10,11,12,13,14,15,16],[])],[]⟩
end Go.Abs.Wall
namespace Go.Abs.Wall
open Go Go.Abs Go.Proofs
structure sT where
 words:List bU
 cost:Int
def kI (r:sT):List AV:=[.sl 4 none (r.words.map cr),.int .i64 r.cost]
def c148:az:=⟨[0,1,4,5,6,7,8,17,31],[],[8],[],[(7,[0,1,2,3,4,5,6,7,8,9,10,11,12,13,14,15],[8]),(8,[0,1,2,3,4,5,6,7,8],[])],[]⟩
def c91:az:=⟨[0,1,2,3,6,7,8,9,10,11,12,20,24,27,28,29,38,46],[],[11],[],[],[]⟩
def c46:az:=⟨[0,1,2,4,5,6,7,15],[],[],[],[],[]⟩
end Go.Abs.Wall
