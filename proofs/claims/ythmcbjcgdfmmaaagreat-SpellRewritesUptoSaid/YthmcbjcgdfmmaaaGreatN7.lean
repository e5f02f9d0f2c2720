/- Small laws for the walks and contracts of functions; each theorem names its conditions. -/
import Derived.Test.YthmcbjcgdfmmaaaGreatN6
set_option maxRecDepth 100000
set_option maxHeartbeats 2000000
namespace Go.Abs.Wall
open Go Go.Abs Go.Proofs
theorem wrap64 {n:Int} (h0:0<=n) (h1:n<4294967296):IntKind.u64.wrap n=n:=by simp [IntKind.wrap,IntKind.signed,IntKind.bits];omega
def c36:av:=⟨[0,1,4,5,6,7,8,9],[],[],[],[],[]⟩
def c69:av:=⟨[0,1,4,5,6,7,8,9,10,11,12,13],[],[],[],[],[]⟩
def c17:av:=⟨[0,1,4,5,6,7,8,10,26,37],[],[],[],[(9,[0,1,2,3,4,5,6,7,8,9],[])],[]⟩
theorem H2 (n:Int) (h0:0<=n) (h1:n<=1048577):ab Tryz.prog 69 [.int .u64 1,.int .u64 n] [] (.aB [.int .u64 0,.int .u64 n]):=by
 have w1:IntKind.u64.wrap (1*n)=n:=by rw [Int.one_mul];exact wrap64 h0 (by omega)
 have w2:IntKind.u64.wrap (0*n)=0:=by rw [Int.zero_mul];exact wrap64 (by omega) (by omega)
 have w3:IntKind.u64.wrap (1*0)=0:=wrap64 (by omega) (by omega);have w4:IntKind.u64.wrap (0*0)=0:=wrap64 (by omega) (by omega);have w5:IntKind.u64.wrap (0+0)=0:=wrap64 (by omega) (by omega);refine aA (F:=Tryz.f69) c69 rfl rfl rfl mixed rfl fun X=>?_;(conv=>whnf);repeat ((refine ⟨ag ⟨⟨rfl,rfl⟩,⟨by first|omega|(rw [w1];omega)|(rw [w2,w5];omega)|(rw [w2,w5,w3,w5];omega),by first|omega|(rw [w1];omega)|(rw [w2,w5];omega)|(rw [w2,w5,w3,w5];omega)⟩,rfl⟩,?_⟩);conv=>whnf)
 refine ⟨?_,rfl⟩;rw [w1,w4,w5,w5]
theorem H3 (n:Int) (h0:0<=n) (h1:n<=1048577):ab Tryz.prog 36 [.int .u64 1,.int .u64 n] [] (.aB [.int .u64 0,.int .u64 n]):=by
 refine aA (F:=Tryz.f36) c36 rfl rfl rfl mixed rfl fun X=>?_;(conv=>whnf);refine cF rfl ?_;(conv=>whnf);repeat (refine ab.k0 (H2 n h0 h1) ?_;conv=>whnf)
 exact ⟨rfl,rfl⟩
def mw (n m:Nat) (v:Int):List AV:=List.replicate m (.int .i64 v)++List.replicate (n - m) (.int .i64 0)
theorem Tm {n m:Nat} {v:Int} (h:m<=n):(mw n m v).length=n:=by unfold mw;simp;omega
theorem Tn {n m c:Nat} {v:Int} (h:m+c<=n):dn (mw n m v) m (List.replicate c (.int .i64 v))=mw n (m+c) v:=by
 unfold dn mw;rw [List.take_append_of_le_length (by simp),List.take_of_length_le (by simp),List.length_replicate,List.drop_append,List.drop_eq_nil_of_le (by simp),List.nil_append,List.length_replicate,List.drop_replicate];congr 1
 ·rw [List.replicate_append_replicate]
 congr 1;omega
theorem H4 {n:Nat} {v:Int}:mw n n v=List.replicate n (.int .i64 v):=by unfold mw;simp
theorem Rp (v:Int) (n:Nat) (h1:1<=n) (h2:n<=1048577):aw Tryz.prog 17 [.sl 1 none [[.int .i64 v]],.int .i64 n] [] (fun w h'=>∃ b,w=.aQ b 0 n 1/\h'=[(b,.vec (List.replicate n (.int .i64 v)))]):=by
 refine aA (F:=Tryz.f17) c17 rfl rfl rfl mixed rfl fun X=>?_;(conv=>whnf);refine ⟨fun h=>absurd (of_decide_eq_true h) (by omega),fun h=>?_⟩;(conv=>whnf);skip;rw [show IntKind.u64.wrap ((([[AV.int .i64 v]]:List (List AV)).length:Nat):Int)=1 from wrap64 (by simp) (by simp),show IntKind.u64.wrap (n:Int)=n from wrap64 (by omega) (by omega)];refine ab.k0 (H3 n (by omega) (by omega)) ?_;(conv=>whnf);refine cF (by simp;omega) ?_;(conv=>whnf);repeat ((first|refine ⟨ag ⟨by omega,by omega⟩,?_⟩|(refine ⟨⟨by omega,by omega,by omega⟩,fun b=>?_⟩));conv=>whnf)
 rw [show gS (n:Int).toNat [AV.int .i64 0]=mw n 0 v by rw [show (n:Int).toNat=n from rfl,Lm];simp [mw],show (n:Int).toNat=n from rfl];refine ⟨_,_,.here _,⟨by simp,by simp;omega,by rw [Tm (by omega)];simp;omega⟩,?_⟩;rw [show dn (mw n 0 v) 0 [[AV.int .i64 v]].flatten=mw n 1 v from Tn (m:=0) (c:=1) (by omega)];(conv=>whnf);skip;refine bS rfl mixed [7,8] [] (fun m r h=>∃ (q:Nat),r=[(7,[],.aQ b 0 n 1),(8,[],.int .i64 q)]/\h=[(b,.vec (mw n q v))]/\m=n - q/\1<=q/\q<=n) ?_ ?_
 ·(conv=>whnf);exact ⟨_,1,rfl,rfl,rfl,by omega,by omega⟩
 rintro x r h' ⟨q,rfl,rfl,rfl,vn,Y9⟩;(conv=>whnf);refine ⟨fun hf=>?_,fun hf=>?_⟩<;>simp at hf
 ·(conv=>whnf);repeat ((first|refine ⟨ag ⟨by omega,by omega⟩,?_⟩|refine And.intro (by show aJ (aH Tryz.f17 _) _=true;decide +kernel) ?_);conv=>whnf)
  obtain ⟨c,hc⟩:∃ c,c=min q (n - q):=⟨_,rfl⟩;have hm:min ((q:Int).toNat - Int.toNat 0) ((n:Int).toNat - (q:Int).toNat)=c:=by rw [hc];show min (q - 0) (n - q)=_;rw [Nat.sub_zero]
  have cY:(List.replicate c [AV.int .i64 v]).flatten=List.replicate c (.int .i64 v):=(by simp);rw [hm];refine ⟨mw n q v,List.replicate c [.int .i64 v],.head _,⟨?_,by intro z hz;rw [List.mem_replicate] at hz;rw [hz.2];rfl,by simp⟩,mw n q v,_,.here _,⟨by omega,?_⟩,?_⟩
  ·rw [cY];show List.take (c*1) (List.drop 0 (mw n q v))=_;rw [List.drop_zero,Nat.mul_one];unfold mw;rw [List.take_append_of_le_length (by simp;omega),List.take_replicate];congr 1;omega
  ·rw [cY,Tm (by omega)];show 0+q*1+_<=n;simp;omega
  rw [cY,show dn (mw n q v) (0+(q:Int).toNat*1) (List.replicate c (.int .i64 v))=mw n (q+c) v by rw [show 0+(q:Int).toNat*1=q by omega];exact Tn (by omega)];(conv=>whnf);repeat (refine ⟨ag ⟨by omega,by omega⟩,?_⟩;conv=>whnf)
  exact ⟨_,by omega,q+c,rfl,rfl,rfl,by omega,by omega⟩
 have:n=q:=(by omega);subst this;(conv=>whnf);exact ⟨b,rfl,by rw [H4]⟩
end Go.Abs.Wall
namespace Go.Abs.Wall
open Go Go.Abs Go.Proofs
def ei (H:aD) (line:List Int) (at_:Nat):List ar:=lB (mE H (oM H line at_) at_)
def cZ (H:aD) (line:List Int):List (List ar):=(List.range line.length).map (ei H line)
def eK (g:List (List ar)):Nat:=(g.map List.length).sum
def dU (H:aD) (line:List Int):Int:=if gN H line≠0 then gN H line else if 2000<eK (cZ H line) then 2 else 0
def sQ (q cur cost:Int):Int:=if (!decide (q = -1)&&(decide (cur = -1)||decide (cost+q<cur)))=true then cost+q else cur
def jJ (t:List Int) (r:Int) (x:ar):Int:=sQ (t.getD (x.word.ay.length - 1) 0) r x.cost
def dV:List (List ar)->List Int
 | []=>[0]
 | es::g=>es.foldl (jJ (dV g)) (-1)::dV g
def eE (g:List (List ar)) (i:Nat):Int:=(dV (g.drop i)).headD 0
theorem To:∀ g,(dV g).length=g.length+1
 | []=>rfl
 | es::g=>by simp [dV,To g]
theorem yD:∀ (g:List (List ar)) (i:Nat),i<=g.length->(dV g)[i]?=some (eE g i)
 | [],i,h=>by have:i=0:=(by simpa using h);subst this;rfl
 | es::g,0,_=>by simp [dV,eE]
 | es::g,i+1,h=>by have:=yD g i (by simpa using h);simp only [dV,List.getElem?_cons_succ];rw [this];rfl
theorem II (g:List (List ar)) (a i:Nat):eE (g.drop a) i=eE g (a+i):=by unfold eE;rw [List.drop_drop]
theorem IK (g:List (List ar)):eE g g.length=0:=by unfold eE;rw [List.drop_length];rfl
theorem H5 (g:List (List ar)):dV g=(List.range (g.length+1)).map (eE g):=by
 refine List.ext_getElem? fun i=>?_;by_cases h:i<=g.length
 ·rw [yD g i h,List.getElem?_map,List.getElem?_range (by omega)];rfl
 rw [List.getElem?_eq_none (by rw [To];omega),List.getElem?_eq_none (by simp;omega)]
theorem H6 {q cur cost B:Int} (h1:-1<=q) (h2:q<=B) (h3:-1<=cur) (h4:cur<=B+18000) (h5:0<=cost) (h6:cost<=18000):-1<=sQ q cur cost/\sQ q cur cost<=B+18000:=by
 unfold sQ;split
 ·omega
 omega
theorem Tp {t:List Int} {B:Int} (hB:0<=B) (ht:∀ v∈t,-1<=v/\v<=B):∀ (es:List ar) (r:Int),-1<=r->r<=B+18000->(∀ x∈es,0<=x.cost/\x.cost<=18000)->-1<=es.foldl (jJ t) r/\es.foldl (jJ t) r<=B+18000
 | [],r,h1,h2,_=>⟨h1,h2⟩
 | x::es,r,h1,h2,hx=>by
   have hq:-1<=t.getD (x.word.ay.length - 1) 0/\t.getD (x.word.ay.length - 1) 0<=B:=by
    by_cases h:x.word.ay.length - 1<t.length
    ·have:=ht _ (List.getElem_mem h);simp [List.getD,List.getElem?_eq_getElem h];exact this
    simp [List.getD,List.getElem?_eq_none (Nat.le_of_not_lt h)];omega
   have hc:=hx x (by simp);obtain ⟨h3,h4⟩:=H6 hq.1 hq.2 h1 h2 hc.1 hc.2;exact Tp hB ht es _ h3 h4 fun y hy=>hx y (by simp [hy])
theorem Iq:∀ (g:List (List ar)),(∀ es∈g,∀ x∈es,0<=x.cost/\x.cost<=18000)->∀ v∈dV g,-1<=v/\v<=18000*(g.length:Int)
 | [],_,v,hv=>by simp [dV] at hv;subst hv;simp
 | es::g,h,v,hv=>by
   have ih:=Iq g fun e he=>h e (by simp [he]);simp only [dV,List.mem_cons] at hv;rcases hv with rfl|hv
   ·have:=Tp (B:=18000*(g.length:Int)) (by omega) ih es (-1) (by omega) (by omega) (h es (by simp));simp only [List.length_cons];omega
   have:=ih v hv;simp only [List.length_cons];omega
theorem Tq {E:Env}:∀ (rest:List (List az)) (p:bU) (T:List az),∀ e∈fU E rest p T,e.word.ay.length<=T.length+rest.length
 | [],_,_,e,he=>by cases he
 | us::r,p,T,e,he=>by
   unfold fU at he;rw [List.mem_flatMap] at he;obtain ⟨u,wB,he⟩:=he;rw [List.mem_flatMap] at he;obtain ⟨q,hq,he⟩:=he;rw [List.length_cons];rcases List.mem_append.1 he with he|he
   ·unfold mC at he;split at he
    ·cases List.mem_singleton.1 he
     show (T++[u]).length<=_;rw [List.length_append,List.length_singleton];omega
    cases he
   have:=Tq r q (T++[u]) e he;rw [List.length_append,List.length_singleton] at this;omega
theorem Fh {H:aD} (hH:kc H) {line:List Int} (hl:∀ s∈line,0<=s/\s<H.list.aK.length) {at_:Nat} (cK:at_<=line.length):∀ x∈ei H line at_,wF H at_ x/\at_+x.word.ay.length<=line.length/\0<=x.cost/\x.cost<=18000:=by
 intro x hx;unfold ei lB at hx;rw [Jn] at hx;obtain ⟨vc,vd⟩:=Tk hH (line:=line) (at_:=at_) hl;have h1:=EV hH vc vd x hx;have h2:=PZ hH (w:=x.word);have h3:=h1.bB;refine ⟨h1,?_,by rw [h1.cost];omega,by rw [h1.cost];omega⟩;unfold mE at hx;rw [List.mem_flatMap] at hx;obtain ⟨i,hi,hx⟩:=hx;unfold ny at hx;rw [List.mem_flatMap] at hx;obtain ⟨k,hk,hx⟩:=hx;unfold ic at hx;split at hx
 ·cases hx
 unfold df at hx;rw [Ca,List.nil_append] at hx;have:=Tq _ _ _ x hx;unfold oM at this;simp at this;omega
theorem Fg {g:List (List ar)} {l:List ar}:eK (g++[l])=eK g+l.length:=by unfold eK;simp
theorem Ff {g:List (List ar)} (i:Nat):eK (g.take i)<=eK g:=by
 have h1:eK (g.take i++g.drop i)=eK (g.take i)+eK (g.drop i):=by unfold eK;rw [List.map_append,List.sum_append]
 rw [List.take_append_drop] at h1;omega
theorem Nx {H:aD} {line:List Int} {at_ most:Nat} (h:(ei H line at_).length<=most):wk H line at_ most=ei H line at_:=by unfold ei lB at h;rw [sJ] at h;unfold wk ei;rw [List.take_of_length_le (by omega)]
theorem Ny {H:aD} {line:List Int} {at_ most:Nat} (h:most<(ei H line at_).length):(wk H line at_ most).length=most+1:=by unfold ei lB at h;rw [sJ] at h;unfold wk lB;rw [sJ,List.length_take];omega
def kg (es:List ar):List AV:=[.sl 7 none (es.map bZ)]
theorem aa.ai {xs ys:List AV} (h:cu xs ys):aa (.ai xs) (.ai ys):=by intro c u hu;simp only [ae] at hu ⊢;obtain ⟨b,o,hv,hr⟩:=hu;exact ⟨b,o,hv,h.Ln hr⟩
structure Aq (H:aD) (line:List Int):Prop where
 ka:kc H
 bB:line.length<=60
 aK:∀ s∈line,0<=s/\s<H.list.aK.length
theorem Ar {H:aD} {line:List Int} (h:gN H line=0):Aq H line:=by
 unfold gN at h;split at h
 ·rename_i h1;exact absurd h h1
 rename_i h1;split at h
 ·cases h
 split at h
 ·cases h
 rename_i h2 h3;rw [Bool.not_eq_true,List.any_eq_false] at h3;refine ⟨vN (by omega),by omega,fun s hs=>?_⟩;have:=h3 s hs;rw [Bool.not_eq_true,Bool.not_eq_false',dL] at this;omega
end Go.Abs.Wall
namespace Go.Abs.Wall
open Go Go.Abs Go.Proofs
theorem H7 {a b:Nat} {x x' y y':List AV} {z:af} (hx:x=x') (hy:y=y'):(a,Ob.vec x)::(b,Ob.vec y)::z=(a,Ob.vec x')::(b,Ob.vec y')::z:=by subst hx;subst hy;rfl
def oA (G:List (List ar)) (a:Nat) (j:Nat):AV:=.int .i64 (if a<=j then eE G j else -1)
def c65:av:=⟨[0,1,2,4,5,6,7,8,9,10,11,13,14,19,29,30,31,44,67,76,77,78,79,115],[27],[13],[],[(22,[0,1,2,3,4,5,6,7,8],[]),(23,[0,1,2,3,4,5,6,7,8,9,10,11,12,13,14,15,16,17,18,19,20,21,22,23,24,25],[]),(24,[0,1,2,3,4,5,6,7,8,9,10],[])],[]⟩
set_option maxHeartbeats 2000000 in
theorem H8 (H:aD) (line:List Int) (iE:dx H) (hlen:line.length<=1048576) :
  aw Tryz.prog 65 [.agg (aZ H),.sl 1 none (ints line)] [] (fun v h'=>(dU H line≠0/\v=.aB [.jC,.int .i64 (dU H line)])\/(dU H line=0/\∃ fb rb ev hp,v=.aB [.ba fb 0,.int .i64 0]/\Out 1 kg (cZ H line) ev hp/\h'=(fb,.vec [ev,.aQ rb 0 (line.length+1) 1])::(rb,.vec (dq (line.length+1) (oA (cZ H line) 0)))::hp)):=by
 have CK:line.length<=aq:=by unfold aq;omega
 refine aA (F:=Tryz.f65) c65 rfl rfl rfl mixed rfl fun X=>?_;(conv=>whnf);repeat (refine ab.k0 (Nv H line iE CK) ?_;conv=>whnf)
 refine ⟨fun hc=>?_,fun hc=>?_⟩<;>simp at hc
 ·have hg:dU H line=gN H line:=(by rw [dU,if_pos hc]);(conv=>whnf);exact .inl ⟨by rw [hg];exact hc,by rw [hg]⟩
 have hL:=Ar hc;have hH:=hL.ka;have dG:=hL.bB;have hg:dU H line=if 2000<eK (cZ H line) then 2 else 0:=(by rw [dU,if_neg (by omega)]);obtain ⟨G,hG⟩:∃ G,G=cZ H line:=⟨_,rfl⟩;have Fi:G.length=line.length:=by rw [hG];simp [cZ]
 have Ci:∀ i,i<line.length->G[i]?=some (ei H line i):=fun i hi=>by rw [hG,cZ,List.getElem?_map,List.getElem?_range hi];rfl
 rw [<- hG] at hg ⊢;(conv=>whnf);repeat ((refine ⟨ag ⟨by rw [cO];omega,by rw [cO];omega⟩,?_⟩);conv=>whnf)
 rw [cO,show ((line.length:Nat):Int)+1=((line.length+1:Nat):Int) from rfl];refine aw.mono ?_ (Rp (-1) (line.length+1) (by omega) (by omega));rintro w h1 ⟨rb,rfl,rfl⟩;(conv=>whnf);intro fb;(conv=>whnf);skip;refine bD rfl mixed [1,2,7,8,29,30] [] (fun m r h=>∃ (i:Nat) (ev:AV) (hp:af),r=[(1,[],.sl 1 none (ints line)),(2,[],.ai (aZ H)),(7,[],.ba fb 0),(8,[],.int .i64 (eK (G.take i):Nat)),(29,[],.int .i64 (ints line).length),(30,[],.int .i64 i)]/\h=(fb,.vec [ev,.aQ rb 0 (line.length+1) 1])::(rb,.vec (List.replicate (line.length+1) (.int .i64 (-1))))::hp/\m=line.length - i/\i<=line.length/\eK (G.take i)<=2000/\Out 1 kg (G.take i) ev hp) ?_ ?_
 ·(conv=>whnf);exact ⟨_,_,ah.refl _ _,_,0,_,[],by simp [eK],rfl,rfl,by omega,by simp [eK],.inl ⟨by simp,rfl,rfl⟩⟩
 rintro m r h' ⟨i,ev,hp,rfl,rfl,rfl,hi,wJ,ho⟩;(conv=>whnf);refine ⟨fun aG=>?_,fun aG=>?_⟩<;>simp at aG
 ·have As:=Ci i aG;have cd:=cN As;have ej:eK (G.take (i+1))=eK (G.take i)+(ei H line i).length:=(by rw [cd,Fg]);have ax:=Ff (g:=G) (i+1);(conv=>whnf);repeat (refine ⟨ag ⟨by omega,by omega⟩,?_⟩;conv=>whnf)
  rw [show (2000:Int) - ((eK (G.take i):Nat):Int)=((2000 - eK (G.take i):Nat):Int) by omega];refine ab.k0 (Nw H line i (2000 - eK (G.take i)) hH iE hL.aK hlen (by omega) (by omega)) ?_;by_cases Bm:(ei H line i).length<=2000 - eK (G.take i)
  ·rw [Nx Bm];have dM:((ei H line i).map bZ).length=(ei H line i).length:=List.length_map _;rcases ho with ⟨he,rfl,rfl⟩|⟨q,rfl,rfl⟩
   all_goals
    (conv=>whnf);repeat (refine ⟨ag ⟨by omega,by omega⟩,?_⟩;conv=>whnf)
    refine ⟨fun hz=>absurd (of_decide_eq_true hz) (by omega),fun hz=>?_⟩;(conv=>whnf);repeat ((first|refine ⟨ag ⟨by omega,by omega⟩,?_⟩|(refine ⟨Nat.le_of_ble_eq_true rfl,fun q'=>?_⟩)|(refine ⟨(by simp;unfold aN;omega),fun q'=>⟨_,.there (.there (.here _)),?_⟩⟩)|refine ⟨_,_,.head _,rfl,?_⟩|refine ⟨_,_,.here _,aI,?_⟩|refine ⟨_,_,.there (.here _),aI,?_⟩);conv=>whnf)
    rw [show ((eK (G.take i):Nat):Int)+((((ei H line i).map bZ).length:Nat):Int)=((eK (G.take (i+1)):Nat):Int) by rw [ej,dM,Int.natCast_add]];refine ⟨_,[(fb,.vec [.sl 1 (some q') ((G.take (i+1)).map kg),AV.aQ rb 0 (line.length+1) 1]),(rb,.vec (List.replicate (line.length+1) (.int .i64 (-1)))),(q',.tok)],?_,_,(by omega),i+1,_,[(q',.tok)],rfl,rfl,rfl,by omega,by omega,.inr ⟨q',rfl,rfl⟩⟩
    first
     | (rw [cd,he];exact ah.perm (List.perm_append_comm (l₁:=[_]) (l₂:=[_,_])))
     | (rw [cd,List.map_append];exact ah.refl _ _)
  have dM:((wk H line i (2000 - eK (G.take i))).map bZ).length=(wk H line i (2000 - eK (G.take i))).length:=List.length_map _;rw [Ny (by omega)] at dM;(conv=>whnf);repeat (refine ⟨ag ⟨by omega,by omega⟩,?_⟩;conv=>whnf)
  refine ⟨fun hz=>?_,fun hz=>absurd hz (by rw [decide_eq_false_iff_not];omega)⟩;have Tr:dU H line=2:=(by rw [hg,if_pos (by omega)]);(conv=>whnf);exact .inl ⟨by rw [Tr];decide,by rw [Tr]⟩
 rw [List.take_of_length_le (by omega)] at wJ ho;have cq:dU H line=0:=(by rw [hg,if_neg (by omega)]);have og:List.replicate (line.length+1) (AV.int .i64 (-1))=dq (line.length+1) (fun _=>.int .i64 (-1)):=(by rw [<- Je,Lm]);rw [og];(conv=>whnf);repeat ((first|(refine ⟨line.length,ag ⟨by rw [cO],by omega⟩,?_⟩)|(refine yR ?_ (.there (.here _)) ?_;(focus omega))|(refine ⟨ag ⟨by rw [cO];omega,by rw [cO];omega⟩,?_⟩)|refine ⟨_,_,.head _,rfl,?_⟩);conv=>whnf)
 rw [show dq (line.length+1) (fun j=>if j=0+line.length*1 then AV.int .i64 0 else .int .i64 (-1))=dq (line.length+1) (oA G line.length) from vp fun j hj=>by
  unfold oA;by_cases h:j=line.length
  ·rw [if_pos (by omega),if_pos (by omega),h,<- Fi,IK]
  rw [if_neg (by omega),if_neg (by omega)]]
 refine bD rfl mixed [7,11] [] (fun m r h=>∃ (a:Nat) (c:Int),r=[(7,[],.ba fb 0),(11,[],.int .i64 c)]/\h=(fb,.vec [ev,.aQ rb 0 (line.length+1) 1])::(rb,.vec (dq (line.length+1) (oA G a)))::hp/\m=a/\c=(a:Int) - 1/\a<=line.length) ?_ ?_
 ·(conv=>whnf);exact ⟨_,_,ah.refl _ _,_,line.length,_,rfl,rfl,rfl,by rw [cO],by omega⟩
 rintro a r h' ⟨a',c,rfl,rfl,rfl,lD,ha⟩;(conv=>whnf);refine ⟨fun dg=>?_,fun dg=>?_⟩<;>simp at dg
 ·obtain ⟨b,rfl⟩:∃ b,a=b+1:=⟨a - 1,by omega⟩;have eW:c=(b:Int):=(by omega);subst eW;have Gu:=Ci b (by omega);obtain ⟨es,bp⟩:∃ es,es=ei H line b:=⟨_,rfl⟩;rw [<- bp] at Gu;have gW:∀ x∈es,wF H b x/\b+x.word.ay.length<=line.length/\0<=x.cost/\x.cost<=18000:=fun x hx=>Fh hH hL.aK (by omega) x (by rw [<- bp];exact hx)
  have H9:∀ e∈G,∀ x∈e,0<=x.cost/\x.cost<=18000:=by
   intro e he x hx;obtain ⟨i,bw⟩:=List.mem_iff_getElem?.1 he;have jk:i<line.length:=by have:=(List.getElem?_eq_some_iff.1 bw).1;omega
   rw [Ci i jk] at bw;cases bw
   exact (Fh hH hL.aK (by omega) x hx).2.2
  have Rs:es.length<=2000:=by have h1:=Ff (g:=G) (b+1);rw [cN Gu,Fg] at h1;omega
  rcases ho with ⟨he,rfl,rfl⟩|⟨q,rfl,rfl⟩
  ·rw [he] at Fi;simp at Fi;omega
  (conv=>whnf);repeat ((first|refine ix (by assumption) ?_|refine ⟨_,_,.head _,rfl,?_⟩);conv=>whnf)
  rw [show dq (line.length+1) (oA G (b+1))=dq (line.length+1) (fun j=>if j=b then .int .i64 ((es.take 0).foldl (jJ (dV (G.drop (b+1)))) (-1)) else oA G (b+1) j) from vp fun j hj=>by
   by_cases h:j=b
   ·rw [if_pos h];unfold oA;rw [if_neg (by omega)];rfl
   rw [if_neg h]]
  refine bD rfl mixed [7,11,76,77,78] [] (fun m r h=>∃ (k:Nat),r=[(7,[],.ba fb 0),(11,[],.int .i64 b),(76,[],.sl 7 none (es.map bZ)),(77,[],.int .i64 (es.map bZ).length),(78,[],.int .i64 k)]/\h=(fb,.vec [.sl 1 (some q) (G.map kg),.aQ rb 0 (line.length+1) 1])::(rb,.vec (dq (line.length+1) (fun j=>if j=b then .int .i64 ((es.take k).foldl (jJ (dV (G.drop (b+1)))) (-1)) else oA G (b+1) j)))::[(q,.tok)]/\m=es.length - k/\k<=es.length) ?_ ?_
  ·(conv=>whnf);exact ⟨_,_,ah.refl _ _,_,0,rfl,rfl,rfl,by omega⟩
  rintro m r h' ⟨k,rfl,rfl,rfl,hk⟩;(conv=>whnf);refine ⟨fun bg=>?_,fun bg=>?_⟩<;>simp at bg
  ·obtain ⟨x,hx⟩:=aF bg;obtain ⟨Ts,oc,CC⟩:=gW x (List.mem_of_getElem? hx);have zc:=Ts.some;have jl:=Ts.to;have cd:=cN hx;obtain ⟨u,hu⟩:∃ u,u=x.word.ay.length:=⟨_,rfl⟩;rw [<- hu] at oc zc jl;obtain ⟨cur,jq⟩:∃ cur,cur=(es.take k).foldl (jJ (dV (G.drop (b+1)))) (-1):=⟨_,rfl⟩;obtain ⟨qv,Mh⟩:∃ qv,qv=eE G (b+u):=⟨_,rfl⟩;have I2:(dV (G.drop (b+1))).getD (x.word.ay.length - 1) 0=qv:=by have h1:=yD (G.drop (b+1)) (u - 1) (by rw [List.length_drop];omega);rw [II,show b+1+(u - 1)=b+u by omega,<- Mh] at h1;rw [List.getD,<- hu,h1];rfl
   have cz:(es.take (k+1)).foldl (jJ (dV (G.drop (b+1)))) (-1)=sQ qv cur x.cost:=by rw [cd,List.foldl_append,<- jq];show jJ _ cur x=_;unfold jJ;rw [I2]
   have jN:=Iq (G.drop (b+1)) fun e he=>H9 e (List.mem_of_mem_drop he);have Z0:-1<=qv/\qv<=18000*60:=by have h1:=yD (G.drop (b+1)) (u - 1) (by rw [List.length_drop];omega);rw [II,show b+1+(u - 1)=b+u by omega,<- Mh] at h1;have:=jN qv (List.mem_of_getElem? h1);rw [List.length_drop] at this;omega
   have uE:(fun j=>if j=b then AV.int .i64 cur else oA G (b+1) j) (0+(b+u)*1)=.int .i64 qv:=by show (if 0+(b+u)*1=b then _ else _)=_;rw [if_neg (by omega)];unfold oA;rw [if_pos (by omega),Mh,show 0+(b+u)*1=b+u by omega]
   have vq:(fun j=>if j=b then AV.int .i64 cur else oA G (b+1) j) (0+b*1)=.int .i64 cur:=by show (if 0+b*1=b then _ else _)=_;rw [if_pos (by omega)]
   rw [<- jq];(conv=>whnf);repeat ((first|refine ⟨ag ⟨by omega,by omega⟩,?_⟩|refine ix (by assumption) ?_|(refine ⟨b+u,ag ⟨by rw [jl];omega,by omega⟩,?_⟩)|(refine fy (i:=b) (by omega) ?_)|(refine sT (.int .i64 qv) (.tail _ (.head _)) rfl (by omega) uE ?_)|(refine sT (.int .i64 cur) (.tail _ (.head _)) rfl (by omega) vq ?_)|refine ⟨_,_,bj.here _,⟨Nat.le_of_ble_eq_true rfl,rfl⟩,?_⟩|refine ⟨_,_,.head _,rfl,?_⟩|refine And.intro (by show aJ (aH Tryz.f65 _) _=true;decide +kernel) ?_|intro (nb:Nat));conv=>whnf)
   refine ⟨fun hz=>?_,fun hz=>?_⟩
   ·have hn:sQ qv cur x.cost=x.cost+qv:=by unfold sQ;rw [if_pos hz]
    rw [hn] at cz;(conv=>whnf);repeat ((first|refine ⟨ag ⟨by omega,by omega⟩,?_⟩|(refine fy (i:=b) (by omega) ?_)|(refine yR ?_ (.there (.here _)) ?_;(focus omega))|refine ⟨_,_,.head _,rfl,?_⟩|refine And.intro (by show aJ (aH Tryz.f65 _) _=true;decide +kernel) ?_);conv=>whnf)
    refine ⟨_,_,ah.refl _ _,_,(by omega),k+1,rfl,?_,rfl,by omega⟩;rw [cz];refine H7 rfl (vp fun j hj=>?_);by_cases h:j=b
    ·rw [if_pos (by omega),if_pos h]
    rw [if_neg (by omega),if_neg h,if_neg h]
   have hn:sQ qv cur x.cost=cur:=by unfold sQ;rw [if_neg (by rw [hz];decide)]
   rw [hn] at cz;(conv=>whnf);repeat (refine ⟨ag ⟨by omega,by omega⟩,?_⟩;conv=>whnf)
   refine ⟨_,_,ah.refl _ _,_,(by omega),k+1,rfl,?_,rfl,by omega⟩;rw [cz]
  rw [List.take_of_length_le bg];have np:eE G b=es.foldl (jJ (dV (G.drop (b+1)))) (-1):=by unfold eE;rw [drop_cons Gu];rfl
  rw [<- np,show dq (line.length+1) (fun j=>if j=b then AV.int .i64 (eE G b) else oA G (b+1) j)=dq (line.length+1) (oA G b) from vp fun j hj=>by
   by_cases h:j=b
   ·rw [if_pos h];unfold oA;rw [if_pos (by omega),h]
   rw [if_neg h];unfold oA;by_cases h2:b<=j
   ·rw [if_pos (by omega),if_pos h2]
   rw [if_neg (by omega),if_neg h2]]
  (conv=>whnf);repeat (refine ⟨ag ⟨by omega,by omega⟩,?_⟩;conv=>whnf)
  exact ⟨_,_,ah.refl _ _,_,(by omega),b,_,rfl,rfl,rfl,rfl,by omega⟩
 have:a=0:=(by omega);subst this;(conv=>whnf);skip;exact .inr ⟨cq,fb,rb,ev,hp,rfl,ho,rfl⟩
end Go.Abs.Wall
namespace Go.Abs.Wall
open Go Go.Abs Go.Proofs
def Ax (G:List (List ar)) (R:List Int):List AV:=[.sl 1 none (G.map kg),.sl 1 none (ints R)]
def CG (H:aD) (line:List Int):AV:=if dU H line=0 then .ai (Ax (cZ H line) (dV (cZ H line))) else .jC
theorem I3 (G:List (List ar)) (n:Nat) (h:G.length=n):(List.range (n+1)).map (fun j=>[oA G 0 j])=ints (dV G):=by rw [H5,h];unfold ints;rw [List.map_map];refine List.map_congr_left fun j _=>?_;show [AV.int .i64 (if 0<=j then eE G j else -1)]=_;rw [if_pos (Nat.zero_le _)];rfl
theorem Vc (H:aD) (line:List Int) (iE:dx H) (hlen:line.length<=1048576):ab Tryz.prog 65 [.agg (aZ H),.sl 1 none (ints line)] [] (.aB [CG H line,.int .i64 (dU H line)]):=by
 have h0:=H8 H line iE hlen;have hl:(cZ H line).length=line.length:=(by simp [cZ]);refine ab.of (aw.Gl (R:=fun v h'=>(dU H line≠0/\v=.aB [.jC,.int .i64 (dU H line)])\/(dU H line=0/\∃ fb ev hp,v=.aB [.ba fb 0,.int .i64 0]/\Out 1 kg (cZ H line) ev hp/\h'=(fb,.vec [ev,.sl 1 none (ints (dV (cZ H line)))])::hp)) (aw.Gl h0 ?_) ?_)
 ·rintro v h1 (h|⟨hg,fb,rb,ev,hp,rfl,ho,rfl⟩)
  ·exact .inl (.inl h)
  refine .inr ⟨rb,_,_,(fb,.vec [ev,.sl 1 none (ints (dV (cZ H line)))])::hp,_,.there (.here _),.vec (.cons (.refl _) (.cons (YH (I3 _ _ hl).symm) .nil)) (jd.refl _),.refl _,.inr ⟨hg,fb,ev,hp,rfl,ho,rfl⟩⟩
 rintro v h1 (⟨hg,rfl⟩|⟨hg,fb,ev,hp,rfl,ho,rfl⟩)
 ·left;unfold CG;rw [if_neg hg];exact aa.refl _
 refine .inr ⟨fb,_,hp,hp,_,.here _,jd.refl _,.aB (.cons (.ptr rfl) (.cons (.refl _) .nil)),?_⟩;unfold CG;rw [if_pos hg,hg];exact aa.aB (.cons (aa.ai (.cons (Out.le (by decide) ho) (.cons (aa.refl _) .nil))) (.cons (aa.refl _) .nil))
def c155:av:=⟨[0,1,2,4,6,7,8,9,10,11,17,31],[],[],[],[(5,[0,1,2,3,4,5,6,7],[]),(8,[0,1,2,3,4,5,6,7,8,9,10,11,12,13,14,15],[])],[]⟩
def c156:av:=⟨[0,1,2,6,7,8,9,16,22,31,68],[],[],[],[(11,[0,1,2,3,4,5,6,7,8],[]),(15,[0,1,2,3,4,5,6,7,8],[])],[]⟩
def c113:av:=⟨[0,1,3,4],[],[],[],[(1,[0,1,2,3,4,5,6,7,8,9,10,11,12,13,14],[]),(2,[0,1,2,3,4,5,6,7,8,9,10,11],[])],[27]⟩
end Go.Abs.Wall
namespace Go.Abs.Wall
open Go Go.Abs Go.Proofs
def ins {α:Type} (cmp:α->α->Int) (a:α):List α->List α
 | []=>[a]
 | b::t=>if cmp b a<0 then b::ins cmp a t else a::b::t
def xo {α:Type} (cmp:α->α->Int):List α->List α
 | []=>[]
 | a::t=>ins cmp a (xo cmp t)
theorem Mi {α:Type} {cmp:α->α->Int} {a:α}:∀ {l:List α},(ins cmp a l).Perm (a::l)
 | []=>.refl _
 | b::t=>by
   unfold ins;split
   ·exact (List.Perm.cons _ Mi).trans (.swap _ _ _)
   exact .refl _
theorem Tt {α:Type} {cmp:α->α->Int}:∀ {l:List α},(xo cmp l).Perm l
 | []=>.refl _
 | a::t=>Mi.trans (List.Perm.cons _ Tt)
theorem Tu {α:Type} {cmp:α->α->Int} (h:pb cmp) {a:α}:∀ {l:List α},l.Pairwise (fun x y=>¬ cmp y x<0)->(ins cmp a l).Pairwise fun x y=>¬ cmp y x<0
 | [],_=>by simp [ins]
 | b::t,hl=>by
   rw [List.pairwise_cons] at hl;unfold ins;split
   ·rename_i hc;rw [List.pairwise_cons];refine ⟨fun x hx=>?_,Tu h hl.2⟩;rcases List.mem_cons.1 (Mi.mem_iff.1 hx) with rfl|hx
    ·exact fun h2=>h.ua _ (h.tr _ _ _ hc h2)
    exact hl.1 x hx
   rename_i hc;rw [List.pairwise_cons,List.pairwise_cons];refine ⟨fun x hx=>?_,hl⟩;rcases List.mem_cons.1 hx with rfl|hx
   ·exact hc
   exact h.nt _ _ _ (hl.1 x hx) hc
theorem Tv {α:Type} {cmp:α->α->Int} (h:pb cmp):∀ {l:List α},(xo cmp l).Pairwise fun x y=>¬ cmp y x<0
 | []=>.nil
 | a::t=>Tu h (Tv h)
theorem pb.xo {α:Type} {cmp:α->α->Int} (h:pb cmp) {l:List α} (ha:∀ x∈l,∀ y∈l,¬ cmp x y<0->¬ cmp y x<0->x=y):pz cmp l=Wall.xo cmp l:=(h.unique ha Tt (Tv h)).symm
theorem Xj (p:Int) (s:eN):rh p s=xo lQ (jS p s.values):=zU.c.w.xo fun x _ y _=>zU.c.yy x y
end Go.Abs.Wall
namespace Go.Abs.Wall
open Go Go.Abs Go.Proofs
def c32:av:=⟨[0,1,4,5,9],[],[4],[],[],[]⟩
def c14:av:=⟨[0,1,2],[4,7,10,13,16,19,22,26],[0,1,2],[],[],[4,7,10,13,16,19,22,26]⟩
theorem I4 (code t:List UInt8) (k:Int) (b:Nat):aw Tryz.prog 32 [.str code,.aQ b 0 1 4] [(b,.vec [.int .i64 k,.str t,.int .i64 0,.int .i64 0])] (fun v h'=>v=.agg (hZ ⟨code,1,1,false,[⟨k,t,1,1⟩]⟩)/\h'=[]):=by
 refine aw.ye (R:=fun v h'=>v=.agg [.str code,.int .i64 1,.int .i64 1,.bool false,.aQ b 0 1 4]/\h'=[(b,.vec [.int .i64 k,.str t,.int .i64 1,.int .i64 1])]) ?_ ?_
 ·refine aA (F:=Tryz.f32) c32 rfl rfl rfl mixed rfl fun X=>?_;(conv=>whnf);intro rb;(conv=>whnf);refine yz 60 rfl mixed ?_;(conv=>whnf);refine .inr ?_;(conv=>whnf);refine cT rfl ?_;(conv=>whnf);repeat ((first|refine ⟨ag ⟨by omega,by omega⟩,?_⟩|(refine ⟨0,ag ⟨rfl,by decide⟩,?_⟩)|(refine ⟨_,_,.there (.here _),aI,?_⟩));conv=>whnf)
  refine .inr ?_;(conv=>whnf);refine cF rfl ?_;(conv=>whnf);repeat (refine ⟨_,_,bj.here _,⟨Nat.le_of_ble_eq_true rfl,rfl⟩,?_⟩;conv=>whnf)
  exact ⟨rfl,rfl⟩
 rintro v h1 ⟨rfl,rfl⟩;exact ⟨b,_,[],[],_,.here _,.nil,.agg (.cons (.refl _) (.cons (.refl _) (.cons (.refl _) (.cons (.refl _) (.cons (.row (zq:=[]) (pre:=[]) (post:=[]) (xs:=[[.int .i64 k,.str t,.int .i64 1,.int .i64 1]]) rfl rfl rfl (by simp)) .nil))))),rfl,rfl⟩
theorem I5 (code t t2:List UInt8) (k k2:Int) (b:Nat):aw Tryz.prog 32 [.str code,.aQ b 0 2 4] [(b,.vec [.int .i64 k,.str t,.int .i64 0,.int .i64 0,.int .i64 k2,.str t2,.int .i64 0,.int .i64 0])] (fun v h'=>v=.agg (hZ ⟨code,1,1,false,[⟨k,t,1,1⟩,⟨k2,t2,1,1⟩]⟩)/\h'=[]):=by
 refine aw.ye (R:=fun v h'=>v=.agg [.str code,.int .i64 1,.int .i64 1,.bool false,.aQ b 0 2 4]/\h'=[(b,.vec [.int .i64 k,.str t,.int .i64 1,.int .i64 1,.int .i64 k2,.str t2,.int .i64 1,.int .i64 1])]) ?_ ?_
 ·refine aA (F:=Tryz.f32) c32 rfl rfl rfl mixed rfl fun X=>?_;(conv=>whnf);intro rb;(conv=>whnf);refine yz 60 rfl mixed ?_;(conv=>whnf);refine .inr ?_;(conv=>whnf);refine cT rfl ?_;(conv=>whnf);repeat ((first|refine ⟨ag ⟨by omega,by omega⟩,?_⟩|(refine ⟨0,ag ⟨rfl,by decide⟩,?_⟩)|(refine ⟨_,_,.there (.here _),aI,?_⟩));conv=>whnf)
  refine .inr ?_;(conv=>whnf);refine cT rfl ?_;(conv=>whnf);repeat ((first|refine ⟨ag ⟨by omega,by omega⟩,?_⟩|(refine ⟨1,ag ⟨rfl,by decide⟩,?_⟩)|(refine ⟨_,_,.there (.here _),aI,?_⟩));conv=>whnf)
  refine .inr ?_;(conv=>whnf);refine cF rfl ?_;(conv=>whnf);repeat (refine ⟨_,_,bj.here _,⟨Nat.le_of_ble_eq_true rfl,rfl⟩,?_⟩;conv=>whnf)
  exact ⟨rfl,rfl⟩
 rintro v h1 ⟨rfl,rfl⟩;exact ⟨b,_,[],[],_,.here _,.nil,.agg (.cons (.refl _) (.cons (.refl _) (.cons (.refl _) (.cons (.refl _) (.cons (.row (zq:=[]) (pre:=[]) (post:=[]) (xs:=[[.int .i64 k,.str t,.int .i64 1,.int .i64 1],[.int .i64 k2,.str t2,.int .i64 1,.int .i64 1]]) rfl rfl rfl (by simp)) .nil))))),rfl,rfl⟩
def xW (code:List UInt8) (l:List de):eN:=⟨code,1,1,false,l⟩
def mi:aD:=⟨⟨1,[xW [65,49] [⟨1,[110],1,1⟩],xW [66,49] [⟨1,[110,102,114],1,1⟩],xW [67,49] [⟨1,[102],1,1⟩],xW [68,49] [⟨1,[114],1,1⟩],
  xW [69,49] [⟨2,[110,102,114],1,1⟩],xW [70,49] [⟨3,[103,111,111,100],1,1⟩],xW [71,49] [⟨1,[116],1,1⟩],xW [72,49] [⟨1,[110],1,1⟩,⟨2,[110],1,1⟩]]⟩,
 ⟨[⟨[110,102,114],1,[103,111,111,100],2⟩,⟨[110],2,[],1⟩],[⟨1,[116],[102,101,109],1⟩],[⟨[102],[104,105,115],3⟩]⟩,⟨1,0,0,0,4⟩,1⟩
theorem Xo:ab Tryz.prog 14 [] [] (.agg (aZ mi)):=by
 refine ab.AL ?_;refine aA (F:=Tryz.f14) c14 rfl rfl rfl mixed rfl fun X=>?_;(conv=>whnf);intro rb;(conv=>whnf);repeat ((first|(intro (nb:Nat))|(refine aw.mono ?_ (aw.frame (I4 _ _ _ _) _);rintro v h1 ⟨h2,⟨rfl,rfl⟩,rfl⟩)|(refine aw.mono ?_ (aw.frame (I5 _ _ _ _ _ _) _);rintro v h1 ⟨h2,⟨rfl,rfl⟩,rfl⟩)|refine ⟨_,_,bj.here _,⟨Nat.le_of_ble_eq_true rfl,rfl⟩,?_⟩);conv=>whnf)
 rfl
def AU (to cost:Int) (l:List az):ar:=⟨0,to,cost,⟨⟨0,-1,[]⟩,l⟩⟩
def c115:av:=⟨[0,1,2],[1],[2],[],[],[]⟩
theorem Of (w:eJ) (h1:w.form.ao.length<=aN) (h2:w.ay.length<=aN):ab Tryz.prog 115 [.agg (cG w)] [] (.agg (cG w)):=by
 refine ab.AL ?_;refine aA (F:=Tryz.f115) c115 rfl rfl rfl mixed rfl fun X=>?_;(conv=>whnf);intro b1;(conv=>whnf);intro b2;(conv=>whnf);repeat ((first|refine ab.k0 (LZ w.form.ao h1) ?_|refine ab.k0 (B8 w.ay h2) ?_|refine ⟨_,_,bj.here _,⟨Nat.le_of_ble_eq_true rfl,rfl⟩,?_⟩|refine ⟨_,_,.tail _ (.head _),rfl,?_⟩|refine ⟨_,_,.there (.here _),aI,?_⟩);conv=>whnf)
 rfl
end Go.Abs.Wall
namespace Go.Abs.Wall
open Go Go.Abs Go.Proofs
def c66:av:=⟨[0,2,3,4,5,6,7,8,16,17,18,29,30,31,32,45],[11,22],[7],[],[(9,[0,1,2,3,4,5,6,7,8],[]),(11,[0,1,2,3,4,5,6,7,8,9],[])],[55]⟩
def c114:av:=⟨[0,1,2,6,7,8,9,10,11,12,22,39,43,83,105],[],[9,10,11],[],[(7,[0,1,2,3,4,5,6,7,8,9,10,11,12,13],[9]),(8,[0,1,2,3,4,5,6,7,8,9,10,11,12,13,14,15],[10]),(11,[0,1,2,3,4,5,6,7,8,9,10,11,12,13,14],[]),(14,[0,1,2,3,4,5,6,7,8,9,10,11,12,13,14,15,16],[])],[]⟩
end Go.Abs.Wall
namespace Go.Abs.Wall
open Go Go.Abs Go.Proofs
structure ue where
 words:List eJ
 cost:Int
def km (r:ue):List AV:=[.sl 4 none (r.words.map cG),.int .i64 r.cost]
def c67:av:=⟨[0,1,4,5,6,7,8,17,31],[],[8],[],[(7,[0,1,2,3,4,5,6,7,8,9,10,11,12,13,14,15],[8]),(8,[0,1,2,3,4,5,6,7,8],[])],[]⟩
def c35:av:=⟨[0,1,2,3,6,7,8,9,10,11,12,20,24,27,28,29,38,46],[],[11],[],[],[]⟩
def c16:av:=⟨[0,1,2,4,5,6,7,15],[],[],[],[],[]⟩
end Go.Abs.Wall
