/- What is proved: small laws for the walks of this seat, and contracts of its functions. No condition but those each theorem names. -/
import Derived.Test.YtbmcnieifibckaaGreatN6
set_option maxRecDepth 100000
set_option maxHeartbeats 2000000
set_option linter.unusedVariables false
set_option linter.unusedSimpArgs false
namespace Go.Abs.Wall
open Go Go.Abs Go.Proofs
theorem wrap64 {n:Int} (h0:0<=n) (h1:n<4294967296):IntKind.u64.wrap n=n:=by simp [IntKind.wrap,IntKind.signed,IntKind.bits];omega
def c160:aw:=⟨[0,1,4,5,6,7,8,9],[],[],[],[],[]⟩
def c226:aw:=⟨[0,1,4,5,6,7,8,9,10,11,12,13],[],[],[],[],[]⟩
def c96:aw:=⟨[0,1,4,5,6,7,8,10,26,37],[],[],[],[(9,[0,1,2,3,4,5,6,7,8,9],[])],[]⟩
theorem D5 (n:Int) (h0:0<=n) (h1:n<=1048577):ae Tryz.prog 226 [.int .u64 1,.int .u64 n] [] (.aQ [.int .u64 0,.int .u64 n]):=by
 have w1:IntKind.u64.wrap (1*n)=n:=by rw [Int.one_mul];exact wrap64 h0 (by omega)
 have w2:IntKind.u64.wrap (0*n)=0:=by rw [Int.zero_mul];exact wrap64 (by omega) (by omega)
 have w3:IntKind.u64.wrap (1*0)=0:=wrap64 (by omega) (by omega);have w4:IntKind.u64.wrap (0*0)=0:=wrap64 (by omega) (by omega);have w5:IntKind.u64.wrap (0+0)=0:=wrap64 (by omega) (by omega);refine aG (F:=Tryz.f226) c226 rfl rfl rfl mixed rfl fun X=>?_;(conv=>whnf);repeat ((refine ⟨af ⟨⟨rfl,rfl⟩,⟨by first|omega|(rw [w1];omega)|(rw [w2,w5];omega)|(rw [w2,w5,w3,w5];omega),by first|omega|(rw [w1];omega)|(rw [w2,w5];omega)|(rw [w2,w5,w3,w5];omega)⟩,rfl⟩,?_⟩);conv=>whnf)
 refine ⟨?_,rfl⟩;rw [w1,w4,w5,w5]
theorem D6 (n:Int) (h0:0<=n) (h1:n<=1048577):ae Tryz.prog 160 [.int .u64 1,.int .u64 n] [] (.aQ [.int .u64 0,.int .u64 n]):=by
 refine aG (F:=Tryz.f160) c160 rfl rfl rfl mixed rfl fun X=>?_;(conv=>whnf);refine cF rfl ?_;(conv=>whnf);repeat (refine ae.k0 (D5 n h0 h1) ?_;conv=>whnf)
 exact ⟨rfl,rfl⟩
def mu (n m:Nat) (v:Int):List AV:=List.replicate m (.int .i64 v)++List.replicate (n - m) (.int .i64 0)
theorem SF {n m:Nat} {v:Int} (h:m<=n):(mu n m v).length=n:=by unfold mu;simp;omega
theorem SG {n m c:Nat} {v:Int} (h:m+c<=n):cY (mu n m v) m (List.replicate c (.int .i64 v))=mu n (m+c) v:=by
 unfold cY mu;rw [List.take_append_of_le_length (by simp),List.take_of_length_le (by simp),List.length_replicate,List.drop_append,List.drop_eq_nil_of_le (by simp),List.nil_append,List.length_replicate,List.drop_replicate];congr 1
 ·rw [List.replicate_append_replicate]
 congr 1;omega
theorem D7 {n:Nat} {v:Int}:mu n n v=List.replicate n (.int .i64 v):=by unfold mu;simp
theorem D8 (v:Int) (n:Nat) (h1:1<=n) (h2:n<=1048577):ay Tryz.prog 96 [.sl 1 none [[.int .i64 v]],.int .i64 n] [] (fun w h'=>∃ b,w=.aR b 0 n 1/\h'=[(b,.vec (List.replicate n (.int .i64 v)))]):=by
 refine aG (F:=Tryz.f96) c96 rfl rfl rfl mixed rfl fun X=>?_;(conv=>whnf);refine ⟨fun h=>absurd (of_decide_eq_true h) (by omega),fun h=>?_⟩;(conv=>whnf);skip;rw [show IntKind.u64.wrap ((([[AV.int .i64 v]]:List (List AV)).length:Nat):Int)=1 from wrap64 (by simp) (by simp),show IntKind.u64.wrap (n:Int)=n from wrap64 (by omega) (by omega)];refine ae.k0 (D6 n (by omega) (by omega)) ?_;(conv=>whnf);refine cF (by simp;omega) ?_;(conv=>whnf);repeat ((first|refine ⟨af ⟨by omega,by omega⟩,?_⟩|(refine ⟨⟨by omega,by omega,by omega⟩,fun b=>?_⟩));conv=>whnf)
 rw [show iY (n:Int).toNat [AV.int .i64 0]=mu n 0 v by rw [show (n:Int).toNat=n from rfl,Ka];simp [mu],show (n:Int).toNat=n from rfl];refine ⟨_,_,.here _,⟨by simp,by simp;omega,by rw [SF (by omega)];simp;omega⟩,?_⟩;rw [show cY (mu n 0 v) 0 [[AV.int .i64 v]].flatten=mu n 1 v from SG (m:=0) (c:=1) (by omega)];(conv=>whnf);skip;refine bM rfl mixed [7,8] [] (fun m r h=>∃ (q:Nat),r=[(7,[],.aR b 0 n 1),(8,[],.int .i64 q)]/\h=[(b,.vec (mu n q v))]/\m=n - q/\1<=q/\q<=n) ?_ ?_
 ·(conv=>whnf);exact ⟨_,1,rfl,rfl,rfl,by omega,by omega⟩
 rintro x r h' ⟨q,rfl,rfl,rfl,Ns,W8⟩;(conv=>whnf);refine ⟨fun hf=>?_,fun hf=>?_⟩<;>simp at hf
 ·(conv=>whnf);repeat ((first|refine ⟨af ⟨by omega,by omega⟩,?_⟩|refine And.intro (by show aJ (aH Tryz.f96 _) _=true;decide +kernel) ?_);conv=>whnf)
  obtain ⟨c,hc⟩:∃ c,c=min q (n - q):=⟨_,rfl⟩;have hm:min ((q:Int).toNat - Int.toNat 0) ((n:Int).toNat - (q:Int).toNat)=c:=by rw [hc];show min (q - 0) (n - q)=_;rw [Nat.sub_zero]
  have eO:(List.replicate c [AV.int .i64 v]).flatten=List.replicate c (.int .i64 v):=(by simp);rw [hm];refine ⟨mu n q v,List.replicate c [.int .i64 v],.head _,⟨?_,by intro z hz;rw [List.mem_replicate] at hz;rw [hz.2];rfl,by simp⟩,mu n q v,_,.here _,⟨by omega,?_⟩,?_⟩
  ·rw [eO];show List.take (c*1) (List.drop 0 (mu n q v))=_;rw [List.drop_zero,Nat.mul_one];unfold mu;rw [List.take_append_of_le_length (by simp;omega),List.take_replicate];congr 1;omega
  ·rw [eO,SF (by omega)];show 0+q*1+_<=n;simp;omega
  rw [eO,show cY (mu n q v) (0+(q:Int).toNat*1) (List.replicate c (.int .i64 v))=mu n (q+c) v by rw [show 0+(q:Int).toNat*1=q by omega];exact SG (by omega)];(conv=>whnf);repeat (refine ⟨af ⟨by omega,by omega⟩,?_⟩;conv=>whnf)
  exact ⟨_,by omega,q+c,rfl,rfl,rfl,by omega,by omega⟩
 have:n=q:=(by omega);subst this;(conv=>whnf);exact ⟨b,rfl,by rw [D7]⟩
end Go.Abs.Wall
namespace Go.Abs.Wall
open Go Go.Abs Go.Proofs
def cD (H:ax) (line:List Int) (at_:Nat):List az:=jZ (ln H (mA H line at_) at_)
def dn (H:ax) (line:List Int):List (List az):=(List.range line.length).map (cD H line)
def eu (g:List (List az)):Nat:=(g.map List.length).sum
def ed (H:ax) (line:List Int):Int:=if eb H line≠0 then eb H line else if 2000<eu (dn H line) then 2 else 0
def rU (q cur cost:Int):Int:=if (!decide (q = -1)&&(decide (cur = -1)||decide (cost+q<cur)))=true then cost+q else cur
def jC (t:List Int) (r:Int) (x:az):Int:=rU (t.getD (x.word.aj.length - 1) 0) r x.cost
def dJ:List (List az)->List Int
 | []=>[0]
 | es::g=>es.foldl (jC (dJ g)) (-1)::dJ g
def ij (g:List (List az)) (i:Nat):Int:=(dJ (g.drop i)).headD 0
theorem SH:∀ g,(dJ g).length=g.length+1
 | []=>rfl
 | es::g=>by simp [dJ,SH g]
theorem xN:∀ (g:List (List az)) (i:Nat),i<=g.length->(dJ g)[i]?=some (ij g i)
 | [],i,h=>by have:i=0:=(by simpa using h);subst this;rfl
 | es::g,0,_=>by simp [dJ,ij]
 | es::g,i+1,h=>by have:=xN g i (by simpa using h);simp only [dJ,List.getElem?_cons_succ];rw [this];rfl
theorem Hy (g:List (List az)) (a i:Nat):ij (g.drop a) i=ij g (a+i):=by unfold ij;rw [List.drop_drop]
theorem MU (g:List (List az)):ij g g.length=0:=by unfold ij;rw [List.drop_length];rfl
theorem D9 (g:List (List az)):dJ g=(List.range (g.length+1)).map (ij g):=by
 refine List.ext_getElem? fun i=>?_;by_cases h:i<=g.length
 ·rw [xN g i h,List.getElem?_map,List.getElem?_range (by omega)];rfl
 rw [List.getElem?_eq_none (by rw [SH];omega),List.getElem?_eq_none (by simp;omega)]
theorem E0 {q cur cost B:Int} (h1:-1<=q) (h2:q<=B) (h3:-1<=cur) (h4:cur<=B+18000) (h5:0<=cost) (h6:cost<=18000):-1<=rU q cur cost/\rU q cur cost<=B+18000:=by
 unfold rU;split
 ·omega
 omega
theorem SI {t:List Int} {B:Int} (hB:0<=B) (ht:∀ v∈t,-1<=v/\v<=B):∀ (es:List az) (r:Int),-1<=r->r<=B+18000->(∀ x∈es,0<=x.cost/\x.cost<=18000)->-1<=es.foldl (jC t) r/\es.foldl (jC t) r<=B+18000
 | [],r,h1,h2,_=>⟨h1,h2⟩
 | x::es,r,h1,h2,hx=>by
   have hq:-1<=t.getD (x.word.aj.length - 1) 0/\t.getD (x.word.aj.length - 1) 0<=B:=by
    by_cases h:x.word.aj.length - 1<t.length
    ·have:=ht _ (List.getElem_mem h);simp [List.getD,List.getElem?_eq_getElem h];exact this
    simp [List.getD,List.getElem?_eq_none (Nat.le_of_not_lt h)];omega
   have hc:=hx x (by simp);obtain ⟨h3,h4⟩:=E0 hq.1 hq.2 h1 h2 hc.1 hc.2;exact SI hB ht es _ h3 h4 fun y hy=>hx y (by simp [hy])
theorem Hd:∀ (g:List (List az)),(∀ es∈g,∀ x∈es,0<=x.cost/\x.cost<=18000)->∀ v∈dJ g,-1<=v/\v<=18000*(g.length:Int)
 | [],_,v,hv=>by simp [dJ] at hv;subst hv;simp
 | es::g,h,v,hv=>by
   have ih:=Hd g fun e he=>h e (by simp [he]);simp only [dJ,List.mem_cons] at hv;rcases hv with rfl|hv
   ·have:=SI (B:=18000*(g.length:Int)) (by omega) ih es (-1) (by omega) (by omega) (h es (by simp));simp only [List.length_cons];omega
   have:=ih v hv;simp only [List.length_cons];omega
theorem SJ {E:Env}:∀ (rest:List (List ao)) (p:bg) (T:List ao),∀ e∈eR E rest p T,e.word.aj.length<=T.length+rest.length
 | [],_,_,e,he=>by cases he
 | us::r,p,T,e,he=>by
   unfold eR at he;rw [List.mem_flatMap] at he;obtain ⟨u,DO,he⟩:=he;rw [List.mem_flatMap] at he;obtain ⟨q,hq,he⟩:=he;rw [List.length_cons];rcases List.mem_append.1 he with he|he
   ·unfold jy at he;split at he
    ·cases List.mem_singleton.1 he
     show (T++[u]).length<=_;rw [List.length_append,List.length_singleton];omega
    cases he
   have:=SJ r q (T++[u]) e he;rw [List.length_append,List.length_singleton] at this;omega
theorem Hb {H:ax} (hH:ic H) {line:List Int} (hl:∀ s∈line,0<=s/\s<H.list.aB.length) {at_:Nat} (cR:at_<=line.length):∀ x∈cD H line at_,vQ H at_ x/\at_+x.word.aj.length<=line.length/\0<=x.cost/\x.cost<=18000:=by
 intro x hx;unfold cD jZ at hx;rw [HZ] at hx;obtain ⟨uq,ur⟩:=SE hH (line:=line) (at_:=at_) hl;have h1:=DP hH uq ur x hx;have h2:=Jr hH (w:=x.word);have h3:=h1.bE;refine ⟨h1,?_,by rw [h1.cost];omega,by rw [h1.cost];omega⟩;unfold ln at hx;rw [List.mem_flatMap] at hx;obtain ⟨i,hi,hx⟩:=hx;unfold lY at hx;rw [List.mem_flatMap] at hx;obtain ⟨k,hk,hx⟩:=hx;unfold gh at hx;split at hx
 ·cases hx
 unfold cN at hx;rw [zf,List.nil_append] at hx;have:=SJ _ _ _ x hx;unfold mA at this;simp at this;omega
theorem DZ {g:List (List az)} {l:List az}:eu (g++[l])=eu g+l.length:=by unfold eu;simp
theorem DY {g:List (List az)} (i:Nat):eu (g.take i)<=eu g:=by
 have h1:eu (g.take i++g.drop i)=eu (g.take i)+eu (g.drop i):=by unfold eu;rw [List.map_append,List.sum_append]
 rw [List.take_append_drop] at h1;omega
theorem Ms {H:ax} {line:List Int} {at_ most:Nat} (h:(cD H line at_).length<=most):vC H line at_ most=cD H line at_:=by unfold cD jZ at h;rw [rN] at h;unfold vC cD;rw [List.take_of_length_le (by omega)]
theorem Mt {H:ax} {line:List Int} {at_ most:Nat} (h:most<(cD H line at_).length):(vC H line at_ most).length=most+1:=by unfold cD jZ at h;rw [rN] at h;unfold vC jZ;rw [rN,List.length_take];omega
def oW (es:List az):List AV:=[.sl 7 none (es.map cx)]
theorem ag.au {xs ys:List AV} (h:cP xs ys):ag (.au xs) (.au ys):=by intro c u hu;simp only [aa] at hu ⊢;obtain ⟨b,o,hv,hr⟩:=hu;exact ⟨b,o,hv,h.Kb hr⟩
structure qR (H:ax) (line:List Int):Prop where
 jc:ic H
 bE:line.length<=60
 aB:∀ s∈line,0<=s/\s<H.list.aB.length
theorem qS {H:ax} {line:List Int} (h:eb H line=0):qR H line:=by
 unfold eb at h;split at h
 ·rename_i h1;exact absurd h h1
 rename_i h1;split at h
 ·cases h
 split at h
 ·cases h
 rename_i h2 h3;rw [Bool.not_eq_true,List.any_eq_false] at h3;refine ⟨ve (by omega),by omega,fun s hs=>?_⟩;have:=h3 s hs;rw [Bool.not_eq_true,Bool.not_eq_false',dS] at this;omega
end Go.Abs.Wall
namespace Go.Abs.Wall
open Go Go.Abs Go.Proofs
theorem E1 {a b:Nat} {x x' y y':List AV} {z:ab} (hx:x=x') (hy:y=y'):(a,Ob.vec x)::(b,Ob.vec y)::z=(a,Ob.vec x')::(b,Ob.vec y')::z:=by subst hx;subst hy;rfl
def nS (G:List (List az)) (a:Nat) (j:Nat):AV:=.int .i64 (if a<=j then ij G j else -1)
def c146:aw:=⟨[0,1,2,4,5,6,7,8,9,10,11,13,14,19,29,30,31,44,67,76,77,78,79,115],[27],[13],[],[(22,[0,1,2,3,4,5,6,7,8],[]),(23,[0,1,2,3,4,5,6,7,8,9,10,11,12,13,14,15,16,17,18,19,20,21,22,23,24,25],[]),(24,[0,1,2,3,4,5,6,7,8,9,10],[])],[]⟩
set_option maxHeartbeats 2000000 in
theorem E2 (H:ax) (line:List Int) (gi:eP H) (hlen:line.length<=1048576) :
  ay Tryz.prog 146 [.agg (bJ H),.sl 1 none (ints line)] [] (fun v h'=>(ed H line≠0/\v=.aQ [.jV,.int .i64 (ed H line)])\/(ed H line=0/\∃ fb rb ev hp,v=.aQ [.bn fb 0,.int .i64 0]/\Out 1 oW (dn H line) ev hp/\h'=(fb,.vec [ev,.aR rb 0 (line.length+1) 1])::(rb,.vec (dY (line.length+1) (nS (dn H line) 0)))::hp)):=by
 have BM:line.length<=aq:=by unfold aq;omega
 refine aG (F:=Tryz.f146) c146 rfl rfl rfl mixed rfl fun X=>?_;(conv=>whnf);repeat (refine ae.k0 (GY H line gi BM) ?_;conv=>whnf)
 refine ⟨fun hc=>?_,fun hc=>?_⟩<;>simp at hc
 ·have hg:ed H line=eb H line:=(by rw [ed,if_pos hc]);(conv=>whnf);exact .inl ⟨by rw [hg];exact hc,by rw [hg]⟩
 have hL:=qS hc;have hH:=hL.jc;have dI:=hL.bE;have hg:ed H line=if 2000<eu (dn H line) then 2 else 0:=(by rw [ed,if_neg (by omega)]);obtain ⟨G,hG⟩:∃ G,G=dn H line:=⟨_,rfl⟩;have Ea:G.length=line.length:=by rw [hG];simp [dn]
 have Bp:∀ i,i<line.length->G[i]?=some (cD H line i):=fun i hi=>by rw [hG,dn,List.getElem?_map,List.getElem?_range hi];rfl
 rw [<- hG] at hg ⊢;(conv=>whnf);repeat ((refine ⟨af ⟨by rw [dB];omega,by rw [dB];omega⟩,?_⟩);conv=>whnf)
 rw [dB,show ((line.length:Nat):Int)+1=((line.length+1:Nat):Int) from rfl];refine ay.mono ?_ (D8 (-1) (line.length+1) (by omega) (by omega));rintro w h1 ⟨rb,rfl,rfl⟩;(conv=>whnf);intro fb;(conv=>whnf);skip;refine cy rfl mixed [1,2,7,8,29,30] [] (fun m r h=>∃ (i:Nat) (ev:AV) (hp:ab),r=[(1,[],.sl 1 none (ints line)),(2,[],.au (bJ H)),(7,[],.bn fb 0),(8,[],.int .i64 (eu (G.take i):Nat)),(29,[],.int .i64 (ints line).length),(30,[],.int .i64 i)]/\h=(fb,.vec [ev,.aR rb 0 (line.length+1) 1])::(rb,.vec (List.replicate (line.length+1) (.int .i64 (-1))))::hp/\m=line.length - i/\i<=line.length/\eu (G.take i)<=2000/\Out 1 oW (G.take i) ev hp) ?_ ?_
 ·(conv=>whnf);exact ⟨_,_,ar.refl _ _,_,0,_,[],by simp [eu],rfl,rfl,by omega,by simp [eu],.inl ⟨by simp,rfl,rfl⟩⟩
 rintro m r h' ⟨i,ev,hp,rfl,rfl,rfl,hi,vU,ho⟩;(conv=>whnf);refine ⟨fun aD=>?_,fun aD=>?_⟩<;>simp at aD
 ·have Hc:=Bp i aD;have ch:=dg Hc;have gJ:eu (G.take (i+1))=eu (G.take i)+(cD H line i).length:=(by rw [ch,DZ]);have aA:=DY (g:=G) (i+1);(conv=>whnf);repeat (refine ⟨af ⟨by omega,by omega⟩,?_⟩;conv=>whnf)
  rw [show (2000:Int) - ((eu (G.take i):Nat):Int)=((2000 - eu (G.take i):Nat):Int) by omega];refine ae.k0 (Mr H line i (2000 - eu (G.take i)) hH gi hL.aB hlen (by omega) (by omega)) ?_;by_cases E3:(cD H line i).length<=2000 - eu (G.take i)
  ·rw [Ms E3];have jf:((cD H line i).map cx).length=(cD H line i).length:=List.length_map _;rcases ho with ⟨he,rfl,rfl⟩|⟨q,rfl,rfl⟩
   all_goals
    (conv=>whnf);repeat (refine ⟨af ⟨by omega,by omega⟩,?_⟩;conv=>whnf)
    refine ⟨fun hz=>absurd (of_decide_eq_true hz) (by omega),fun hz=>?_⟩;(conv=>whnf);repeat ((first|refine ⟨af ⟨by omega,by omega⟩,?_⟩|(refine ⟨Nat.le_of_ble_eq_true rfl,fun q'=>?_⟩)|(refine ⟨(by simp;unfold aV;omega),fun q'=>⟨_,.there (.there (.here _)),?_⟩⟩)|refine ⟨_,_,.head _,rfl,?_⟩|refine ⟨_,_,.here _,aF,?_⟩|refine ⟨_,_,.there (.here _),aF,?_⟩);conv=>whnf)
    rw [show ((eu (G.take i):Nat):Int)+((((cD H line i).map cx).length:Nat):Int)=((eu (G.take (i+1)):Nat):Int) by rw [gJ,jf,Int.natCast_add]];refine ⟨_,[(fb,.vec [.sl 1 (some q') ((G.take (i+1)).map oW),AV.aR rb 0 (line.length+1) 1]),(rb,.vec (List.replicate (line.length+1) (.int .i64 (-1)))),(q',.tok)],?_,_,(by omega),i+1,_,[(q',.tok)],rfl,rfl,rfl,by omega,by omega,.inr ⟨q',rfl,rfl⟩⟩
    first
     | (rw [ch,he];exact ar.perm (List.perm_append_comm (l₁:=[_]) (l₂:=[_,_])))
     | (rw [ch,List.map_append];exact ar.refl _ _)
  have jf:((vC H line i (2000 - eu (G.take i))).map cx).length=(vC H line i (2000 - eu (G.take i))).length:=List.length_map _;rw [Mt (by omega)] at jf;(conv=>whnf);repeat (refine ⟨af ⟨by omega,by omega⟩,?_⟩;conv=>whnf)
  refine ⟨fun hz=>?_,fun hz=>absurd hz (by rw [decide_eq_false_iff_not];omega)⟩;have SK:ed H line=2:=(by rw [hg,if_pos (by omega)]);(conv=>whnf);exact .inl ⟨by rw [SK];decide,by rw [SK]⟩
 rw [List.take_of_length_le (by omega)] at vU ho;have ck:ed H line=0:=(by rw [hg,if_neg (by omega)]);have wQ:List.replicate (line.length+1) (AV.int .i64 (-1))=dY (line.length+1) (fun _=>.int .i64 (-1)):=(by rw [<- Nt,Ka]);rw [wQ];(conv=>whnf);repeat ((first|(refine ⟨line.length,af ⟨by rw [dB],by omega⟩,?_⟩)|(refine BK ?_ (.there (.here _)) ?_;(focus omega))|(refine ⟨af ⟨by rw [dB];omega,by rw [dB];omega⟩,?_⟩)|refine ⟨_,_,.head _,rfl,?_⟩);conv=>whnf)
 rw [show dY (line.length+1) (fun j=>if j=0+line.length*1 then AV.int .i64 0 else .int .i64 (-1))=dY (line.length+1) (nS G line.length) from xW fun j hj=>by
  unfold nS;by_cases h:j=line.length
  ·rw [if_pos (by omega),if_pos (by omega),h,<- Ea,MU]
  rw [if_neg (by omega),if_neg (by omega)]]
 refine cy rfl mixed [7,11] [] (fun m r h=>∃ (a:Nat) (c:Int),r=[(7,[],.bn fb 0),(11,[],.int .i64 c)]/\h=(fb,.vec [ev,.aR rb 0 (line.length+1) 1])::(rb,.vec (dY (line.length+1) (nS G a)))::hp/\m=a/\c=(a:Int) - 1/\a<=line.length) ?_ ?_
 ·(conv=>whnf);exact ⟨_,_,ar.refl _ _,_,line.length,_,rfl,rfl,rfl,by rw [dB],by omega⟩
 rintro a r h' ⟨a',c,rfl,rfl,rfl,jF,ha⟩;(conv=>whnf);refine ⟨fun cI=>?_,fun cI=>?_⟩<;>simp at cI
 ·obtain ⟨b,rfl⟩:∃ b,a=b+1:=⟨a - 1,by omega⟩;have fH:c=(b:Int):=(by omega);subst fH;have Lf:=Bp b (by omega);obtain ⟨es,bp⟩:∃ es,es=cD H line b:=⟨_,rfl⟩;rw [<- bp] at Lf;have uM:∀ x∈es,vQ H b x/\b+x.word.aj.length<=line.length/\0<=x.cost/\x.cost<=18000:=fun x hx=>Hb hH hL.aB (by omega) x (by rw [<- bp];exact hx)
  have E4:∀ e∈G,∀ x∈e,0<=x.cost/\x.cost<=18000:=by
   intro e he x hx;obtain ⟨i,bO⟩:=List.mem_iff_getElem?.1 he;have kc:i<line.length:=by have:=(List.getElem?_eq_some_iff.1 bO).1;omega
   rw [Bp i kc] at bO;cases bO
   exact (Hb hH hL.aB (by omega) x hx).2.2
  have W9:es.length<=2000:=by have h1:=DY (g:=G) (b+1);rw [dg Lf,DZ] at h1;omega
  rcases ho with ⟨he,rfl,rfl⟩|⟨q,rfl,rfl⟩
  ·rw [he] at Ea;simp at Ea;omega
  (conv=>whnf);repeat ((first|refine ix (by assumption) ?_|refine ⟨_,_,.head _,rfl,?_⟩);conv=>whnf)
  rw [show dY (line.length+1) (nS G (b+1))=dY (line.length+1) (fun j=>if j=b then .int .i64 ((es.take 0).foldl (jC (dJ (G.drop (b+1)))) (-1)) else nS G (b+1) j) from xW fun j hj=>by
   by_cases h:j=b
   ·rw [if_pos h];unfold nS;rw [if_neg (by omega)];rfl
   rw [if_neg h]]
  refine cy rfl mixed [7,11,76,77,78] [] (fun m r h=>∃ (k:Nat),r=[(7,[],.bn fb 0),(11,[],.int .i64 b),(76,[],.sl 7 none (es.map cx)),(77,[],.int .i64 (es.map cx).length),(78,[],.int .i64 k)]/\h=(fb,.vec [.sl 1 (some q) (G.map oW),.aR rb 0 (line.length+1) 1])::(rb,.vec (dY (line.length+1) (fun j=>if j=b then .int .i64 ((es.take k).foldl (jC (dJ (G.drop (b+1)))) (-1)) else nS G (b+1) j)))::[(q,.tok)]/\m=es.length - k/\k<=es.length) ?_ ?_
  ·(conv=>whnf);exact ⟨_,_,ar.refl _ _,_,0,rfl,rfl,rfl,by omega⟩
  rintro m r h' ⟨k,rfl,rfl,rfl,hk⟩;(conv=>whnf);refine ⟨fun bo=>?_,fun bo=>?_⟩<;>simp at bo
  ·obtain ⟨x,hx⟩:=aN bo;obtain ⟨SL,py,Ek⟩:=uM x (List.mem_of_getElem? hx);have uQ:=SL.some;have gz:=SL.to;have ch:=dg hx;obtain ⟨u,hu⟩:∃ u,u=x.word.aj.length:=⟨_,rfl⟩;rw [<- hu] at py uQ gz;obtain ⟨cur,jl⟩:∃ cur,cur=(es.take k).foldl (jC (dJ (G.drop (b+1)))) (-1):=⟨_,rfl⟩;obtain ⟨qv,Lg⟩:∃ qv,qv=ij G (b+u):=⟨_,rfl⟩;have E5:(dJ (G.drop (b+1))).getD (x.word.aj.length - 1) 0=qv:=by have h1:=xN (G.drop (b+1)) (u - 1) (by rw [List.length_drop];omega);rw [Hy,show b+1+(u - 1)=b+u by omega,<- Lg] at h1;rw [List.getD,<- hu,h1];rfl
   have bZ:(es.take (k+1)).foldl (jC (dJ (G.drop (b+1)))) (-1)=rU qv cur x.cost:=by rw [ch,List.foldl_append,<- jl];show jC _ cur x=_;unfold jC;rw [E5]
   have jI:=Hd (G.drop (b+1)) fun e he=>E4 e (List.mem_of_mem_drop he);have X0:-1<=qv/\qv<=18000*60:=by have h1:=xN (G.drop (b+1)) (u - 1) (by rw [List.length_drop];omega);rw [Hy,show b+1+(u - 1)=b+u by omega,<- Lg] at h1;have:=jI qv (List.mem_of_getElem? h1);rw [List.length_drop] at this;omega
   have Jq:(fun j=>if j=b then AV.int .i64 cur else nS G (b+1) j) (0+(b+u)*1)=.int .i64 qv:=by show (if 0+(b+u)*1=b then _ else _)=_;rw [if_neg (by omega)];unfold nS;rw [if_pos (by omega),Lg,show 0+(b+u)*1=b+u by omega]
   have mF:(fun j=>if j=b then AV.int .i64 cur else nS G (b+1) j) (0+b*1)=.int .i64 cur:=by show (if 0+b*1=b then _ else _)=_;rw [if_pos (by omega)]
   rw [<- jl];(conv=>whnf);repeat ((first|refine ⟨af ⟨by omega,by omega⟩,?_⟩|refine ix (by assumption) ?_|(refine ⟨b+u,af ⟨by rw [gz];omega,by omega⟩,?_⟩)|(refine iK (i:=b) (by omega) ?_)|(refine uK (.int .i64 qv) (.tail _ (.head _)) rfl (by omega) Jq ?_)|(refine uK (.int .i64 cur) (.tail _ (.head _)) rfl (by omega) mF ?_)|refine ⟨_,_,aK.here _,⟨Nat.le_of_ble_eq_true rfl,rfl⟩,?_⟩|refine ⟨_,_,.head _,rfl,?_⟩|refine And.intro (by show aJ (aH Tryz.f146 _) _=true;decide +kernel) ?_|intro (nb:Nat));conv=>whnf)
   refine ⟨fun hz=>?_,fun hz=>?_⟩
   ·have hn:rU qv cur x.cost=x.cost+qv:=by unfold rU;rw [if_pos hz]
    rw [hn] at bZ;(conv=>whnf);repeat ((first|refine ⟨af ⟨by omega,by omega⟩,?_⟩|(refine iK (i:=b) (by omega) ?_)|(refine BK ?_ (.there (.here _)) ?_;(focus omega))|refine ⟨_,_,.head _,rfl,?_⟩|refine And.intro (by show aJ (aH Tryz.f146 _) _=true;decide +kernel) ?_);conv=>whnf)
    refine ⟨_,_,ar.refl _ _,_,(by omega),k+1,rfl,?_,rfl,by omega⟩;rw [bZ];refine E1 rfl (xW fun j hj=>?_);by_cases h:j=b
    ·rw [if_pos (by omega),if_pos h]
    rw [if_neg (by omega),if_neg h,if_neg h]
   have hn:rU qv cur x.cost=cur:=by unfold rU;rw [if_neg (by rw [hz];decide)]
   rw [hn] at bZ;(conv=>whnf);repeat (refine ⟨af ⟨by omega,by omega⟩,?_⟩;conv=>whnf)
   refine ⟨_,_,ar.refl _ _,_,(by omega),k+1,rfl,?_,rfl,by omega⟩;rw [bZ]
  rw [List.take_of_length_le bo];have mY:ij G b=es.foldl (jC (dJ (G.drop (b+1)))) (-1):=by unfold ij;rw [drop_cons Lf];rfl
  rw [<- mY,show dY (line.length+1) (fun j=>if j=b then AV.int .i64 (ij G b) else nS G (b+1) j)=dY (line.length+1) (nS G b) from xW fun j hj=>by
   by_cases h:j=b
   ·rw [if_pos h];unfold nS;rw [if_pos (by omega),h]
   rw [if_neg h];unfold nS;by_cases h2:b<=j
   ·rw [if_pos (by omega),if_pos h2]
   rw [if_neg (by omega),if_neg h2]]
  (conv=>whnf);repeat (refine ⟨af ⟨by omega,by omega⟩,?_⟩;conv=>whnf)
  exact ⟨_,_,ar.refl _ _,_,(by omega),b,_,rfl,rfl,rfl,rfl,by omega⟩
 have:a=0:=(by omega);subst this;(conv=>whnf);skip;exact .inr ⟨ck,fb,rb,ev,hp,rfl,ho,rfl⟩
end Go.Abs.Wall
namespace Go.Abs.Wall
open Go Go.Abs Go.Proofs
def zp (G:List (List az)) (R:List Int):List AV:=[.sl 1 none (G.map oW),.sl 1 none (ints R)]
def BH (H:ax) (line:List Int):AV:=if ed H line=0 then .au (zp (dn H line) (dJ (dn H line))) else .jV
theorem E6 (G:List (List az)) (n:Nat) (h:G.length=n):(List.range (n+1)).map (fun j=>[nS G 0 j])=ints (dJ G):=by rw [D9,h];unfold ints;rw [List.map_map];refine List.map_congr_left fun j _=>?_;show [AV.int .i64 (if 0<=j then ij G j else -1)]=_;rw [if_pos (Nat.zero_le _)];rfl
theorem Uu (H:ax) (line:List Int) (gi:eP H) (hlen:line.length<=1048576):ae Tryz.prog 146 [.agg (bJ H),.sl 1 none (ints line)] [] (.aQ [BH H line,.int .i64 (ed H line)]):=by
 have h0:=E2 H line gi hlen;have hl:(dn H line).length=line.length:=(by simp [dn]);refine ae.of (ay.Ff (R:=fun v h'=>(ed H line≠0/\v=.aQ [.jV,.int .i64 (ed H line)])\/(ed H line=0/\∃ fb ev hp,v=.aQ [.bn fb 0,.int .i64 0]/\Out 1 oW (dn H line) ev hp/\h'=(fb,.vec [ev,.sl 1 none (ints (dJ (dn H line)))])::hp)) (ay.Ff h0 ?_) ?_)
 ·rintro v h1 (h|⟨hg,fb,rb,ev,hp,rfl,ho,rfl⟩)
  ·exact .inl (.inl h)
  refine .inr ⟨rb,_,_,(fb,.vec [ev,.sl 1 none (ints (dJ (dn H line)))])::hp,_,.there (.here _),.vec (.cons (.refl _) (.cons (XG (E6 _ _ hl).symm) .nil)) (kN.refl _),.refl _,.inr ⟨hg,fb,ev,hp,rfl,ho,rfl⟩⟩
 rintro v h1 (⟨hg,rfl⟩|⟨hg,fb,ev,hp,rfl,ho,rfl⟩)
 ·left;unfold BH;rw [if_neg hg];exact ag.refl _
 refine .inr ⟨fb,_,hp,hp,_,.here _,kN.refl _,.aQ (.cons (.ptr rfl) (.cons (.refl _) .nil)),?_⟩;unfold BH;rw [if_pos hg,hg];exact ag.aQ (.cons (ag.au (.cons (Out.le (by decide) ho) (.cons (ag.refl _) .nil))) (.cons (ag.refl _) .nil))
def c251:aw:=⟨[0,1,2,4,6,7,8,9,10,11,17,31],[],[],[],[(5,[0,1,2,3,4,5,6,7],[]),(8,[0,1,2,3,4,5,6,7,8,9,10,11,12,13,14,15],[])],[]⟩
def c252:aw:=⟨[0,1,2,6,7,8,9,16,22,31,68],[],[],[],[(11,[0,1,2,3,4,5,6,7,8],[]),(15,[0,1,2,3,4,5,6,7,8],[])],[]⟩
def c215:aw:=⟨[0,1,3,4],[],[],[],[(1,[0,1,2,3,4,5,6,7,8,9,10,11,12,13,14],[]),(2,[0,1,2,3,4,5,6,7,8,9,10,11],[])],[27]⟩
end Go.Abs.Wall
namespace Go.Abs.Wall
open Go Go.Abs Go.Proofs
def ins {α:Type} (cmp:α->α->Int) (a:α):List α->List α
 | []=>[a]
 | b::t=>if cmp b a<0 then b::ins cmp a t else a::b::t
def wD {α:Type} (cmp:α->α->Int):List α->List α
 | []=>[]
 | a::t=>ins cmp a (wD cmp t)
theorem Lh {α:Type} {cmp:α->α->Int} {a:α}:∀ {l:List α},(ins cmp a l).Perm (a::l)
 | []=>.refl _
 | b::t=>by
   unfold ins;split
   ·exact (List.Perm.cons _ Lh).trans (.swap _ _ _)
   exact .refl _
theorem SM {α:Type} {cmp:α->α->Int}:∀ {l:List α},(wD cmp l).Perm l
 | []=>.refl _
 | a::t=>Lh.trans (List.Perm.cons _ SM)
theorem SN {α:Type} {cmp:α->α->Int} (h:oG cmp) {a:α}:∀ {l:List α},l.Pairwise (fun x y=>¬ cmp y x<0)->(ins cmp a l).Pairwise fun x y=>¬ cmp y x<0
 | [],_=>by simp [ins]
 | b::t,hl=>by
   rw [List.pairwise_cons] at hl;unfold ins;split
   ·rename_i hc;rw [List.pairwise_cons];refine ⟨fun x hx=>?_,SN h hl.2⟩;rcases List.mem_cons.1 (Lh.mem_iff.1 hx) with rfl|hx
    ·exact fun h2=>h.rP _ (h.tr _ _ _ hc h2)
    exact hl.1 x hx
   rename_i hc;rw [List.pairwise_cons,List.pairwise_cons];refine ⟨fun x hx=>?_,hl⟩;rcases List.mem_cons.1 hx with rfl|hx
   ·exact hc
   exact h.nt _ _ _ (hl.1 x hx) hc
theorem SO {α:Type} {cmp:α->α->Int} (h:oG cmp):∀ {l:List α},(wD cmp l).Pairwise fun x y=>¬ cmp y x<0
 | []=>.nil
 | a::t=>SN h (SO h)
theorem oG.wD {α:Type} {cmp:α->α->Int} (h:oG cmp) {l:List α} (ha:∀ x∈l,∀ y∈l,¬ cmp x y<0->¬ cmp y x<0->x=y):ni cmp l=Wall.wD cmp l:=(h.unique ha SM (SO h)).symm
theorem WB (p:Int) (s:eA):nz p s=wD fl (jM p s.values):=zU.c.w.wD fun x _ y _=>zU.c.uu x y
end Go.Abs.Wall
namespace Go.Abs.Wall
open Go Go.Abs Go.Proofs
def c101:aw:=⟨[0,1,4,5,9],[],[4],[],[],[]⟩
def c52:aw:=⟨[0,1,2],[4,7,10,13,16,19,22,26],[0,1,2],[],[],[4,7,10,13,16,19,22,26]⟩
theorem E7 (code t:List UInt8) (k:Int) (b:Nat):ay Tryz.prog 101 [.str code,.aR b 0 1 4] [(b,.vec [.int .i64 k,.str t,.int .i64 0,.int .i64 0])] (fun v h'=>v=.agg (jo ⟨code,1,1,false,[⟨k,t,1,1⟩]⟩)/\h'=[]):=by
 refine ay.xk (R:=fun v h'=>v=.agg [.str code,.int .i64 1,.int .i64 1,.bool false,.aR b 0 1 4]/\h'=[(b,.vec [.int .i64 k,.str t,.int .i64 1,.int .i64 1])]) ?_ ?_
 ·refine aG (F:=Tryz.f101) c101 rfl rfl rfl mixed rfl fun X=>?_;(conv=>whnf);intro rb;(conv=>whnf);refine xH 60 rfl mixed ?_;(conv=>whnf);refine .inr ?_;(conv=>whnf);refine cT rfl ?_;(conv=>whnf);repeat ((first|refine ⟨af ⟨by omega,by omega⟩,?_⟩|(refine ⟨0,af ⟨rfl,by decide⟩,?_⟩)|(refine ⟨_,_,.there (.here _),aF,?_⟩));conv=>whnf)
  refine .inr ?_;(conv=>whnf);refine cF rfl ?_;(conv=>whnf);repeat (refine ⟨_,_,aK.here _,⟨Nat.le_of_ble_eq_true rfl,rfl⟩,?_⟩;conv=>whnf)
  exact ⟨rfl,rfl⟩
 rintro v h1 ⟨rfl,rfl⟩;exact ⟨b,_,[],[],_,.here _,.nil,.agg (.cons (.refl _) (.cons (.refl _) (.cons (.refl _) (.cons (.refl _) (.cons (.row (wC:=[]) (pre:=[]) (post:=[]) (xs:=[[.int .i64 k,.str t,.int .i64 1,.int .i64 1]]) rfl rfl rfl (by simp)) .nil))))),rfl,rfl⟩
theorem E8 (code t t2:List UInt8) (k k2:Int) (b:Nat):ay Tryz.prog 101 [.str code,.aR b 0 2 4] [(b,.vec [.int .i64 k,.str t,.int .i64 0,.int .i64 0,.int .i64 k2,.str t2,.int .i64 0,.int .i64 0])] (fun v h'=>v=.agg (jo ⟨code,1,1,false,[⟨k,t,1,1⟩,⟨k2,t2,1,1⟩]⟩)/\h'=[]):=by
 refine ay.xk (R:=fun v h'=>v=.agg [.str code,.int .i64 1,.int .i64 1,.bool false,.aR b 0 2 4]/\h'=[(b,.vec [.int .i64 k,.str t,.int .i64 1,.int .i64 1,.int .i64 k2,.str t2,.int .i64 1,.int .i64 1])]) ?_ ?_
 ·refine aG (F:=Tryz.f101) c101 rfl rfl rfl mixed rfl fun X=>?_;(conv=>whnf);intro rb;(conv=>whnf);refine xH 60 rfl mixed ?_;(conv=>whnf);refine .inr ?_;(conv=>whnf);refine cT rfl ?_;(conv=>whnf);repeat ((first|refine ⟨af ⟨by omega,by omega⟩,?_⟩|(refine ⟨0,af ⟨rfl,by decide⟩,?_⟩)|(refine ⟨_,_,.there (.here _),aF,?_⟩));conv=>whnf)
  refine .inr ?_;(conv=>whnf);refine cT rfl ?_;(conv=>whnf);repeat ((first|refine ⟨af ⟨by omega,by omega⟩,?_⟩|(refine ⟨1,af ⟨rfl,by decide⟩,?_⟩)|(refine ⟨_,_,.there (.here _),aF,?_⟩));conv=>whnf)
  refine .inr ?_;(conv=>whnf);refine cF rfl ?_;(conv=>whnf);repeat (refine ⟨_,_,aK.here _,⟨Nat.le_of_ble_eq_true rfl,rfl⟩,?_⟩;conv=>whnf)
  exact ⟨rfl,rfl⟩
 rintro v h1 ⟨rfl,rfl⟩;exact ⟨b,_,[],[],_,.here _,.nil,.agg (.cons (.refl _) (.cons (.refl _) (.cons (.refl _) (.cons (.refl _) (.cons (.row (wC:=[]) (pre:=[]) (post:=[]) (xs:=[[.int .i64 k,.str t,.int .i64 1,.int .i64 1],[.int .i64 k2,.str t2,.int .i64 1,.int .i64 1]]) rfl rfl rfl (by simp)) .nil))))),rfl,rfl⟩
def wZ (code:List UInt8) (l:List cV):eA:=⟨code,1,1,false,l⟩
def ml:ax:=⟨⟨1,[wZ [65,49] [⟨1,[110],1,1⟩],wZ [66,49] [⟨1,[110,102,114],1,1⟩],wZ [67,49] [⟨1,[102],1,1⟩],wZ [68,49] [⟨1,[114],1,1⟩],
  wZ [69,49] [⟨2,[110,102,114],1,1⟩],wZ [70,49] [⟨3,[103,111,111,100],1,1⟩],wZ [71,49] [⟨1,[116],1,1⟩],wZ [72,49] [⟨1,[110],1,1⟩,⟨2,[110],1,1⟩]]⟩,
 ⟨[⟨[110,102,114],1,[103,111,111,100],2⟩,⟨[110],2,[],1⟩],[⟨1,[116],[102,101,109],1⟩],[⟨[102],[104,105,115],3⟩]⟩,⟨1,0,0,0,4⟩,1⟩
theorem WH:ae Tryz.prog 52 [] [] (.agg (bJ ml)):=by
 refine ae.yk ?_;refine aG (F:=Tryz.f52) c52 rfl rfl rfl mixed rfl fun X=>?_;(conv=>whnf);intro rb;(conv=>whnf);repeat ((first|(intro (nb:Nat))|(refine ay.mono ?_ (ay.frame (E7 _ _ _ _) _);rintro v h1 ⟨h2,⟨rfl,rfl⟩,rfl⟩)|(refine ay.mono ?_ (ay.frame (E8 _ _ _ _ _ _) _);rintro v h1 ⟨h2,⟨rfl,rfl⟩,rfl⟩)|refine ⟨_,_,aK.here _,⟨Nat.le_of_ble_eq_true rfl,rfl⟩,?_⟩);conv=>whnf)
 rfl
def zX (to cost:Int) (l:List ao):az:=⟨0,to,cost,⟨⟨0,-1,[]⟩,l⟩⟩
def c217:aw:=⟨[0,1,2],[1],[2],[],[],[]⟩
theorem Nf (w:cO) (h1:w.form.ah.length<=aV) (h2:w.aj.length<=aV):ae Tryz.prog 217 [.agg (du w)] [] (.agg (du w)):=by
 refine ae.yk ?_;refine aG (F:=Tryz.f217) c217 rfl rfl rfl mixed rfl fun X=>?_;(conv=>whnf);intro b1;(conv=>whnf);intro b2;(conv=>whnf);repeat ((first|refine ae.k0 (KT w.form.ah h1) ?_|refine ae.k0 (u6 w.aj h2) ?_|refine ⟨_,_,aK.here _,⟨Nat.le_of_ble_eq_true rfl,rfl⟩,?_⟩|refine ⟨_,_,.tail _ (.head _),rfl,?_⟩|refine ⟨_,_,.there (.here _),aF,?_⟩);conv=>whnf)
 rfl
end Go.Abs.Wall
namespace Go.Abs.Wall
open Go Go.Abs Go.Proofs
def c147:aw:=⟨[0,2,3,4,5,6,7,8,16,17,18,29,30,31,32,45],[11,22],[7],[],[(9,[0,1,2,3,4,5,6,7,8],[]),(11,[0,1,2,3,4,5,6,7,8,9],[])],[55]⟩
def c216:aw:=⟨[0,1,2,6,7,8,9,10,11,12,22,39,43,83,105],[],[9,10,11],[],[(7,[0,1,2,3,4,5,6,7,8,9,10,11,12,13],[9]),(8,[0,1,2,3,4,5,6,7,8,9,10,11,12,13,14,15],[10]),(11,[0,1,2,3,4,5,6,7,8,9,10,11,12,13,14],[]),(14,[0,1,2,3,4,5,6,7,8,9,10,11,12,13,14,15,16],[])],[]⟩
end Go.Abs.Wall
namespace Go.Abs.Wall
open Go Go.Abs Go.Proofs
structure tB where
 words:List cO
 cost:Int
def om (r:tB):List AV:=[.sl 4 none (r.words.map du),.int .i64 r.cost]
def c148:aw:=⟨[0,1,4,5,6,7,8,17,31],[],[8],[],[(7,[0,1,2,3,4,5,6,7,8,9,10,11,12,13,14,15],[8]),(8,[0,1,2,3,4,5,6,7,8],[])],[]⟩
def c91:aw:=⟨[0,1,2,3,6,7,8,9,10,11,12,20,24,27,28,29,38,46],[],[11],[],[],[]⟩
def c46:aw:=⟨[0,1,2,4,5,6,7,15],[],[],[],[],[]⟩
end Go.Abs.Wall
