/- What is proved: small laws for the walks of this seat, and contracts of its functions. No condition but those each theorem names. -/
import Derived.Test.YtmkmflcemegikaaGreatDoorN6
set_option maxRecDepth 100000
set_option maxHeartbeats 2000000
set_option linter.unusedVariables false
set_option linter.unusedSimpArgs false
namespace Go.Abs.Wall
open Go Go.Abs Go.Proofs
theorem wrap64 {n:Int} (h0:0≤n) (h1:n<4294967296):IntKind.u64.wrap n=n:=by
 simp [IntKind.wrap,IntKind.signed,IntKind.bits]
 omega
def c104:Cfg:=⟨[0,1,4,5,6,7,8,9],[],[],[],[],[]⟩
def c120:Cfg:=⟨[0,1,4,5,6,7,8,9,10,11,12,13],[],[],[],[],[]⟩
def c83:Cfg:=⟨[0,1,4,5,6,7,8,10,26,37],[],[],[],[(9,[0,1,2,3,4,5,6,7,8,9],[])],[]⟩
theorem mul64W (n:Int) (h0:0≤n) (h1:n≤1048577):QCall Tryz.prog 120 [.int .u64 1,.int .u64 n] [] (.tup [.int .u64 0,.int .u64 n]):=by
 have w1:IntKind.u64.wrap (1*n)=n:=by rw [Int.one_mul];exact wrap64 h0 (by omega)
 have w2:IntKind.u64.wrap (0*n)=0:=by rw [Int.zero_mul];exact wrap64 (by omega) (by omega)
 have w3:IntKind.u64.wrap (1*0)=0:=wrap64 (by omega) (by omega)
 have w4:IntKind.u64.wrap (0*0)=0:=wrap64 (by omega) (by omega)
 have w5:IntKind.u64.wrap (0+0)=0:=wrap64 (by omega) (by omega)
 refine fcalls (F:=Tryz.f120) c120 rfl rfl rfl mixed rfl fun X=>?_
 conv=>whnf
 repeat ((refine ⟨gP_of ⟨⟨rfl,rfl⟩,⟨by first|omega|(rw [w1];omega)|(rw [w2,w5];omega)|(rw [w2,w5,w3,w5];omega),by first|omega|(rw [w1];omega)|(rw [w2,w5];omega)|(rw [w2,w5,w3,w5];omega)⟩,rfl⟩,?_⟩);conv=>whnf)
 refine ⟨?_,rfl⟩
 rw [w1,w4,w5,w5]
theorem mulW (n:Int) (h0:0≤n) (h1:n≤1048577):QCall Tryz.prog 104 [.int .u64 1,.int .u64 n] [] (.tup [.int .u64 0,.int .u64 n]):=by
 refine fcalls (F:=Tryz.f104) c104 rfl rfl rfl mixed rfl fun X=>?_
 conv=>whnf
 refine cF rfl ?_
 conv=>whnf
 repeat (refine QCall.k0 (mul64W n h0 h1) ?_;conv=>whnf)
 exact ⟨rfl,rfl⟩
def rowR (n m:Nat) (v:Int):List AV:=List.replicate m (.int .i64 v)++List.replicate (n - m) (.int .i64 0)
theorem rowR_len {n m:Nat} {v:Int} (h:m≤n):(rowR n m v).length=n:=by unfold rowR;simp;omega
theorem rowR_set {n m c:Nat} {v:Int} (h:m+c≤n):setC (rowR n m v) m (List.replicate c (.int .i64 v))=rowR n (m+c) v:=by
 unfold setC rowR
 rw [List.take_append_of_le_length (by simp),List.take_of_length_le (by simp),List.length_replicate,List.drop_append,List.drop_eq_nil_of_le (by simp),List.nil_append,List.length_replicate,List.drop_replicate]
 congr 1
 ·rw [List.replicate_append_replicate]
 ·congr 1;omega
theorem rowR_full {n:Nat} {v:Int}:rowR n n v=List.replicate n (.int .i64 v):=by unfold rowR;simp
theorem repeatW (v:Int) (n:Nat) (h1:1≤n) (h2:n≤1048577):ACalls Tryz.prog 83 [.sl 1 none [[.int .i64 v]],.int .i64 n] [] (fun w h'=>∃ b,w=.osl b 0 n 1∧h'=[(b,.vec (List.replicate n (.int .i64 v)))]):=by
 refine fcalls (F:=Tryz.f83) c83 rfl rfl rfl mixed rfl fun X=>?_
 conv=>whnf
 refine ⟨fun h=>absurd (of_decide_eq_true h) (by omega),fun h=>?_⟩
 conv=>whnf
 skip
 rw [show IntKind.u64.wrap ((([[AV.int .i64 v]]:List (List AV)).length:Nat):Int)=1 from wrap64 (by simp) (by simp),show IntKind.u64.wrap (n:Int)=n from wrap64 (by omega) (by omega)]
 refine QCall.k0 (mulW n (by omega) (by omega)) ?_
 conv=>whnf
 refine cF (by simp;omega) ?_
 conv=>whnf
 repeat ((first|refine ⟨gP_of ⟨by omega,by omega⟩,?_⟩|(refine ⟨⟨by omega,by omega,by omega⟩,fun b=>?_⟩));conv=>whnf)
 rw [show repC (n:Int).toNat [AV.int .i64 0]=rowR n 0 v by rw [show (n:Int).toNat=n from rfl,repC_one];simp [rowR],show (n:Int).toNat=n from rfl]
 refine ⟨_,_,.here _,⟨by simp,by simp;omega,by rw [rowR_len (by omega)];simp;omega⟩,?_⟩
 rw [show setC (rowR n 0 v) 0 [[AV.int .i64 v]].flatten=rowR n 1 v from rowR_set (m:=0) (c:=1) (by omega)]
 conv=>whnf
 skip
 refine sloop rfl mixed [7,8] [] (fun m r h=>∃ (q:Nat),r=[(7,[],.osl b 0 n 1),(8,[],.int .i64 q)]∧h=[(b,.vec (rowR n q v))]∧m=n - q∧1≤q∧q≤n) ?_ ?_
 ·conv=>whnf
  exact ⟨_,1,rfl,rfl,rfl,by omega,by omega⟩
 ·rintro x r h' ⟨q,rfl,rfl,rfl,hm1,hm2⟩
  conv=>whnf
  refine ⟨fun hf=>?_,fun hf=>?_⟩<;>simp at hf
  ·conv=>whnf
   repeat ((first|refine ⟨gP_of ⟨by omega,by omega⟩,?_⟩|refine And.intro (by show drawOK (opsAt Tryz.f83 _) _=true;decide +kernel) ?_);conv=>whnf)
   obtain ⟨c,hc⟩:∃ c,c=min q (n - q):=⟨_,rfl⟩
   have hm:min ((q:Int).toNat - Int.toNat 0) ((n:Int).toNat - (q:Int).toNat)=c:=by rw [hc];show min (q - 0) (n - q)=_;rw [Nat.sub_zero]
   have hfl:(List.replicate c [AV.int .i64 v]).flatten=List.replicate c (.int .i64 v):=by simp
   rw [hm]
   refine ⟨rowR n q v,List.replicate c [.int .i64 v],.head _,⟨?_,by intro z hz;rw [List.mem_replicate] at hz;rw [hz.2];rfl,by simp⟩,rowR n q v,_,.here _,⟨by omega,?_⟩,?_⟩
   ·rw [hfl]
    show List.take (c*1) (List.drop 0 (rowR n q v))=_
    rw [List.drop_zero,Nat.mul_one]
    unfold rowR
    rw [List.take_append_of_le_length (by simp;omega),List.take_replicate]
    congr 1;omega
   ·rw [hfl,rowR_len (by omega)]
    show 0+q*1+_≤n
    simp;omega
   ·rw [hfl,show setC (rowR n q v) (0+(q:Int).toNat*1) (List.replicate c (.int .i64 v))=rowR n (q+c) v by rw [show 0+(q:Int).toNat*1=q by omega];exact rowR_set (by omega)]
    conv=>whnf
    repeat (refine ⟨gP_of ⟨by omega,by omega⟩,?_⟩;conv=>whnf)
    exact ⟨_,by omega,q+c,rfl,rfl,rfl,by omega,by omega⟩
  ·have:n=q:=by omega
   subst this
   conv=>whnf
   exact ⟨b,rfl,by rw [rowR_full]⟩
end Go.Abs.Wall
namespace Go.Abs.Wall
open Go Go.Abs Go.Proofs
def edgsAt (H:Hou) (line:List Int) (at_:Nat):List Edg:=sortE (wordsAll H (allAt H line at_) at_)
def graphM (H:Hou) (line:List Int):List (List Edg):=(List.range line.length).map (edgsAt H line)
def sumL (g:List (List Edg)):Nat:=(g.map List.length).sum
def growErr (H:Hou) (line:List Int):Int:=if lineErr H line≠0 then lineErr H line else if 2000<sumL (graphM H line) then 2 else 0
def edgeStep (q cur cost:Int):Int:=if (!decide (q = -1)&&(decide (cur = -1)||decide (cost+q<cur)))=true then cost+q else cur
def edgeR (t:List Int) (r:Int) (x:Edg):Int:=edgeStep (t.getD (x.word.uses.length - 1) 0) r x.cost
def restT:List (List Edg)→List Int
 | []=>[0]
 | es::g=>es.foldl (edgeR (restT g)) (-1)::restT g
def restV (g:List (List Edg)) (i:Nat):Int:=(restT (g.drop i)).headD 0
theorem restT_len:∀ g,(restT g).length=g.length+1
 | []=>rfl
 | es::g=>by simp [restT,restT_len g]
theorem restT_get:∀ (g:List (List Edg)) (i:Nat),i≤g.length→(restT g)[i]?=some (restV g i)
 | [],i,h=>by
   have:i=0:=by simpa using h
   subst this;rfl
 | es::g,0,_=>by simp [restT,restV]
 | es::g,i+1,h=>by
   have:=restT_get g i (by simpa using h)
   simp only [restT,List.getElem?_cons_succ]
   rw [this]
   rfl
theorem restV_drop (g:List (List Edg)) (a i:Nat):restV (g.drop a) i=restV g (a+i):=by unfold restV;rw [List.drop_drop]
theorem restV_end (g:List (List Edg)):restV g g.length=0:=by unfold restV;rw [List.drop_length];rfl
theorem restT_map (g:List (List Edg)):restT g=(List.range (g.length+1)).map (restV g):=by
 refine List.ext_getElem? fun i=>?_
 by_cases h:i≤g.length
 ·rw [restT_get g i h,List.getElem?_map,List.getElem?_range (by omega)];rfl
 ·rw [List.getElem?_eq_none (by rw [restT_len];omega),List.getElem?_eq_none (by simp;omega)]
theorem edgeStep_bound {q cur cost B:Int} (h1:-1≤q) (h2:q≤B) (h3:-1≤cur) (h4:cur≤B+18000) (h5:0≤cost) (h6:cost≤18000):-1≤edgeStep q cur cost∧edgeStep q cur cost≤B+18000:=by
 unfold edgeStep
 split
 ·omega
 ·omega
theorem foldR_bound {t:List Int} {B:Int} (hB:0≤B) (ht:∀ v∈t,-1≤v∧v≤B):∀ (es:List Edg) (r:Int),-1≤r→r≤B+18000→(∀ x∈es,0≤x.cost∧x.cost≤18000)→-1≤es.foldl (edgeR t) r∧es.foldl (edgeR t) r≤B+18000
 | [],r,h1,h2,_=>⟨h1,h2⟩
 | x::es,r,h1,h2,hx=>by
   have hq:-1≤t.getD (x.word.uses.length - 1) 0∧t.getD (x.word.uses.length - 1) 0≤B:=by
    by_cases h:x.word.uses.length - 1<t.length
    ·have:=ht _ (List.getElem_mem h)
     simp [List.getD,List.getElem?_eq_getElem h];exact this
    ·simp [List.getD,List.getElem?_eq_none (Nat.le_of_not_lt h)];omega
   have hc:=hx x (by simp)
   obtain ⟨h3,h4⟩:=edgeStep_bound hq.1 hq.2 h1 h2 hc.1 hc.2
   exact foldR_bound hB ht es _ h3 h4 fun y hy=>hx y (by simp [hy])
theorem restT_bound:∀ (g:List (List Edg)),(∀ es∈g,∀ x∈es,0≤x.cost∧x.cost≤18000)→∀ v∈restT g,-1≤v∧v≤18000*(g.length:Int)
 | [],_,v,hv=>by simp [restT] at hv;subst hv;simp
 | es::g,h,v,hv=>by
   have ih:=restT_bound g fun e he=>h e (by simp [he])
   simp only [restT,List.mem_cons] at hv
   rcases hv with rfl|hv
   ·have:=foldR_bound (B:=18000*(g.length:Int)) (by omega) ih es (-1) (by omega) (by omega) (h es (by simp))
    simp only [List.length_cons];omega
   ·have:=ih v hv
    simp only [List.length_cons];omega
theorem wordsR_len {E:Env}:∀ (rest:List (List Use)) (p:Prg) (T:List Use),∀ e∈wordsR E rest p T,e.word.uses.length≤T.length+rest.length
 | [],_,_,e,he=>by cases he
 | us::r,p,T,e,he=>by
   unfold wordsR at he
   rw [List.mem_flatMap] at he
   obtain ⟨u,hum,he⟩:=he
   rw [List.mem_flatMap] at he
   obtain ⟨q,hq,he⟩:=he
   rw [List.length_cons]
   rcases List.mem_append.1 he with he|he
   ·unfold headW at he
    split at he
    ·cases List.mem_singleton.1 he
     show (T++[u]).length≤_
     rw [List.length_append,List.length_singleton];omega
    ·cases he
   ·have:=wordsR_len r q (T++[u]) e he
    rw [List.length_append,List.length_singleton] at this
    omega
theorem edgsAt_mem {H:Hou} (hH:HouOK H) {line:List Int} (hl:∀ s∈line,0≤s∧s<H.list.signs.length) {at_:Nat} (hat:at_≤line.length):∀ x∈edgsAt H line at_,EdgAt H at_ x∧at_+x.word.uses.length≤line.length∧0≤x.cost∧x.cost≤18000:=by
 intro x hx
 unfold edgsAt sortE at hx
 rw [sortL_mem] at hx
 obtain ⟨hAf,hAu⟩:=allAt_ok hH (line:=line) (at_:=at_) hl
 have h1:=wordsAll_at hH hAf hAu x hx
 have h2:=priceM_bound hH (w:=x.word)
 have h3:=h1.few
 refine ⟨h1,?_,by rw [h1.cost];omega,by rw [h1.cost];omega⟩
 unfold wordsAll at hx
 rw [List.mem_flatMap] at hx
 obtain ⟨i,hi,hx⟩:=hx
 unfold wordsEnt at hx
 rw [List.mem_flatMap] at hx
 obtain ⟨k,hk,hx⟩:=hx
 unfold wordsOf at hx
 split at hx
 ·cases hx
 ·unfold wordsF at hx
  rw [headW_nil,List.nil_append] at hx
  have:=wordsR_len _ _ _ x hx
  unfold allAt at this
  simp at this
  omega
theorem sumL_snoc {g:List (List Edg)} {l:List Edg}:sumL (g++[l])=sumL g+l.length:=by unfold sumL;simp
theorem sumL_take {g:List (List Edg)} (i:Nat):sumL (g.take i)≤sumL g:=by
 have h1:sumL (g.take i++g.drop i)=sumL (g.take i)+sumL (g.drop i):=by
  unfold sumL;rw [List.map_append,List.sum_append]
 rw [List.take_append_drop] at h1
 omega
theorem wordsM_fits {H:Hou} {line:List Int} {at_ most:Nat} (h:(edgsAt H line at_).length≤most):wordsM H line at_ most=edgsAt H line at_:=by
 unfold edgsAt sortE at h
 rw [sortL_length] at h
 unfold wordsM edgsAt
 rw [List.take_of_length_le (by omega)]
theorem wordsM_long {H:Hou} {line:List Int} {at_ most:Nat} (h:most<(edgsAt H line at_).length):(wordsM H line at_ most).length=most+1:=by
 unfold edgsAt sortE at h
 rw [sortL_length] at h
 unfold wordsM sortE
 rw [sortL_length,List.length_take]
 omega
def encEdgs (es:List Edg):List AV:=[.sl 7 none (es.map encEdg)]
theorem VLe.iptr {xs ys:List AV} (h:VsLe xs ys):VLe (.iptr xs) (.iptr ys):=by
 intro c u hu
 simp only [Rep] at hu ⊢
 obtain ⟨b,o,hv,hr⟩:=hu
 exact ⟨b,o,hv,h.repCs hr⟩
structure LineOK (H:Hou) (line:List Int):Prop where
 hou:HouOK H
 few:line.length≤60
 signs:∀ s∈line,0≤s∧s<H.list.signs.length
theorem lineOK {H:Hou} {line:List Int} (h:lineErr H line=0):LineOK H line:=by
 unfold lineErr at h
 split at h
 ·rename_i h1;exact absurd h h1
 rename_i h1
 split at h
 ·cases h
 split at h
 ·cases h
 ·rename_i h2 h3
  rw [Bool.not_eq_true,List.any_eq_false] at h3
  refine ⟨houOK (by omega),by omega,fun s hs=>?_⟩
  have:=h3 s hs
  rw [Bool.not_eq_true,Bool.not_eq_false',wthn_iff] at this
  omega
end Go.Abs.Wall
namespace Go.Abs.Wall
open Go Go.Abs Go.Proofs
theorem heap3 {a b:Nat} {x x' y y':List AV} {z:Heap} (hx:x=x') (hy:y=y'):(a,Ob.vec x)::(b,Ob.vec y)::z=(a,Ob.vec x')::(b,Ob.vec y')::z:=by subst hx;subst hy;rfl
def restF (G:List (List Edg)) (a:Nat) (j:Nat):AV:=.int .i64 (if a≤j then restV G j else -1)
def c62:Cfg:=⟨[0,1,2,4,5,6,7,8,9,10,11,13,14,19,29,30,31,44,67,76,77,78,79,115],[27],[13],[],[(22,[0,1,2,3,4,5,6,7,8],[]),(23,[0,1,2,3,4,5,6,7,8,9,10,11,12,13,14,15,16,17,18,19,20,21,22,23,24,25],[]),(24,[0,1,2,3,4,5,6,7,8,9,10],[])],[]⟩
set_option maxHeartbeats 2000000 in
theorem growA (H:Hou) (line:List Int) (hfit:HouFit H) (hlen:line.length≤1048576) :
  ACalls Tryz.prog 62 [.agg (encHou H),.sl 1 none (ints line)] [] (fun v h'=>(growErr H line≠0∧v=.tup [.nilP,.int .i64 (growErr H line)])∨(growErr H line=0∧∃ fb rb ev hp,v=.tup [.optr fb 0,.int .i64 0]∧Out 1 encEdgs (graphM H line) ev hp∧h'=(fb,.vec [ev,.osl rb 0 (line.length+1) 1])::(rb,.vec (rowsF (line.length+1) (restF (graphM H line) 0)))::hp)):=by
 have hlm:line.length≤LMAX:=by unfold LMAX;omega
 refine fcalls (F:=Tryz.f62) c62 rfl rfl rfl mixed rfl fun X=>?_
 conv=>whnf
 repeat (refine QCall.k0 (checkW H line hfit hlm) ?_;conv=>whnf)
 refine ⟨fun hc=>?_,fun hc=>?_⟩<;>simp at hc
 ·have hg:growErr H line=lineErr H line:=by rw [growErr,if_pos hc]
  conv=>whnf
  exact .inl ⟨by rw [hg];exact hc,by rw [hg]⟩
 have hL:=lineOK hc
 have hH:=hL.hou
 have hfew:=hL.few
 have hg:growErr H line=if 2000<sumL (graphM H line) then 2 else 0:=by rw [growErr,if_neg (by omega)]
 obtain ⟨G,hG⟩:∃ G,G=graphM H line:=⟨_,rfl⟩
 have hGl:G.length=line.length:=by rw [hG];simp [graphM]
 have hGi:∀ i,i<line.length→G[i]?=some (edgsAt H line i):=fun i hi=>by rw [hG,graphM,List.getElem?_map,List.getElem?_range hi];rfl
 rw [← hG] at hg ⊢
 conv=>whnf
 repeat ((refine ⟨gP_of ⟨by rw [ints_length];omega,by rw [ints_length];omega⟩,?_⟩);conv=>whnf)
 rw [ints_length,show ((line.length:Nat):Int)+1=((line.length+1:Nat):Int) from rfl]
 refine ACalls.mono ?_ (repeatW (-1) (line.length+1) (by omega) (by omega))
 rintro w h1 ⟨rb,rfl,rfl⟩
 conv=>whnf
 intro fb
 conv=>whnf
 skip
 refine tloop rfl mixed [1,2,7,8,29,30] [] (fun m r h=>∃ (i:Nat) (ev:AV) (hp:Heap),r=[(1,[],.sl 1 none (ints line)),(2,[],.iptr (encHou H)),(7,[],.optr fb 0),(8,[],.int .i64 (sumL (G.take i):Nat)),(29,[],.int .i64 (ints line).length),(30,[],.int .i64 i)]∧h=(fb,.vec [ev,.osl rb 0 (line.length+1) 1])::(rb,.vec (List.replicate (line.length+1) (.int .i64 (-1))))::hp∧m=line.length - i∧i≤line.length∧sumL (G.take i)≤2000∧Out 1 encEdgs (G.take i) ev hp) ?_ ?_
 ·conv=>whnf
  exact ⟨_,_,Turn.refl _ _,_,0,_,[],by simp [sumL],rfl,rfl,by omega,by simp [sumL],.inl ⟨by simp,rfl,rfl⟩⟩
 ·rintro m r h' ⟨i,ev,hp,rfl,rfl,rfl,hi,hsum,ho⟩
  conv=>whnf
  refine ⟨fun hi2=>?_,fun hi2=>?_⟩<;>simp at hi2
  ·have hgi:=hGi i hi2
   have htk:=take_snoc hgi
   have hsn:sumL (G.take (i+1))=sumL (G.take i)+(edgsAt H line i).length:=by rw [htk,sumL_snoc]
   have hst:=sumL_take (g:=G) (i+1)
   conv=>whnf
   repeat (refine ⟨gP_of ⟨by omega,by omega⟩,?_⟩;conv=>whnf)
   rw [show (2000:Int) - ((sumL (G.take i):Nat):Int)=((2000 - sumL (G.take i):Nat):Int) by omega]
   refine QCall.k0 (wordsW H line i (2000 - sumL (G.take i)) hH hfit hL.signs hlen (by omega) (by omega)) ?_
   by_cases hfi:(edgsAt H line i).length≤2000 - sumL (G.take i)
   ·rw [wordsM_fits hfi]
    have hel:((edgsAt H line i).map encEdg).length=(edgsAt H line i).length:=List.length_map _
    rcases ho with ⟨he,rfl,rfl⟩|⟨q,rfl,rfl⟩
    all_goals
     conv=>whnf
     repeat (refine ⟨gP_of ⟨by omega,by omega⟩,?_⟩;conv=>whnf)
     refine ⟨fun hz=>absurd (of_decide_eq_true hz) (by omega),fun hz=>?_⟩
     conv=>whnf
     repeat ((first|refine ⟨gP_of ⟨by omega,by omega⟩,?_⟩|(refine ⟨Nat.le_of_ble_eq_true rfl,fun q'=>?_⟩)|(refine ⟨(by simp;unfold AMAX;omega),fun q'=>⟨_,.there (.there (.here _)),?_⟩⟩)|refine ⟨_,_,.head _,rfl,?_⟩|refine ⟨_,_,.here _,leOK,?_⟩|refine ⟨_,_,.there (.here _),leOK,?_⟩);conv=>whnf)
     rw [show ((sumL (G.take i):Nat):Int)+((((edgsAt H line i).map encEdg).length:Nat):Int)=((sumL (G.take (i+1)):Nat):Int) by rw [hsn,hel,Int.natCast_add]]
     refine ⟨_,[(fb,.vec [.sl 1 (some q') ((G.take (i+1)).map encEdgs),AV.osl rb 0 (line.length+1) 1]),(rb,.vec (List.replicate (line.length+1) (.int .i64 (-1)))),(q',.tok)],?_,_,(by omega),i+1,_,[(q',.tok)],rfl,rfl,rfl,by omega,by omega,.inr ⟨q',rfl,rfl⟩⟩
     first
      | (rw [htk,he];exact Turn.perm (List.perm_append_comm (l₁:=[_]) (l₂:=[_,_])))
      | (rw [htk,List.map_append];exact Turn.refl _ _)
   ·have hel:((wordsM H line i (2000 - sumL (G.take i))).map encEdg).length=(wordsM H line i (2000 - sumL (G.take i))).length:=List.length_map _
    rw [wordsM_long (by omega)] at hel
    conv=>whnf
    repeat (refine ⟨gP_of ⟨by omega,by omega⟩,?_⟩;conv=>whnf)
    refine ⟨fun hz=>?_,fun hz=>absurd hz (by rw [decide_eq_false_iff_not];omega)⟩
    have hg2:growErr H line=2:=by rw [hg,if_pos (by omega)]
    conv=>whnf
    exact .inl ⟨by rw [hg2];decide,by rw [hg2]⟩
  ·rw [List.take_of_length_le (by omega)] at hsum ho
   have hg0:growErr H line=0:=by rw [hg,if_neg (by omega)]
   have hrow:List.replicate (line.length+1) (AV.int .i64 (-1))=rowsF (line.length+1) (fun _=>.int .i64 (-1)):=by rw [← repC_F,repC_one]
   rw [hrow]
   conv=>whnf
   repeat ((first|(refine ⟨line.length,gP_of ⟨by rw [ints_length],by omega⟩,?_⟩)|(refine stoF ?_ (.there (.here _)) ?_;(focus omega))|(refine ⟨gP_of ⟨by rw [ints_length];omega,by rw [ints_length];omega⟩,?_⟩)|refine ⟨_,_,.head _,rfl,?_⟩);conv=>whnf)
   rw [show rowsF (line.length+1) (fun j=>if j=0+line.length*1 then AV.int .i64 0 else .int .i64 (-1))=rowsF (line.length+1) (restF G line.length) from rowsF_congr fun j hj=>by
    unfold restF
    by_cases h:j=line.length
    ·rw [if_pos (by omega),if_pos (by omega),h,← hGl,restV_end]
    ·rw [if_neg (by omega),if_neg (by omega)]]
   refine tloop rfl mixed [7,11] [] (fun m r h=>∃ (a:Nat) (c:Int),r=[(7,[],.optr fb 0),(11,[],.int .i64 c)]∧h=(fb,.vec [ev,.osl rb 0 (line.length+1) 1])::(rb,.vec (rowsF (line.length+1) (restF G a)))::hp∧m=a∧c=(a:Int) - 1∧a≤line.length) ?_ ?_
   ·conv=>whnf
    exact ⟨_,_,Turn.refl _ _,_,line.length,_,rfl,rfl,rfl,by rw [ints_length],by omega⟩
   ·rintro a r h' ⟨a',c,rfl,rfl,rfl,hca,ha⟩
    conv=>whnf
    refine ⟨fun hi3=>?_,fun hi3=>?_⟩<;>simp at hi3
    ·obtain ⟨b,rfl⟩:∃ b,a=b+1:=⟨a - 1,by omega⟩
     have hcb:c=(b:Int):=by omega
     subst hcb
     have hgb:=hGi b (by omega)
     obtain ⟨es,hes⟩:∃ es,es=edgsAt H line b:=⟨_,rfl⟩
     rw [← hes] at hgb
     have hmem:∀ x∈es,EdgAt H b x∧b+x.word.uses.length≤line.length∧0≤x.cost∧x.cost≤18000:=fun x hx=>edgsAt_mem hH hL.signs (by omega) x (by rw [← hes];exact hx)
     have hGc:∀ e∈G,∀ x∈e,0≤x.cost∧x.cost≤18000:=by
      intro e he x hx
      obtain ⟨i,hie⟩:=List.mem_iff_getElem?.1 he
      have hil:i<line.length:=by have:=(List.getElem?_eq_some_iff.1 hie).1;omega
      rw [hGi i hil] at hie
      cases hie
      exact (edgsAt_mem hH hL.signs (by omega) x hx).2.2
     have hesl:es.length≤2000:=by
      have h1:=sumL_take (g:=G) (b+1)
      rw [take_snoc hgb,sumL_snoc] at h1
      omega
     rcases ho with ⟨he,rfl,rfl⟩|⟨q,rfl,rfl⟩
     ·rw [he] at hGl;simp at hGl;omega
     conv=>whnf
     repeat ((first|refine ix (by assumption) ?_|refine ⟨_,_,.head _,rfl,?_⟩);conv=>whnf)
     rw [show rowsF (line.length+1) (restF G (b+1))=rowsF (line.length+1) (fun j=>if j=b then .int .i64 ((es.take 0).foldl (edgeR (restT (G.drop (b+1)))) (-1)) else restF G (b+1) j) from rowsF_congr fun j hj=>by
      by_cases h:j=b
      ·rw [if_pos h];unfold restF;rw [if_neg (by omega)];rfl
      ·rw [if_neg h]]
     refine tloop rfl mixed [7,11,76,77,78] [] (fun m r h=>∃ (k:Nat),r=[(7,[],.optr fb 0),(11,[],.int .i64 b),(76,[],.sl 7 none (es.map encEdg)),(77,[],.int .i64 (es.map encEdg).length),(78,[],.int .i64 k)]∧h=(fb,.vec [.sl 1 (some q) (G.map encEdgs),.osl rb 0 (line.length+1) 1])::(rb,.vec (rowsF (line.length+1) (fun j=>if j=b then .int .i64 ((es.take k).foldl (edgeR (restT (G.drop (b+1)))) (-1)) else restF G (b+1) j)))::[(q,.tok)]∧m=es.length - k∧k≤es.length) ?_ ?_
     ·conv=>whnf
      exact ⟨_,_,Turn.refl _ _,_,0,rfl,rfl,rfl,by omega⟩
     ·rintro m r h' ⟨k,rfl,rfl,rfl,hk⟩
      conv=>whnf
      refine ⟨fun hk2=>?_,fun hk2=>?_⟩<;>simp at hk2
      ·obtain ⟨x,hx⟩:=get_lt hk2
       obtain ⟨hxa,hxt,hxc⟩:=hmem x (List.mem_of_getElem? hx)
       have hu1:=hxa.some
       have hto:=hxa.to
       have htk:=take_snoc hx
       obtain ⟨u,hu⟩:∃ u,u=x.word.uses.length:=⟨_,rfl⟩
       rw [← hu] at hxt hu1 hto
       obtain ⟨cur,hcur⟩:∃ cur,cur=(es.take k).foldl (edgeR (restT (G.drop (b+1)))) (-1):=⟨_,rfl⟩
       obtain ⟨qv,hqv⟩:∃ qv,qv=restV G (b+u):=⟨_,rfl⟩
       have hqt:(restT (G.drop (b+1))).getD (x.word.uses.length - 1) 0=qv:=by
        have h1:=restT_get (G.drop (b+1)) (u - 1) (by rw [List.length_drop];omega)
        rw [restV_drop,show b+1+(u - 1)=b+u by omega,← hqv] at h1
        rw [List.getD,← hu,h1];rfl
       have hnx:(es.take (k+1)).foldl (edgeR (restT (G.drop (b+1)))) (-1)=edgeStep qv cur x.cost:=by
        rw [htk,List.foldl_append,← hcur]
        show edgeR _ cur x=_
        unfold edgeR
        rw [hqt]
       have hbt:=restT_bound (G.drop (b+1)) fun e he=>hGc e (List.mem_of_mem_drop he)
       have hqb:-1≤qv∧qv≤18000*60:=by
        have h1:=restT_get (G.drop (b+1)) (u - 1) (by rw [List.length_drop];omega)
        rw [restV_drop,show b+1+(u - 1)=b+u by omega,← hqv] at h1
        have:=hbt qv (List.mem_of_getElem? h1)
        rw [List.length_drop] at this
        omega
       have hq1:(fun j=>if j=b then AV.int .i64 cur else restF G (b+1) j) (0+(b+u)*1)=.int .i64 qv:=by
        show (if 0+(b+u)*1=b then _ else _)=_
        rw [if_neg (by omega)]
        unfold restF
        rw [if_pos (by omega),hqv,show 0+(b+u)*1=b+u by omega]
       have hq2:(fun j=>if j=b then AV.int .i64 cur else restF G (b+1) j) (0+b*1)=.int .i64 cur:=by
        show (if 0+b*1=b then _ else _)=_
        rw [if_pos (by omega)]
       rw [← hcur]
       conv=>whnf
       repeat ((first|refine ⟨gP_of ⟨by omega,by omega⟩,?_⟩|refine ix (by assumption) ?_|(refine ⟨b+u,gP_of ⟨by rw [hto];omega,by omega⟩,?_⟩)|(refine ixo (i:=b) (by omega) ?_)|(refine ldoF (.int .i64 qv) (.tail _ (.head _)) rfl (by omega) hq1 ?_)|(refine ldoF (.int .i64 cur) (.tail _ (.head _)) rfl (by omega) hq2 ?_)|refine ⟨_,_,Rem.here _,⟨Nat.le_of_ble_eq_true rfl,rfl⟩,?_⟩|refine ⟨_,_,.head _,rfl,?_⟩|refine And.intro (by show drawOK (opsAt Tryz.f62 _) _=true;decide +kernel) ?_|intro (nb:Nat));conv=>whnf)
       refine ⟨fun hz=>?_,fun hz=>?_⟩
       ·have hn:edgeStep qv cur x.cost=x.cost+qv:=by unfold edgeStep;rw [if_pos hz]
        rw [hn] at hnx
        conv=>whnf
        repeat ((first|refine ⟨gP_of ⟨by omega,by omega⟩,?_⟩|(refine ixo (i:=b) (by omega) ?_)|(refine stoF ?_ (.there (.here _)) ?_;(focus omega))|refine ⟨_,_,.head _,rfl,?_⟩|refine And.intro (by show drawOK (opsAt Tryz.f62 _) _=true;decide +kernel) ?_);conv=>whnf)
        refine ⟨_,_,Turn.refl _ _,_,(by omega),k+1,rfl,?_,rfl,by omega⟩
        rw [hnx]
        refine heap3 rfl (rowsF_congr fun j hj=>?_)
        by_cases h:j=b
        ·rw [if_pos (by omega),if_pos h]
        ·rw [if_neg (by omega),if_neg h,if_neg h]
       ·have hn:edgeStep qv cur x.cost=cur:=by unfold edgeStep;rw [if_neg (by rw [hz];decide)]
        rw [hn] at hnx
        conv=>whnf
        repeat (refine ⟨gP_of ⟨by omega,by omega⟩,?_⟩;conv=>whnf)
        refine ⟨_,_,Turn.refl _ _,_,(by omega),k+1,rfl,?_,rfl,by omega⟩
        rw [hnx]
      ·rw [List.take_of_length_le hk2]
       have hrv:restV G b=es.foldl (edgeR (restT (G.drop (b+1)))) (-1):=by
        unfold restV
        rw [drop_cons hgb]
        rfl
       rw [← hrv,show rowsF (line.length+1) (fun j=>if j=b then AV.int .i64 (restV G b) else restF G (b+1) j)=rowsF (line.length+1) (restF G b) from rowsF_congr fun j hj=>by
        by_cases h:j=b
        ·rw [if_pos h];unfold restF;rw [if_pos (by omega),h]
        ·rw [if_neg h]
         unfold restF
         by_cases h2:b≤j
         ·rw [if_pos (by omega),if_pos h2]
         ·rw [if_neg (by omega),if_neg h2]]
       conv=>whnf
       repeat (refine ⟨gP_of ⟨by omega,by omega⟩,?_⟩;conv=>whnf)
       exact ⟨_,_,Turn.refl _ _,_,(by omega),b,_,rfl,rfl,rfl,rfl,by omega⟩
    ·have:a=0:=by omega
     subst this
     conv=>whnf
     skip
     exact .inr ⟨hg0,fb,rb,ev,hp,rfl,ho,rfl⟩
end Go.Abs.Wall
namespace Go.Abs.Wall
open Go Go.Abs Go.Proofs
def encForest (G:List (List Edg)) (R:List Int):List AV:=[.sl 1 none (G.map encEdgs),.sl 1 none (ints R)]
def growV (H:Hou) (line:List Int):AV:=if growErr H line=0 then .iptr (encForest (graphM H line) (restT (graphM H line))) else .nilP
theorem restRow (G:List (List Edg)) (n:Nat) (h:G.length=n):(List.range (n+1)).map (fun j=>[restF G 0 j])=ints (restT G):=by
 rw [restT_map,h]
 unfold ints
 rw [List.map_map]
 refine List.map_congr_left fun j _=>?_
 show [AV.int .i64 (if 0≤j then restV G j else -1)]=_
 rw [if_pos (Nat.zero_le _)]
 rfl
theorem growW (H:Hou) (line:List Int) (hfit:HouFit H) (hlen:line.length≤1048576):QCall Tryz.prog 62 [.agg (encHou H),.sl 1 none (ints line)] [] (.tup [growV H line,.int .i64 (growErr H line)]):=by
 have h0:=growA H line hfit hlen
 have hl:(graphM H line).length=line.length:=by simp [graphM]
 refine QCall.of (ACalls.frzOr (R:=fun v h'=>(growErr H line≠0∧v=.tup [.nilP,.int .i64 (growErr H line)])∨(growErr H line=0∧∃ fb ev hp,v=.tup [.optr fb 0,.int .i64 0]∧Out 1 encEdgs (graphM H line) ev hp∧h'=(fb,.vec [ev,.sl 1 none (ints (restT (graphM H line)))])::hp)) (ACalls.frzOr h0 ?_) ?_)
 ·rintro v h1 (h|⟨hg,fb,rb,ev,hp,rfl,ho,rfl⟩)
  ·exact .inl (.inl h)
  ·refine .inr ⟨rb,_,_,(fb,.vec [ev,.sl 1 none (ints (restT (graphM H line)))])::hp,_,.there (.here _),.vec (.cons (.refl _) (.cons (fzF (restRow _ _ hl).symm) .nil)) (FzH.refl _),.refl _,.inr ⟨hg,fb,ev,hp,rfl,ho,rfl⟩⟩
 ·rintro v h1 (⟨hg,rfl⟩|⟨hg,fb,ev,hp,rfl,ho,rfl⟩)
  ·left
   unfold growV
   rw [if_neg hg]
   exact VLe.refl _
  ·refine .inr ⟨fb,_,hp,hp,_,.here _,FzH.refl _,.tup (.cons (.ptr rfl) (.cons (.refl _) .nil)),?_⟩
   unfold growV
   rw [if_pos hg,hg]
   exact VLe.tup (.cons (VLe.iptr (.cons (Out.le (by decide) ho) (.cons (VLe.refl _) .nil))) (.cons (VLe.refl _) .nil))
end Go.Abs.Wall
namespace Go.Abs.Wall
open Go Go.Abs Go.Proofs
def ins {α:Type} (cmp:α→α→Int) (a:α):List α→List α
 | []=>[a]
 | b::t=>if cmp b a<0 then b::ins cmp a t else a::b::t
def isort {α:Type} (cmp:α→α→Int):List α→List α
 | []=>[]
 | a::t=>ins cmp a (isort cmp t)
theorem ins_perm {α:Type} {cmp:α→α→Int} {a:α}:∀ {l:List α},(ins cmp a l).Perm (a::l)
 | []=>.refl _
 | b::t=>by
   unfold ins
   split
   ·exact (List.Perm.cons _ ins_perm).trans (.swap _ _ _)
   ·exact .refl _
theorem isort_perm {α:Type} {cmp:α→α→Int}:∀ {l:List α},(isort cmp l).Perm l
 | []=>.refl _
 | a::t=>ins_perm.trans (List.Perm.cons _ isort_perm)
theorem ins_sorted {α:Type} {cmp:α→α→Int} (h:OrdW cmp) {a:α}:∀ {l:List α},l.Pairwise (fun x y=>¬ cmp y x<0)→(ins cmp a l).Pairwise fun x y=>¬ cmp y x<0
 | [],_=>by simp [ins]
 | b::t,hl=>by
   rw [List.pairwise_cons] at hl
   unfold ins
   split
   ·rename_i hc
    rw [List.pairwise_cons]
    refine ⟨fun x hx=>?_,ins_sorted h hl.2⟩
    rcases List.mem_cons.1 (ins_perm.mem_iff.1 hx) with rfl|hx
    ·exact fun h2=>h.irr _ (h.tr _ _ _ hc h2)
    ·exact hl.1 x hx
   ·rename_i hc
    rw [List.pairwise_cons,List.pairwise_cons]
    refine ⟨fun x hx=>?_,hl⟩
    rcases List.mem_cons.1 hx with rfl|hx
    ·exact hc
    ·exact h.nt _ _ _ (hl.1 x hx) hc
theorem isort_sorted {α:Type} {cmp:α→α→Int} (h:OrdW cmp):∀ {l:List α},(isort cmp l).Pairwise fun x y=>¬ cmp y x<0
 | []=>.nil
 | a::t=>ins_sorted h (isort_sorted h)
theorem OrdW.isort {α:Type} {cmp:α→α→Int} (h:OrdW cmp) {l:List α} (ha:∀ x∈l,∀ y∈l,¬ cmp x y<0→¬ cmp y x<0→x=y):sortL cmp l=Wall.isort cmp l:=(h.unique ha isort_perm (isort_sorted h)).symm
theorem usesM_i (p:Int) (s:Sgn):usesM p s=isort useCmp (useGo p s.values):=zU.c.w.isort fun x _ y _=>zU.c.anti x y
def allI (H:Hou) (line:List Int) (at_:Nat):List (List Use):=((line.drop at_).take 12).map fun n=>isort useCmp (useGo H.period (sgnAt H n).values)
theorem allAt_i (H:Hou) (line:List Int) (at_:Nat):allAt H line at_=allI H line at_:=by
 unfold allAt allI
 refine List.map_congr_left fun n _=>?_
 unfold usesAt
 exact usesM_i _ _
theorem edgsAt_i {H:Hou} (hH:HouOK H) {line:List Int} (hl:∀ s∈line,0≤s∧s<H.list.signs.length) (at_:Nat):edgsAt H line at_=isort edgCmp (wordsAll H (allI H line at_) at_):=by
 unfold edgsAt sortE
 rw [allAt_i]
 have hA:=allAt_ok hH (line:=line) (at_:=at_) hl
 rw [allAt_i] at hA
 have hw:=wordsAll_at hH hA.1 hA.2 (at_:=at_)
 exact edgW.isort fun x hx y hy h1 h2=>edgAt_eq (hw x hx) (hw y hy) (zW.c.anti _ _ h1 h2)
end Go.Abs.Wall
namespace Go.Abs.Wall
open Go Go.Abs Go.Proofs
def c41:Cfg:=⟨[0,1,4,5,9],[],[4],[],[],[]⟩
def c27:Cfg:=⟨[0,1,2],[4,7,10,13,16,19,22,26],[0,1,2],[],[],[4,7,10,13,16,19,22,26]⟩
theorem signA1 (code t:List UInt8) (k:Int) (b:Nat):ACalls Tryz.prog 41 [.str code,.osl b 0 1 4] [(b,.vec [.int .i64 k,.str t,.int .i64 0,.int .i64 0])] (fun v h'=>v=.agg (encSgn ⟨code,1,1,false,[⟨k,t,1,1⟩]⟩)∧h'=[]):=by
 refine ACalls.frz (R:=fun v h'=>v=.agg [.str code,.int .i64 1,.int .i64 1,.bool false,.osl b 0 1 4]∧h'=[(b,.vec [.int .i64 k,.str t,.int .i64 1,.int .i64 1])]) ?_ ?_
 ·refine fcalls (F:=Tryz.f41) c41 rfl rfl rfl mixed rfl fun X=>?_
  conv=>whnf
  intro rb
  conv=>whnf
  refine uloop 60 rfl mixed ?_
  conv=>whnf
  refine .inr ?_
  conv=>whnf
  refine cT rfl ?_
  conv=>whnf
  repeat ((first|refine ⟨gP_of ⟨by omega,by omega⟩,?_⟩|(refine ⟨0,gP_of ⟨rfl,by decide⟩,?_⟩)|(refine ⟨_,_,.there (.here _),leOK,?_⟩));conv=>whnf)
  refine .inr ?_
  conv=>whnf
  refine cF rfl ?_
  conv=>whnf
  repeat (refine ⟨_,_,Rem.here _,⟨Nat.le_of_ble_eq_true rfl,rfl⟩,?_⟩;conv=>whnf)
  exact ⟨rfl,rfl⟩
 ·rintro v h1 ⟨rfl,rfl⟩
  exact ⟨b,_,[],[],_,.here _,.nil,.agg (.cons (.refl _) (.cons (.refl _) (.cons (.refl _) (.cons (.refl _) (.cons (.row (xs':=[]) (pre:=[]) (post:=[]) (xs:=[[.int .i64 k,.str t,.int .i64 1,.int .i64 1]]) rfl rfl rfl (by simp)) .nil))))),rfl,rfl⟩
theorem signA2 (code t t2:List UInt8) (k k2:Int) (b:Nat):ACalls Tryz.prog 41 [.str code,.osl b 0 2 4] [(b,.vec [.int .i64 k,.str t,.int .i64 0,.int .i64 0,.int .i64 k2,.str t2,.int .i64 0,.int .i64 0])] (fun v h'=>v=.agg (encSgn ⟨code,1,1,false,[⟨k,t,1,1⟩,⟨k2,t2,1,1⟩]⟩)∧h'=[]):=by
 refine ACalls.frz (R:=fun v h'=>v=.agg [.str code,.int .i64 1,.int .i64 1,.bool false,.osl b 0 2 4]∧h'=[(b,.vec [.int .i64 k,.str t,.int .i64 1,.int .i64 1,.int .i64 k2,.str t2,.int .i64 1,.int .i64 1])]) ?_ ?_
 ·refine fcalls (F:=Tryz.f41) c41 rfl rfl rfl mixed rfl fun X=>?_
  conv=>whnf
  intro rb
  conv=>whnf
  refine uloop 60 rfl mixed ?_
  conv=>whnf
  refine .inr ?_
  conv=>whnf
  refine cT rfl ?_
  conv=>whnf
  repeat ((first|refine ⟨gP_of ⟨by omega,by omega⟩,?_⟩|(refine ⟨0,gP_of ⟨rfl,by decide⟩,?_⟩)|(refine ⟨_,_,.there (.here _),leOK,?_⟩));conv=>whnf)
  refine .inr ?_
  conv=>whnf
  refine cT rfl ?_
  conv=>whnf
  repeat ((first|refine ⟨gP_of ⟨by omega,by omega⟩,?_⟩|(refine ⟨1,gP_of ⟨rfl,by decide⟩,?_⟩)|(refine ⟨_,_,.there (.here _),leOK,?_⟩));conv=>whnf)
  refine .inr ?_
  conv=>whnf
  refine cF rfl ?_
  conv=>whnf
  repeat (refine ⟨_,_,Rem.here _,⟨Nat.le_of_ble_eq_true rfl,rfl⟩,?_⟩;conv=>whnf)
  exact ⟨rfl,rfl⟩
 ·rintro v h1 ⟨rfl,rfl⟩
  exact ⟨b,_,[],[],_,.here _,.nil,.agg (.cons (.refl _) (.cons (.refl _) (.cons (.refl _) (.cons (.refl _) (.cons (.row (xs':=[]) (pre:=[]) (post:=[]) (xs:=[[.int .i64 k,.str t,.int .i64 1,.int .i64 1],[.int .i64 k2,.str t2,.int .i64 1,.int .i64 1]]) rfl rfl rfl (by simp)) .nil))))),rfl,rfl⟩
def exS (code:List UInt8) (l:List Val):Sgn:=⟨code,1,1,false,l⟩
def exH:Hou:=⟨⟨1,[exS [65,49] [⟨1,[110],1,1⟩],exS [66,49] [⟨1,[110,102,114],1,1⟩],exS [67,49] [⟨1,[102],1,1⟩],exS [68,49] [⟨1,[114],1,1⟩],
  exS [69,49] [⟨2,[110,102,114],1,1⟩],exS [70,49] [⟨3,[103,111,111,100],1,1⟩],exS [71,49] [⟨1,[116],1,1⟩],exS [72,49] [⟨1,[110],1,1⟩,⟨2,[110],1,1⟩]]⟩,
 ⟨[⟨[110,102,114],1,[103,111,111,100],2⟩,⟨[110],2,[],1⟩],[⟨1,[116],[102,101,109],1⟩],[⟨[102],[104,105,115],3⟩]⟩,⟨1,0,0,0,4⟩,1⟩
theorem exampleW:QCall Tryz.prog 27 [] [] (.agg (encHou exH)):=by
 refine QCall.of' ?_
 refine fcalls (F:=Tryz.f27) c27 rfl rfl rfl mixed rfl fun X=>?_
 conv=>whnf
 intro rb
 conv=>whnf
 repeat ((first|(intro (nb:Nat))|(refine ACalls.mono ?_ (ACalls.frame (signA1 _ _ _ _) _);rintro v h1 ⟨h2,⟨rfl,rfl⟩,rfl⟩)|(refine ACalls.mono ?_ (ACalls.frame (signA2 _ _ _ _ _ _) _);rintro v h1 ⟨h2,⟨rfl,rfl⟩,rfl⟩)|refine ⟨_,_,Rem.here _,⟨Nat.le_of_ble_eq_true rfl,rfl⟩,?_⟩);conv=>whnf)
 rfl
end Go.Abs.Wall
namespace Go.Abs.Wall
open Go Go.Abs Go.Proofs
def exN (q n0 n1 n2:Nat):AV:=.sl 1 (some q) [[.optr n0 0],[.optr n1 0],[.optr n2 0]]
end Go.Abs.Wall
namespace Go.Abs.Wall
open Go Go.Abs Go.Proofs
end Go.Abs.Wall
