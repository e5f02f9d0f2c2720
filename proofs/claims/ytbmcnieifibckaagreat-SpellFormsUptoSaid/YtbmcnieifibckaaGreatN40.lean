/- What is proved: small laws for the walks of this seat, and contracts of its functions. No condition but those each theorem names. -/
import Derived.Test.YtbmcnieifibckaaGreatN38
import Derived.Test.YtbmcnieifibckaaGreatN19
set_option maxRecDepth 100000
set_option maxHeartbeats 2000000
set_option linter.unusedVariables false
set_option linter.unusedSimpArgs false
namespace Go.Abs.Wall.Spl
open Go Go.Abs Go.Proofs Go.Abs.Wall
def frmP (a b:Frm):Int:=orI [cmpI a.entry b.entry,cmpI a.ending b.ending,cmpL cmpI a.clitics b.clitics]
theorem zF:OrdZ frmP:=by
 have h:=(OrdZ.lexC zI (OrdZ.lexC zI zI.cmpL)).of (fun f:Frm=>(f.entry,f.ending,f.clitics)) (fun a b h=>by
  obtain ⟨a1,a2,a3⟩:=a
  obtain ⟨b1,b2,b3⟩:=b
  simp at h
  simp [h])
 have he:frmP=fun a b=>lexC cmpI (lexC cmpI (cmpL cmpI)) ((fun f:Frm=>(f.entry,f.ending,f.clitics)) a) ((fun f:Frm=>(f.entry,f.ending,f.clitics)) b):=by
  funext a b
  simp only [frmP,lexC]
  rw [orI,orI2]
 rw [he];exact h
theorem frmP_cmp (a b:Frm):(frmP a b<0↔frmCmp a b<0)∧(frmP a b=0↔frmCmp a b=0):=by
 have hc:=cliCmp_cmp a.clitics b.clitics
 unfold frmP frmCmp
 rw [orI,orI2]
 by_cases h1:a.entry=b.entry
 ·have k1:¬ cmpI a.entry b.entry≠0:=by rw [ne_eq,cmpI_zero];simpa using h1
  have k2:¬ a.entry≠b.entry:=by simpa using h1
  rw [if_neg k1,if_neg k2]
  by_cases h2:a.ending=b.ending
  ·have k3:¬ cmpI a.ending b.ending≠0:=by rw [ne_eq,cmpI_zero];simpa using h2
   have k4:¬ a.ending≠b.ending:=by simpa using h2
   rw [if_neg k3,if_neg k4]
   exact ⟨hc.1.symm,hc.2.symm⟩
  ·have k3:cmpI a.ending b.ending≠0:=by rw [ne_eq,cmpI_zero];exact h2
   have k4:a.ending≠b.ending:=h2
   rw [if_pos k3,if_pos k4,cmpI_lt,cmpI_zero]
   omega
 ·have k1:cmpI a.entry b.entry≠0:=by rw [ne_eq,cmpI_zero];exact h1
  have k2:a.entry≠b.entry:=h1
  rw [if_pos k1,if_pos k2,cmpI_lt,cmpI_zero]
  omega
def eqs {α:Type} [DecidableEq α]:List α→List α
 | []=>[]
 | [x]=>[x]
 | x::y::r=>if x=y then eqs (y::r) else x::eqs (y::r)
def eqsT {α:Type} [DecidableEq α]:α→List α→List α
 | _,[]=>[]
 | x,y::t=>if y=x then eqsT y t else y::eqsT y t
theorem eqs_cons {α:Type} [DecidableEq α]:∀ (t:List α) (x:α),eqs (x::t)=x::eqsT x t
 | [],x=>rfl
 | y::r,x=>by
   unfold eqs eqsT
   rw [eqs_cons r y]
   by_cases h:x=y
   ·rw [if_pos h,if_pos h.symm,h]
   ·rw [if_neg h,if_neg (fun e=>h e.symm)]
theorem eqsT_mem {α:Type} [DecidableEq α] {a:α}:∀ (t:List α) (x:α),(a=x∨a∈eqsT x t)↔(a=x∨a∈t)
 | [],x=>by simp [eqsT]
 | y::r,x=>by
   unfold eqsT
   have ih:=eqsT_mem (a:=a) r y
   by_cases h:y=x
   ·rw [if_pos h,← h,ih,List.mem_cons]
    simp
   ·rw [if_neg h,List.mem_cons,ih,List.mem_cons]
theorem eqs_mem {α:Type} [DecidableEq α] {a:α} (l:List α):a∈eqs l↔a∈l:=by
 cases l with
 | nil=>rfl
 | cons x t=>rw [eqs_cons,List.mem_cons,List.mem_cons,eqsT_mem]
theorem eqsT_len {α:Type} [DecidableEq α]:∀ (t:List α) (x:α),(eqsT x t).length≤t.length
 | [],x=>Nat.le_refl _
 | y::r,x=>by
   unfold eqsT
   have:=eqsT_len r y
   split<;>simp<;>omega
theorem eqs_len {α:Type} [DecidableEq α] (L:List α):(eqs L).length≤L.length:=by
 cases L with
 | nil=>simp [eqs]
 | cons x t=>
   have:=eqsT_len t x
   rw [eqs_cons]
   simp
   omega
theorem encFrm_len (x:Frm):(encFrm x).length=3:=rfl
def decFrm:List AV→Frm
 | [.int _ e,.int _ n,.sl _ _ cl]=>⟨e,n,decInts cl⟩
 | _=>⟨0,0,[]⟩
theorem decFrm_enc (f:Frm):decFrm (encFrm f)=f:=by
 obtain ⟨e,n,cl⟩:=f
 show Frm.mk e n (decInts (ints cl))=_
 rw [decInts_enc]
def c78:Cfg:=⟨[0,1,2,3,4],[],[],[],[(1,[0,1,2,3,4,5,6,7,8,9,10,11,12,13,14,15,16,17],[])],[]⟩
def c80:Cfg:=⟨[0,1,2,3,4],[],[],[],[],[]⟩
def c79:Cfg:=⟨[0,1,4,5,6,7,10,15,28,35,49],[],[],[],[(6,[0,1,2,3,4,5,6,7,8,9,10],[]),(11,[0,1,2,3,4,5,6,7,8,9,10,11],[])],[]⟩
def c77:Cfg:=⟨[0,1,4],[],[],[],[],[]⟩
def c134:Cfg:=⟨[0,1,2,3,4,10,11,12,13,14,15,16,17,18,19,20,25,32,39,56,75,80,97,125],[],[],[],[(17,[0,1,2,3,4,5,6,7,8,9,10,11,12,13,14,15,16],[])],[]⟩
def c200:Cfg:=⟨[0,1,2,3,8,9,14,34],[],[],[],[(4,[0,1,2,3,4,5,6,7,8,9,10,11,12,13,14,15,16],[]),(6,[0,1,2,3,4,5,6,7,8,9,10,11,12,13,14,15,16,17],[])],[]⟩
def c83:Cfg:=⟨[0,1,2,3,4],[],[],[],[],[]⟩
def c39:Cfg:=⟨[0,1,2,4,5,6,7,8,9,10,11,19,24,56],[],[10],[],[(10,[0,1,2,3,4,5,6,7,8,9,10,11,12,13,14,15,16,17,18,19,20],[])],[]⟩
def c38:Cfg:=⟨[0,1,2,4,5,6,8,16,18,19,20,21,28],[],[8],[],[],[]⟩
def c9:Cfg:=⟨[0,1,2,4,5,6,7,8,9,12,35,39,51],[],[],[],[(10,[0,1,2,3,4,5,6,7,8,9],[])],[]⟩
theorem spCmpForms (a b:Frm) (ha:a.clitics.length≤1048576) (hb:b.clitics.length≤1048576):QCall Tryz.prog 78 [.agg (encFrm a),.agg (encFrm b)] [] (.int .i64 (frmP a b)):=by
 refine fcalls (F:=Tryz.f78) c78 rfl rfl rfl mixed rfl fun X=>?_
 conv=>whnf
 repeat ((first|refine gcall (compareI _ _) ?_|refine gcall (compareIs a.clitics b.clitics (by unfold LMAX;omega) (by unfold LMAX;omega)) ?_|refine gcall (orW [cmpI a.entry b.entry,cmpI a.ending b.ending,cmpL cmpI a.clitics b.clitics] (by simp [LMAX])) ?_|refine And.intro (by show drawOK (opsAt Tryz.f78 _) _=true;decide +kernel) ?_);conv=>whnf)
 exact ⟨rfl,rfl⟩
theorem spEqForms (a b:Frm) (ha:a.clitics.length≤1048576) (hb:b.clitics.length≤1048576):QCall Tryz.prog 80 [.agg (encFrm a),.agg (encFrm b)] [] (.bool (decide (a=b))):=by
 refine fcalls (F:=Tryz.f80) c80 rfl rfl rfl mixed rfl fun X=>?_
 conv=>whnf
 repeat (refine QCall.k0 (spCmpForms a b ha hb) ?_;conv=>whnf)
 refine ⟨congrArg AV.bool ?_,rfl⟩
 rw [decide_eq_decide]
 exact zF.zero a b
theorem sortLawG:SortLaw Tryz.prog 77 78 3:=
 sortLaw Tryz.sortForm 3 78 Tryz.isAgg38 Tryz.sizeOf38 (fun args w=>run_call ⟨Tryz.f78,_,rfl,rfl,rfl⟩)
theorem insNilG (c:FuncId):QCall Tryz.prog 200 [.nilS,.int .i64 0,.int .i64 0,.fn c []] [] (.tup []):=by
 refine fcalls (F:=Tryz.f200) c200 rfl rfl rfl mixed rfl fun X=>?_
 conv=>whnf
 repeat (refine ⟨gP_of ⟨by omega,by omega⟩,?_⟩;conv=>whnf)
 refine sloop rfl mixed [0,1,2,3,8] [] (fun m r h=>r=[(0,[],.nilS),(1,[],.int .i64 0),(2,[],.int .i64 0),(3,[],.fn c []),(8,[],.int .i64 1)]∧h=[]∧m=0∧True) ?_ ?_
 ·conv=>whnf
  exact ⟨_,rfl,rfl,rfl,trivial⟩
 ·rintro m r h ⟨rfl,rfl,rfl,_⟩
  conv=>whnf
  refine cF rfl ?_
  conv=>whnf
  exact ⟨rfl,rfl⟩
theorem pdqNilG (c:FuncId):QCall Tryz.prog 134 [.nilS,.int .i64 0,.int .i64 0,.int .i64 0,.fn c []] [] (.tup []):=by
 refine fcalls (F:=Tryz.f134) c134 rfl rfl rfl mixed rfl fun X=>?_
 conv=>whnf
 skip
 refine sloop rfl mixed [0,1,2,3,4,10,11] [] (fun m r h=>r=[(0,[],.nilS),(1,[],.int .i64 0),(2,[],.int .i64 0),(3,[],.int .i64 0),(4,[],.fn c []),(10,[],.bool true),(11,[],.bool true)]∧h=[]∧m=0∧True) ?_ ?_
 ·conv=>whnf
  exact ⟨_,rfl,rfl,rfl,trivial⟩
 ·rintro m r h ⟨rfl,rfl,rfl,_⟩
  conv=>whnf
  repeat (refine ⟨gP_of ⟨by omega,by omega⟩,?_⟩;conv=>whnf)
  refine cT rfl ?_
  conv=>whnf
  repeat (refine QCall.k0 (insNilG c) ?_;conv=>whnf)
  exact ⟨rfl,rfl⟩
theorem sortNilG (c:FuncId):QCall Tryz.prog 77 [.nilO,.fn c []] [] (.tup []):=by
 refine QCall.args (args':=[.nilS,.fn c []]) ?_ (.cons (by intro c u h;simpa [Rep] using h) (.cons (VLe.refl _) .nil))
 refine fcalls (F:=Tryz.f77) c77 rfl rfl rfl mixed rfl fun X=>?_
 conv=>whnf
 repeat ((first|refine QCall.k0 (bitsLen) ?_|refine QCall.k0 (pdqNilG c) ?_);conv=>whnf)
 exact ⟨rfl,rfl⟩
theorem sortOwnG (b:Nat) (xs:List Frm) (hx:∀ x∈xs,x.clitics.length≤1048576) (hne:xs≠[]) (hlx:xs.length≤4294967296) :
  ACalls Tryz.prog 77 [.osl b 0 xs.length 3,.fn 78 []] [(b,.vec (xs.map encFrm).flatten)] (fun v h'=>v=.tup []∧h'=[(b,.vec ((sortL frmP xs).map encFrm).flatten)]):=
 sortF_encW (by decide) ⟨Tryz.f77,_,rfl,rfl,rfl⟩ ⟨Tryz.f78,_,rfl,rfl,rfl⟩ sortLawG frmP (dec:=decFrm) decFrm_enc (fun a=>rfl) zF.c.w xs (fun x hx y hy h1 h2=>zF.c.anti _ _ h1 h2) hne hlx (fun x h1 y h2=>spCmpForms x y (hx x h1) (hx y h2)) b
theorem cptF (b:Nat) (L:List Frm) (hne:L≠[]) (hl:L.length≤1048576) (hx:∀ x∈L,x.clitics.length≤1048576) :
  ACalls Tryz.prog 79 [.osl b 0 L.length 3,.fn 80 []] [(b,.vec (L.map encFrm).flatten)] (fun v h'=>∃ post:List AV,v=.osl b 0 (eqs L).length 3∧h'=[(b,.vec (((eqs L).map encFrm).flatten++post))]):=by
 have hn:0<L.length:=List.length_pos_iff.2 hne
 refine fcalls (F:=Tryz.f79) c79 rfl rfl rfl mixed rfl fun X=>?_
 conv=>whnf
 refine ⟨fun hs=>?_,fun hs=>?_⟩<;>simp only [decide_eq_true_eq,decide_eq_false_iff_not] at hs
 ·have h1:eqs L=L:=by
   cases L with
   | nil=>exact absurd rfl hne
   | cons x t=>
     cases t with
     | nil=>rfl
     | cons y r=>simp at hs;omega
  conv=>whnf
  skip
  exact ⟨[],by rw [h1],by rw [h1,List.append_nil]⟩
 obtain ⟨x0,hx0⟩:=get_lt (l:=L) (i:=0) hn
 have hc0:eqs L=L.take 1++eqsT x0 (L.drop 1):=by
  have h2:=drop_cons hx0
  rw [List.drop_zero] at h2
  rw [h2,eqs_cons]
  rfl
 conv=>whnf
 skip
 refine sloop rfl mixed [0,1,5] [] (fun m r h=>∃ (k:Nat) (p:Frm),r=[(0,[],.osl b 0 L.length 3),(1,[],.fn 80 []),(5,[],.int .i64 k)]∧h=[(b,.vec (L.map encFrm).flatten)]∧m=L.length - k∧1≤k∧k≤L.length∧L[k - 1]?=some p∧eqs L=L.take k++eqsT p (L.drop k)) ?_ ?_
 ·conv=>whnf
  exact ⟨_,1,x0,rfl,rfl,rfl,by omega,by omega,hx0,hc0⟩
 ·clear hc0
  rintro m r h ⟨k,p,rfl,rfl,rfl,hk1,hk2,hp,hc⟩
  conv=>whnf
  skip
  refine ⟨fun hi2=>?_,fun hi2=>?_⟩<;>simp only [decide_eq_true_eq,decide_eq_false_iff_not] at hi2
  ·obtain ⟨y,hy⟩:=get_lt (l:=L) (i:=k) (by omega)
   have hyp:=spEqForms y p (hx y (List.mem_of_getElem? hy)) (hx p (List.mem_of_getElem? hp))
   rw [drop_cons hy,eqsT] at hc
   conv=>whnf
   repeat ((first|refine ⟨gP_of ⟨by omega,by omega⟩,?_⟩|(refine ⟨k,gP_of ⟨by omega,by omega⟩,?_⟩)|(refine ⟨k - 1,gP_of ⟨by omega,by omega⟩,?_⟩)|(refine ldE encFrm_len (.head _) (Nat.zero_add _) hy ?_)|(refine ldE encFrm_len (.head _) (Nat.zero_add _) hp ?_)|(refine ⟨_,gP_of (hyp.wide _),?_⟩)|refine And.intro (by show drawOK (opsAt Tryz.f79 _) _=true;decide +kernel) ?_);conv=>whnf)
   refine ⟨fun hq=>?_,fun hq=>?_⟩
   ·have hq:y=p:=of_decide_eq_true hq
    rw [if_pos hq] at hc
    conv=>whnf
    repeat (refine ⟨gP_of ⟨by omega,by omega⟩,?_⟩;conv=>whnf)
    refine sloop rfl mixed [0,1,5,6,7] [] (fun m r h=>∃ (k:Nat) (n:Nat) (A:List Frm) (z:Frm),r=[(0,[],.osl b 0 L.length 3),(1,[],.fn 80 []),(5,[],.int .i64 A.length),(6,[],.osl b (k*3) (L.length - k) 3),(7,[],.int .i64 n)]∧h=[(b,.vec ((A++L.drop A.length).map encFrm).flatten)]∧m=L.length - (k+n)∧1≤n∧k+n≤L.length∧A.length<k+n∧L[k+n - 1]?=some z∧eqs L=A++eqsT z (L.drop (k+n))) ?_ ?_
    ·conv=>whnf
     refine ⟨_,k,1,L.take k,y,?_,?_,rfl,by omega,by omega,by rw [List.length_take];omega,by rw [Nat.add_sub_cancel];exact hy,hc⟩
     ·rw [List.length_take,Nat.min_eq_left (by omega),show 0+((k:Nat):Int).toNat*3=k*3 by omega]
      rfl
     ·rw [List.length_take,Nat.min_eq_left (by omega),List.take_append_drop]
    ·clear hc hq hp hy hyp
     rintro m r h ⟨k,n,A,z,rfl,rfl,rfl,hn1,hn2,hA,hz,hc⟩
     have hR:∀ j,A.length≤j→(A++L.drop A.length)[j]?=L[j]?:=by
      intro j hj
      rw [List.getElem?_append_right hj,List.getElem?_drop,show A.length+(j - A.length)=j by omega]
     have hRl:(A++L.drop A.length).length=L.length:=by rw [List.length_append,List.length_drop];omega
     conv=>whnf
     skip
     refine ⟨fun hi3=>?_,fun hi3=>?_⟩<;>simp only [decide_eq_true_eq,decide_eq_false_iff_not] at hi3
     ·obtain ⟨y,hy⟩:=get_lt (l:=L) (i:=k+n) (by omega)
      have hy2:=(hR (k+n) (by omega)).trans hy
      have hz2:=(hR (k+n - 1) (by omega)).trans hz
      have hyz:=spEqForms y z (hx y (List.mem_of_getElem? hy)) (hx z (List.mem_of_getElem? hz))
      rw [drop_cons hy,eqsT] at hc
      conv=>whnf
      repeat ((first|refine ⟨gP_of ⟨by omega,by omega⟩,?_⟩|(refine ⟨n,gP_of ⟨by omega,by omega⟩,?_⟩)|(refine ⟨n - 1,gP_of ⟨by omega,by omega⟩,?_⟩)|(refine ldE encFrm_len (.head _) (by omega) hy2 ?_)|(refine ldE encFrm_len (.head _) (by omega) hz2 ?_)|(refine ⟨_,gP_of (hyz.wide _),?_⟩)|refine And.intro (by show drawOK (opsAt Tryz.f79 _) _=true;decide +kernel) ?_);conv=>whnf)
      refine ⟨fun hq=>?_,fun hq=>?_⟩
      ·have hq:(!decide (y=z))=true:=hq
       rw [Bool.not_eq_true',decide_eq_false_iff_not] at hq
       rw [if_neg hq] at hc
       have hset:(A++L.drop A.length).set A.length y=(A++[y])++L.drop (A++[y]).length:=by
        obtain ⟨w,hw⟩:=get_lt (l:=L) (i:=A.length) (by omega)
        rw [drop_cons hw,List.set_append_right _ _ (Nat.le_refl _),Nat.sub_self,List.set_cons_zero,List.length_append,List.append_assoc]
        rfl
       conv=>whnf
       repeat ((first|refine ⟨gP_of ⟨by omega,by omega⟩,?_⟩|(refine ⟨n,gP_of ⟨by omega,by omega⟩,?_⟩)|(refine ⟨A.length,gP_of ⟨by omega,by omega⟩,?_⟩)|(refine ldE encFrm_len (.head _) (by omega) hy2 ?_)|(refine stE y (by decide) encFrm_len (i:=A.length) (by omega) (Nat.zero_add _) rfl (.here _) ?_));conv=>whnf)
       rw [hset]
       refine ⟨_,by omega,k,n+1,A++[y],y,?_,rfl,rfl,by omega,by omega,by simp;omega,by rw [show k+(n+1) - 1=k+n by omega];exact hy,?_⟩
       ·rw [List.length_append]
        first|rfl|(simp;done)
       ·rw [hc,List.append_assoc,show k+(n+1)=k+n+1 by omega]
        rfl
      ·have hq:(!decide (y=z))=false:=hq
       rw [Bool.not_eq_false',decide_eq_true_eq] at hq
       rw [if_pos hq] at hc
       conv=>whnf
       repeat (refine ⟨gP_of ⟨by omega,by omega⟩,?_⟩;conv=>whnf)
       exact ⟨_,by omega,k,n+1,A,y,rfl,rfl,rfl,by omega,by omega,by omega,by rw [show k+(n+1) - 1=k+n by omega];exact hy,by rw [hc,show k+(n+1)=k+n+1 by omega]⟩
     ·have hi4:k+n=L.length:=by omega
      rw [hi4,List.drop_length,eqsT,List.append_nil] at hc
      have hfl:=flat_len encFrm_len (A++L.drop A.length)
      have hft:=flat_take encFrm_len (A++L.drop A.length) A.length
      rw [List.take_left] at hft
      conv=>whnf
      repeat ((first|refine ⟨gP_of ⟨by omega,by omega⟩,?_⟩|(refine ⟨_,_,.here _,⟨by omega,by rw [hfl,hRl];omega⟩,?_⟩));conv=>whnf)
      refine ⟨?post,?e1,?e2⟩
      case e1=>rw [hc];rfl
      case e2=>
       rw [hc]
       unfold setC
       rw [show 0+((A.length:Nat):Int).toNat*3=A.length*3 by omega,hft,List.append_assoc]
   ·have hq:¬ y=p:=of_decide_eq_false hq
    rw [if_neg hq] at hc
    conv=>whnf
    repeat (refine ⟨gP_of ⟨by omega,by omega⟩,?_⟩;conv=>whnf)
    refine ⟨_,by omega,k+1,y,rfl,rfl,rfl,by omega,by omega,by rw [Nat.add_sub_cancel];exact hy,?_⟩
    rw [hc,take_snoc hy,List.append_assoc]
    rfl
  ·have hke:k=L.length:=by
    have:¬ (k:Int)<(L.length:Int):=hi2
    omega
   subst hke
   rw [List.take_length,List.drop_length,eqsT,List.append_nil] at hc
   conv=>whnf
   skip
   exact ⟨[],by rw [hc],by rw [hc,List.append_nil]⟩
theorem cptFA (b:Nat) (L:List Frm) (hne:L≠[]) (hl:L.length≤1048576) (hx:∀ x∈L,x.clitics.length≤1048576) :
  ACalls Tryz.prog 79 [.osl b 0 L.length 3,.fn 80 []] [(b,.vec (L.map encFrm).flatten)] (fun v h'=>v=.sl 3 none ((eqs L).map encFrm)∧h'=[]):=by
 refine ACalls.frz (cptF b L hne hl hx) ?_
 rintro v h1 ⟨post,rfl,rfl⟩
 exact ⟨b,_,[],[],_,.here _,.nil,FzV.row (pre:=[]) (post:=[post]) (xs':=[]) (by simp) rfl (by simp) (by intro x hx;obtain ⟨a,_,rfl⟩:=List.mem_map.1 hx;rfl),rfl,rfl⟩
theorem cptFN:ACalls Tryz.prog 79 [.nilO,.fn 80 []] [] (fun v h'=>v=.sl 3 none []∧h'=[]):=by
 refine QCall.of (v:=.sl 3 none []) ?_
 refine fcalls (F:=Tryz.f79) c79 rfl rfl rfl mixed rfl fun X=>?_
 conv=>whnf
 refine cT rfl ?_
 conv=>whnf
 skip
 exact nilO_le (by decide)
end Go.Abs.Wall.Spl
namespace Go.Abs.Wall.Spl
open Go Go.Abs Go.Proofs Go.Abs.Wall
def endsAt (line:List Int) (x:Edg):Bool:=decide (x.to=line.length)
def frmsOf (line:List Int) (E:List Edg):List Frm:=(E.filter (endsAt line)).map (·.word.form)
def formsM (H:Hou) (line:List Int):List Frm:=if wordsE H line 0=0 then eqs (frmsOf line (edgsAt H line 0)) else []
theorem eqsT_snoc {α:Type} [DecidableEq α] (y:α):∀ (l:List α) (x:α),eqsT x (l++[y])=eqsT x l++(if (x::l).getLast?=some y then [] else [y])
 | [],x=>by
   show eqsT x [y]=[]++_
   unfold eqsT eqsT
   by_cases h:y=x
   ·rw [if_pos h,if_pos (by rw [h];rfl)];rfl
   ·rw [if_neg h,if_neg (by simpa using fun e=>h e.symm)];rfl
 | z::r,x=>by
   have ih:=eqsT_snoc y r z
   rw [List.cons_append]
   unfold eqsT
   rw [List.getLast?_cons_cons,ih]
   by_cases h:z=x
   ·rw [if_pos h,if_pos h]
   ·rw [if_neg h,if_neg h,List.cons_append]
theorem eqsT_last {α:Type} [DecidableEq α]:∀ (l:List α) (x:α),(x::eqsT x l).getLast?=(x::l).getLast?
 | [],x=>rfl
 | z::r,x=>by
   have ih:=eqsT_last r z
   unfold eqsT
   by_cases h:z=x
   ·rw [if_pos h,List.getLast?_cons_cons,← ih,h]
   ·rw [if_neg h,List.getLast?_cons_cons,List.getLast?_cons_cons,ih]
theorem eqs_last {α:Type} [DecidableEq α] (l:List α):(eqs l).getLast?=l.getLast?:=by
 cases l with
 | nil=>rfl
 | cons x t=>rw [eqs_cons,eqsT_last]
theorem eqs_snoc {α:Type} [DecidableEq α] (l:List α) (y:α):eqs (l++[y])=eqs l++(if (eqs l).getLast?=some y then [] else [y]):=by
 rw [eqs_last]
 cases l with
 | nil=>rfl
 | cons x t=>
   rw [List.cons_append,eqs_cons,eqs_cons,eqsT_snoc]
   rfl
theorem words0_ok {H:Hou} {line:List Int} (h:wordsE H line 0=0):LineOK H line∧lexErr H.lex=0∧(edgsAt H line 0).length≤2000:=by
 unfold wordsE at h
 split at h
 ·rename_i h1;exact absurd h h1
 rename_i h1
 have h1:lineErr H line=0:=by simpa using h1
 split at h
 ·cases h
 split at h
 ·cases h
 rename_i h3
 exact ⟨lineOK h1,Lst.line_lex h1,Nat.not_lt.1 h3⟩
theorem frms_up {H:Hou} {line:List Int} (h:wordsE H line 0=0):(frmsOf line (edgsAt H line 0)).Pairwise fun a b=>¬ frmP b a<0:=by
 obtain ⟨hL,hle,_⟩:=words0_ok h
 unfold frmsOf
 rw [List.pairwise_map]
 have h1:=(Lst.edgsAt_up hL 0).filter (endsAt line)
 rw [List.pairwise_iff_forall_sublist] at h1 ⊢
 intro a b hs
 have h2:=h1 hs
 have hlen:∀ x:Edg,x∈(edgsAt H line 0).filter (endsAt line)→(x.word.uses.length:Int)=line.length:=by
  intro x hx
  obtain ⟨hx1,hx2⟩:=List.mem_filter.1 hx
  unfold endsAt at hx2
  rw [decide_eq_true_eq] at hx2
  have:=congrArg Edg.to ((edgsAt_iff hL hle (Nat.zero_le _)).1 hx1).2
  have:x.to=((0:Nat):Int)+x.word.uses.length:=this
  omega
 have ha:=hlen a (hs.subset (by simp))
 have hb:=hlen b (hs.subset (by simp))
 obtain ⟨h3,_⟩:=frmCmp_wrd a.word b.word (by omega)
 have h4:=frmP_cmp a.word.form b.word.form
 have h5:=zF.sgn a.word.form b.word.form
 have h6:=zF.sgn b.word.form a.word.form
 intro hc
 by_cases e:frmCmp a.word.form b.word.form=0
 ·have:=h4.2.2 e
  omega
 ·have:=h4.1.2 ((h3 e).2 h2)
  omega
theorem frms_sort {H:Hou} {line:List Int} (h:wordsE H line 0=0):sortL frmP (frmsOf line (edgsAt H line 0))=frmsOf line (edgsAt H line 0):=
 (zF.c.w.unique (fun x _ y _ h1 h2=>zF.c.anti _ _ h1 h2) (List.Perm.refl _) (frms_up h)).symm
theorem frmsOf_snoc {line:List Int} {E:List Edg} {k:Nat} {x:Edg} (h:E[k]?=some x):frmsOf line (E.take (k+1))=frmsOf line (E.take k)++(if endsAt line x=true then [x.word.form] else []):=by
 unfold frmsOf
 rw [take_snoc h,List.filter_append,List.map_append]
 congr 1
 by_cases e:endsAt line x=true
 ·rw [List.filter_cons_of_pos e,if_pos e];rfl
 ·rw [List.filter_cons_of_neg e,if_neg e];rfl
theorem frms_fit {H:Hou} {line:List Int} (h:wordsE H line 0=0):∀ x∈edgsAt H line 0,FrmSmall x.word.form∧Wall.WrdFit x.word:=by
 obtain ⟨hL,hle,_⟩:=words0_ok h
 intro x hx
 have hg:=Lst.edg_good hL hle (Nat.zero_le _) hx
 exact ⟨hg.small.form,hg.fit⟩
theorem spFormsW (H:Hou) (line:List Int) (hf:HouFit H) (hl:line.length≤1048576) :
  QCall Tryz.prog 38 [.agg (encHou H),.sl 1 none (ints line)] [] (.tup [.sl 3 none ((formsM H line).map encFrm),.int .i64 (wordsE H line 0)]):=by
 refine QCall.of ?_
 refine fcalls (F:=Tryz.f38) c38 rfl rfl rfl mixed rfl fun X=>?_
 conv=>whnf
 repeat (refine QCall.k0 (wordsX H line 0 hf hl) ?_;conv=>whnf)
 refine ⟨fun h0=>?_,fun h0=>?_⟩<;>simp at h0
 ·unfold formsM
  rw [if_neg h0]
  conv=>whnf
  skip
  exact VLe.tup (.cons (VLe.nil (by decide)) (.cons (VLe.refl _) .nil))
 have hE:wordsLs H line 0=edgsAt H line 0:=by unfold wordsLs;rw [if_pos h0];rfl
 have hup:=frms_sort h0
 obtain ⟨_,_,hEl⟩:=words0_ok h0
 have hfit:=frms_fit h0
 have hM:formsM H line=eqs (frmsOf line (edgsAt H line 0)):=by unfold formsM;rw [if_pos h0]
 rw [hM,hE,h0]
 generalize edgsAt H line 0=E at *
 conv=>whnf
 skip
 refine tloop rfl mixed [1,4,18,19,20] [] (fun m r h=>∃ (k:Nat) (lv:AV) (lh:Heap),r=[(1,[],.sl 1 none (ints line)),(4,[],lv),(18,[],.sl 7 none (E.map encEdg)),(19,[],.int .i64 (E.map encEdg).length),(20,[],.int .i64 k)]∧h=lh∧m=E.length - k∧k≤E.length∧Row 3 encFrm (frmsOf line (E.take k)) lv lh) ?_ ?_
 ·conv=>whnf
  exact ⟨_,_,Turn.weak (.cons (VLe.refl _) (.cons nil_le_nilO (RLe.refl _))),_,0,.nilO,[],rfl,rfl,rfl,by omega,.inl ⟨rfl,rfl,rfl⟩⟩
 ·rintro m r h' ⟨k,lv,lh,rfl,rfl,rfl,hk,hlo⟩
  have hlol:(frmsOf line (E.take k)).length≤k:=by
   unfold frmsOf
   rw [List.length_map]
   exact Nat.le_trans (List.length_filter_le _ _) (by rw [List.length_take];omega)
  conv=>whnf
  refine ⟨fun hk2=>?_,fun hk2=>?_⟩<;>simp at hk2
  ·obtain ⟨x,hx⟩:=get_lt hk2
   have hst:=frmsOf_snoc (line:=line) hx
   conv=>whnf
   repeat ((first|refine ix (by assumption) ?_|(intro (b9:Nat))|refine ⟨_,_,Rem.here _,⟨Nat.le_of_ble_eq_true rfl,rfl⟩,?_⟩);conv=>whnf)
   refine ⟨fun he=>?_,fun he=>?_⟩<;>simp only [decide_eq_true_eq,decide_eq_false_iff_not,ints_length] at he
   ·have hen:endsAt line x=true:=decide_eq_true he
    rw [if_pos hen] at hst
    rcases hlo with ⟨he2,rfl,rfl⟩|⟨hne,lb,rfl,rfl⟩
    ·conv=>whnf
     repeat ((first|refine ⟨gP_of ⟨by omega,by omega⟩,?_⟩|(refine ⟨⟨Nat.le_of_ble_eq_true rfl,Nat.le_of_ble_eq_true rfl⟩,fun b'=>?_⟩));conv=>whnf)
     refine ⟨_,_,Turn.refl _ _,_,by omega,k+1,_,[(b',_)],rfl,rfl,rfl,by omega,.inr ⟨by rw [hst];simp,b',?_,?_⟩⟩
     ·rw [hst,he2];rfl
     ·rw [hst,he2];rfl
    ·conv=>whnf
     repeat ((first|refine ⟨gP_of ⟨by omega,by omega⟩,?_⟩|(refine ⟨_,.head _,⟨enc_len encFrm_len,by unfold AMAX;simp;omega⟩,fun b'=>⟨_,.here _,?_⟩⟩));conv=>whnf)
     refine ⟨_,_,Turn.refl _ _,_,by omega,k+1,_,[(b',_)],rfl,rfl,rfl,by omega,.inr ⟨by rw [hst];simp,b',?_,?_⟩⟩
     ·rw [hst,List.length_append];rfl
     ·rw [hst,List.map_append,List.flatten_append];rfl
   ·have hen:endsAt line x=false:=decide_eq_false he
    rw [if_neg (by rw [hen];decide),List.append_nil] at hst
    conv=>whnf
    repeat (refine ⟨gP_of ⟨by omega,by omega⟩,?_⟩;conv=>whnf)
    exact ⟨_,_,Turn.refl _ _,_,by omega,k+1,lv,h',rfl,rfl,rfl,by omega,by rw [hst];exact hlo⟩
  ·rw [List.take_of_length_le hk2] at hlo
   have hLl:(frmsOf line E).length≤2000:=by
    rw [List.take_of_length_le hk2] at hlol
    omega
   have hfc:∀ x∈frmsOf line E,x.clitics.length≤1048576:=by
    intro y hy
    unfold frmsOf at hy
    obtain ⟨x,hx,rfl⟩:=List.mem_map.1 hy
    exact (hfit x (List.mem_filter.1 hx).1).2.cl
   rcases hlo with ⟨he2,rfl,rfl⟩|⟨hne,lb,rfl,rfl⟩
   ·rw [he2]
    conv=>whnf
    refine QCall.k0 (sortNilG _) ?_
    conv=>whnf
    refine ACalls.mono ?_ cptFN
    rintro v h1 ⟨rfl,rfl⟩
    conv=>whnf
    skip
    exact VLe.refl _
   ·have hso:=sortOwnG lb (frmsOf line E) hfc hne (by omega)
    rw [hup] at hso
    have hcp:=cptFA lb (frmsOf line E) hne (by omega) hfc
    conv=>whnf
    refine ACalls.mono ?_ hso
    rintro v h1 ⟨rfl,rfl⟩
    conv=>whnf
    refine ACalls.mono ?_ hcp
    rintro v h1 ⟨rfl,rfl⟩
    conv=>whnf
    skip
    exact VLe.refl _
theorem r7LessForm (a b:Frm) (ha:FrmSmall a) (hb:FrmSmall b):QCall Tryz.prog 83 [.agg (encFrm a),.agg (encFrm b)] [] (.bool (decide (frmCmp a b<0))):=by
 refine fcalls (F:=Tryz.f83) c83 rfl rfl rfl mixed rfl fun X=>?_
 conv=>whnf
 repeat (refine QCall.k0 (refCmpForms a b ha hb) ?_;conv=>whnf)
 exact ⟨rfl,rfl⟩
theorem r7FormsW (H:Hou) (line:List Int) (hf:HouFit H) (hl:line.length≤1048576) :
  QCall Tryz.prog 39 [.agg (encHou H),.sl 1 none (ints line)] [] (.tup [.sl 3 none ((formsM H line).map encFrm),.int .i64 (wordsE H line 0)]):=by
 refine QCall.of ?_
 refine fcalls (F:=Tryz.f39) c39 rfl rfl rfl mixed rfl fun X=>?_
 conv=>whnf
 repeat (refine QCall.k0 (refWordsX H line 0 hf hl) ?_;conv=>whnf)
 refine ⟨fun h0=>?_,fun h0=>?_⟩<;>simp at h0
 ·unfold formsM
  rw [if_neg h0]
  conv=>whnf
  skip
  exact VLe.tup (.cons (VLe.nil (by decide)) (.cons (VLe.refl _) .nil))
 have hE:wordsLs H line 0=edgsAt H line 0:=by unfold wordsLs;rw [if_pos h0];rfl
 have hup:=frms_up h0
 obtain ⟨_,_,hEl⟩:=words0_ok h0
 have hfit:=frms_fit h0
 have hM:formsM H line=eqs (frmsOf line (edgsAt H line 0)):=by unfold formsM;rw [if_pos h0]
 rw [hM,hE,h0]
 generalize edgsAt H line 0=E at *
 conv=>whnf
 skip
 refine tloop rfl mixed [1,6,8,9] [(8,3)] (fun m r h=>∃ (k:Nat) (q:Nat),r=[(1,[],.sl 1 none (ints line)),(6,[],.sl 7 none (E.map encEdg)),(8,[],.sl 3 (some q) ((eqs (frmsOf line (E.take k))).map encFrm)),(9,[],.int .i64 k)]∧h=(q,.tok)::[]∧m=E.length - k∧k≤E.length) ?_ ?_
 ·conv=>whnf
  refine ⟨by decide,fun q=>?_⟩
  conv=>whnf
  exact ⟨_,_,Turn.refl _ _,_,0,q,rfl,rfl,rfl,by omega⟩
 ·rintro m r h' ⟨k,q,rfl,rfl,rfl,hk⟩
  have hlol:(eqs (frmsOf line (E.take k))).length≤k:=by
   refine Nat.le_trans (eqs_len _) ?_
   unfold frmsOf
   rw [List.length_map]
   exact Nat.le_trans (List.length_filter_le _ _) (by rw [List.length_take];omega)
  have hls:=eqs_last (frmsOf line (E.take k))
  have hsn:=eqs_snoc (frmsOf line (E.take k))
  obtain ⟨L,hL⟩:∃ L,L=eqs (frmsOf line (E.take k)):=⟨_,rfl⟩
  rw [← hL] at hlol hls hsn
  have hpw:∀ x:Edg,E[k]?=some x→endsAt line x=true→∀ z∈L,¬ frmP x.word.form z<0:=by
   intro x hx he z hz
   rw [hL,eqs_mem] at hz
   have h1:(frmsOf line (E.take k)++[x.word.form]).Pairwise fun a b=>¬ frmP b a<0:=by
    have h2:=frmsOf_snoc (line:=line) hx
    rw [if_pos he] at h2
    rw [← h2]
    refine hup.sublist ?_
    unfold frmsOf
    exact ((List.take_sublist _ _).filter _).map _
   rw [List.pairwise_append] at h1
   exact h1.2.2 z hz _ (by simp)
  have hLf:∀ z∈L,FrmSmall z:=by
   intro z hz
   rw [hL,eqs_mem] at hz
   unfold frmsOf at hz
   obtain ⟨y,hy,rfl⟩:=List.mem_map.1 hz
   exact (hfit y (List.mem_of_mem_take (List.mem_filter.1 hy).1)).1
  rw [← hL]
  conv=>whnf
  refine ⟨fun hk2=>?_,fun hk2=>?_⟩<;>simp at hk2
  ·obtain ⟨x,hx⟩:=get_lt hk2
   have hxf:=hfit x (List.mem_of_getElem? hx)
   have hst:=frmsOf_snoc (line:=line) hx
   have hll:(L.map encFrm).length=L.length:=List.length_map _
   have hap:∀ (c:Bool),(c=true↔endsAt line x=true∧L.getLast?≠some x.word.form)→eqs (frmsOf line (E.take (k+1)))=L++(if c=true then [x.word.form] else []):=by
    intro c hc
    rw [hst]
    cases he:endsAt line x with
    | false=>
      have hcf:c=false:=by
       cases c with
       | false=>rfl
       | true=>have:=(hc.1 rfl).1;rw [he] at this;cases this
      rw [hcf,if_neg (by decide),List.append_nil]
      show _=L++[]
      rw [List.append_nil,hL]
    | true=>
      rw [if_pos rfl,hsn]
      cases c with
      | true=>rw [if_neg (hc.1 rfl).2,if_pos rfl]
      | false=>
        have:L.getLast?=some x.word.form:=Classical.byContradiction fun h=>by have:=hc.2 ⟨he,h⟩;cases this
        rw [if_pos this,if_neg (by decide)]
   rcases List.eq_nil_or_concat L with hn|⟨L0,z,hz⟩
   ·conv=>whnf
    repeat ((first|refine ⟨gP_of ⟨by omega,by omega⟩,?_⟩|refine ix (by assumption) ?_|refine QCall.k0 (Lst.copyWordW x.word (by have:=hxf.2.cl;unfold AMAX;omega) (by have:=hxf.2.us;unfold AMAX;omega)) ?_|(refine ⟨0,encFrm x.word.form,?_,?_⟩;(focus (conv=>whnf;skip));(focus (intro g1 g2;exact absurd (of_decide_eq_false g2) (by rw [hn];simp))))|(refine ⟨_,gP_of ((r7LessForm x.word.form x.word.form hxf.1 hxf.1).wide _),?_⟩)|refine ⟨_,_,Rem.here _,⟨Nat.le_of_ble_eq_true rfl,rfl⟩,?_⟩|refine And.intro (by show drawOK (opsAt Tryz.f39 _) _=true;decide +kernel) ?_|intro (nb:Nat));conv=>whnf)
    have hc:∀ c:Bool,c=(decide (x.to=((ints line).length:Int))&&(decide (((L.map encFrm).length:Int)=0)||decide (frmCmp x.word.form x.word.form<0)))→(c=true↔endsAt line x=true∧L.getLast?≠some x.word.form):=by
     rintro c rfl
     rw [hn,ints_length]
     unfold endsAt
     simp
    refine ⟨fun he=>?_,fun he=>?_⟩
    ·have hm:=hap _ (hc _ rfl)
     rw [he,if_pos rfl] at hm
     conv=>whnf
     repeat ((first|refine ⟨gP_of ⟨by omega,by omega⟩,?_⟩|(refine ⟨(by rw [List.length_append,List.length_singleton,hll];unfold AMAX;omega),fun q2=>⟨_,.here _,?_⟩⟩));conv=>whnf)
     exact ⟨_,_,Turn.refl _ _,_,(by omega),k+1,q2,by rw [hm,List.map_append];rfl,rfl,rfl,by omega⟩
    ·have hm:=hap _ (hc _ rfl)
     rw [he] at hm
     conv=>whnf
     repeat (refine ⟨gP_of ⟨by omega,by omega⟩,?_⟩;conv=>whnf)
     exact ⟨_,_,Turn.refl _ _,_,(by omega),k+1,q,by rw [hm];simp,rfl,rfl,by omega⟩
   ·have hzm:z∈L:=by rw [hz];simp
    have hzg:L[L.length - 1]?=some z:=by rw [hz];simp
    have hzl:L.getLast?=some z:=by rw [hz];simp
    have hpos:0<L.length:=by rw [hz];simp
    conv=>whnf
    repeat ((first|refine ⟨gP_of ⟨by omega,by omega⟩,?_⟩|refine ix (by assumption) ?_|refine QCall.k0 (Lst.copyWordW x.word (by have:=hxf.2.cl;unfold AMAX;omega) (by have:=hxf.2.us;unfold AMAX;omega)) ?_|(refine ⟨L.length - 1,encFrm z,gP_of ⟨by rw [hll];omega,by rw [List.getElem?_map,hzg];rfl⟩,?_⟩)|(refine ⟨_,gP_of ((r7LessForm z x.word.form (hLf z hzm) hxf.1).wide _),?_⟩)|refine ⟨_,_,Rem.here _,⟨Nat.le_of_ble_eq_true rfl,rfl⟩,?_⟩|refine And.intro (by show drawOK (opsAt Tryz.f39 _) _=true;decide +kernel) ?_|intro (nb:Nat));conv=>whnf)
    have hc:∀ c:Bool,c=(decide (x.to=((ints line).length:Int))&&(decide (((L.map encFrm).length:Int)=0)||decide (frmCmp z x.word.form<0)))→(c=true↔endsAt line x=true∧L.getLast?≠some x.word.form):=by
     rintro c rfl
     rw [hzl,decide_eq_false (p:=((L.map encFrm).length:Int)=0) (by rw [hll];omega),Bool.false_or,Bool.and_eq_true,decide_eq_true_eq,decide_eq_true_eq,ints_length]
     have hee:endsAt line x=true↔x.to=line.length:=by unfold endsAt;rw [decide_eq_true_eq]
     rw [hee]
     refine and_congr_right fun hto=>?_
     have h1:=hpw x hx (hee.2 hto) z hzm
     have h2:=frmP_cmp z x.word.form
     have h3:=zF.sgn x.word.form z
     have h4:=zF.sgn z x.word.form
     have h5:=zF.zero z x.word.form
     rw [Ne,Option.some.injEq,← h5]
     omega
    refine ⟨fun he=>?_,fun he=>?_⟩
    ·have hm:=hap _ (hc _ rfl)
     rw [he,if_pos rfl] at hm
     conv=>whnf
     repeat ((first|refine ⟨gP_of ⟨by omega,by omega⟩,?_⟩|(refine ⟨(by rw [List.length_append,List.length_singleton,hll];unfold AMAX;omega),fun q2=>⟨_,.here _,?_⟩⟩));conv=>whnf)
     exact ⟨_,_,Turn.refl _ _,_,(by omega),k+1,q2,by rw [hm,List.map_append];rfl,rfl,rfl,by omega⟩
    ·have hm:=hap _ (hc _ rfl)
     rw [he] at hm
     conv=>whnf
     repeat (refine ⟨gP_of ⟨by omega,by omega⟩,?_⟩;conv=>whnf)
     exact ⟨_,_,Turn.refl _ _,_,(by omega),k+1,q,by rw [hm];simp,rfl,rfl,by omega⟩
  ·rw [List.take_of_length_le hk2] at hL
   conv=>whnf
   skip
   rw [hL]
   exact VLe.tup (.cons VLe.sl (.cons (VLe.refl _) .nil))
theorem formsM_fit {H:Hou} {line:List Int}:∀ f∈formsM H line,f.clitics.length≤1048576:=by
 intro f hf
 unfold formsM at hf
 split at hf
 ·rename_i h0
  rw [eqs_mem] at hf
  unfold frmsOf at hf
  obtain ⟨x,hx,rfl⟩:=List.mem_map.1 hf
  exact (frms_fit h0 x (List.mem_filter.1 hx).1).2.cl
 ·cases hf
theorem formsM_many {H:Hou} {line:List Int}:(formsM H line).length≤2000:=by
 unfold formsM
 split
 ·rename_i h0
  have h1:=eqs_len (frmsOf line (edgsAt H line 0))
  have h2:=(words0_ok h0).2.2
  have h3:(frmsOf line (edgsAt H line 0)).length≤(edgsAt H line 0).length:=by
   unfold frmsOf
   rw [List.length_map]
   exact List.length_filter_le _ _
  omega
 ·simp
theorem spellFormsL (H:Hou) (line:List Int) (hf:HouFit H) (hl:line.length≤1048576):QCall Tryz.prog 9 [.agg (encHou H),.sl 1 none (ints line)] [] (.bool true):=by
 have hfit:=formsM_fit (H:=H) (line:=line)
 have hmany:=formsM_many (H:=H) (line:=line)
 refine fcalls (F:=Tryz.f9) c9 rfl rfl rfl mixed rfl fun X=>?_
 conv=>whnf
 repeat (refine QCall.k0 (largeW H line) ?_;conv=>whnf)
 refine ⟨fun h0=>?_,fun h0=>?_⟩
 ·conv=>whnf
  repeat (refine QCall.k0 (spWorks) ?_;conv=>whnf)
  exact ⟨rfl,rfl⟩
 conv=>whnf
 repeat ((first|refine QCall.k0 (spFormsW H line hf hl) ?_|refine QCall.k0 (r7FormsW H line hf hl) ?_);conv=>whnf)
 refine cF (by simp) ?_
 generalize formsM H line=L at *
 conv=>whnf
 skip
 refine sloop rfl mixed [5,7,9] [] (fun m r h=>∃ (i:Nat),r=[(5,[],.sl 3 none (L.map encFrm)),(7,[],.sl 3 none (L.map encFrm)),(9,[],.int .i64 i)]∧h=[]∧m=L.length - i∧i≤L.length) ?_ ?_
 ·conv=>whnf
  exact ⟨_,0,rfl,rfl,rfl,by omega⟩
 ·rintro m r h ⟨i,rfl,rfl,rfl,hi⟩
  conv=>whnf
  refine ⟨fun hz=>?_,fun hz=>?_⟩<;>simp at hz
  ·obtain ⟨x,hx⟩:=get_lt hz
   have hxs:=hfit x (List.mem_of_getElem? hx)
   conv=>whnf
   repeat ((first|refine ix (by assumption) ?_|refine gcall (sameForm x x (by unfold LMAX;omega) (by unfold LMAX;omega)) ?_|refine And.intro (by show drawOK (opsAt Tryz.f9 _) _=true;decide +kernel) ?_);conv=>whnf)
   refine cF (by simp) ?_
   conv=>whnf
   repeat (refine ⟨gP_of ⟨by omega,by omega⟩,?_⟩;conv=>whnf)
   exact ⟨_,by omega,i+1,rfl,rfl,rfl,by omega⟩
  ·conv=>whnf
   repeat (refine QCall.k0 (spWorks) ?_;conv=>whnf)
   exact ⟨rfl,rfl⟩
end Go.Abs.Wall.Spl
