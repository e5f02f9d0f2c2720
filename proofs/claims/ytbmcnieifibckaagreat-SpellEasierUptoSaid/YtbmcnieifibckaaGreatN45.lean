/- What is proved: small laws for the walks of this seat, and contracts of its functions. No condition but those each theorem names. -/
import Derived.Test.YtbmcnieifibckaaGreatN28
import Derived.Test.YtbmcnieifibckaaGreatN24
import Derived.Test.YtbmcnieifibckaaGreatN31
import Derived.Test.YtbmcnieifibckaaGreatN25
import Derived.Test.YtbmcnieifibckaaGreatN10
set_option maxRecDepth 100000
set_option maxHeartbeats 2000000
set_option linter.unusedVariables false
set_option linter.unusedSimpArgs false
namespace Go.Abs.Wall.Spl
open Go Go.Abs Go.Proofs Go.Abs.Wall
open Go.Abs.Wall.Lst hiding encWy wyCmp wyCmp_lt wayCompare fndW encWy_len idxW_iff binNil binW insNilW over224 InsR insC OpenR insW_acalls ndC putW path_step NodeS NodeH getV GetC recCall putCall getStep getAll
def decH (B:Hab) (s:Nat):Hab:={ B with signs:=B.signs.set s (B.signs.getD s 0 - 1) }
def decE (E:Env) (s:Nat):Env:={ E with B:=decH E.B s }
def decM (s:Nat) (m:Mv):Mv:=if m.sign=s then { m with cost:=m.cost - 1 } else m
def isS (s:Nat) (m:Mv):Int:=if m.sign=s then 1 else 0
def cntP (s:Nat) (p:List Mv):Int:=(p.map (isS s)).sum
theorem decM_to (s:Nat) (m:Mv):(decM s m).to=m.to:=by unfold decM;split<;>rfl
theorem decM_cost (s:Nat) (m:Mv):(decM s m).cost=m.cost - isS s m:=by unfold decM isS;split<;>simp
theorem nextM_dec (E:Env) (s:Nat) (x:Sta) (u:Use):nextM (decE E s) x u=nextM E x u:=rfl
theorem lastM_dec (E:Env) (s:Nat) (x:Sta):lastM (decE E s) x=lastM E x:=rfl
theorem getD_set {l:List Int} {s k:Nat} {v:Int} (h:s<l.length):(l.set s v).getD k 0=if k=s then v else l.getD k 0:=by
 rw [List.getD_eq_getElem?_getD,List.getD_eq_getElem?_getD]
 by_cases e:k=s
 ·subst e
  rw [List.getElem?_set_self h,if_pos rfl]
  rfl
 ·rw [List.getElem?_set_ne (Ne.symm e),if_neg e]
theorem mvOne_dec {E:Env} {s:Nat} (hs:s<E.B.signs.length) (h1:1≤E.B.signs.getD s 0) (x:Sta) (k:Nat) (u:Use):mvOne (decE E s) x k u=(mvOne E x k u).map (decM s):=by
 unfold mvOne
 have hg:(decE E s).B.signs.getD k 0=if k=s then E.B.signs.getD s 0 - 1 else E.B.signs.getD k 0:=getD_set hs
 have hc:costM (decE E s) u=costM E u:=rfl
 rw [nextM_dec,hg,hc]
 by_cases e:k=s
 ·subst e
  rw [if_pos rfl]
  by_cases hn:(nextM E x u).2=true
  ·rw [if_pos (by rw [hn,decide_eq_true (by omega)];rfl),if_pos (by rw [hn,decide_eq_true (by omega)];rfl)]
   rw [List.map_singleton]
   unfold decM
   rw [if_pos rfl]
   show [(⟨(k:Int),costM E u+(E.B.signs.getD k 0 - 1),u,(nextM E x u).1⟩:Mv)]=[⟨(k:Int),costM E u+E.B.signs.getD k 0 - 1,u,(nextM E x u).1⟩]
   rw [show costM E u+(E.B.signs.getD k 0 - 1)=costM E u+E.B.signs.getD k 0 - 1 by omega]
  ·rw [Bool.not_eq_true] at hn
   rw [if_neg (by rw [hn];simp),if_neg (by rw [hn];simp)]
   rfl
 ·rw [if_neg e]
  split
  ·rw [List.map_singleton]
   unfold decM
   rw [if_neg (by show ¬ ((k:Int)=(s:Int));omega)]
  ·rfl
theorem mvUses_dec {E:Env} {s:Nat} (hs:s<E.B.signs.length) (h1:1≤E.B.signs.getD s 0) (x:Sta) (k:Nat):∀ us:List Use,mvUses (decE E s) x k us=(mvUses E x k us).map (decM s)
 | []=>rfl
 | u::t=>by rw [mvUses,mvOne_dec hs h1,mvUses_dec hs h1 x k t,mvUses,List.map_append]
theorem mvRows_dec {E:Env} {s:Nat} (hs:s<E.B.signs.length) (h1:1≤E.B.signs.getD s 0) (x:Sta):∀ (rs:List (List Use)) (k:Nat),mvRows (decE E s) x k rs=(mvRows E x k rs).map (decM s)
 | [],_=>rfl
 | us::t,k=>by rw [mvRows,mvUses_dec hs h1,mvRows_dec hs h1 x t (k+1),mvRows,List.map_append]
theorem moves_dec {E:Env} {s:Nat} (hs:s<E.B.signs.length) (h1:1≤E.B.signs.getD s 0) (x:Sta):movesM (decE E s) x=(movesM E x).map (decM s):=by
 unfold movesM
 split
 ·rfl
 ·exact mvRows_dec hs h1 x E.uses 0
theorem pathOK_dec {E:Env} {s:Nat} (hs:s<E.B.signs.length) (h1:1≤E.B.signs.getD s 0):∀ (p:List Mv) (x:Sta),PathOK E x p→PathOK (decE E s) x (p.map (decM s))∧keyP (decE E s) x (p.map (decM s))=keyP E x p - 16*cntP s p
 | [],x,h=>⟨h,by simp [keyP,cntP,lastM_dec]⟩
 | m::p,x,h=>by
   obtain ⟨h2,h3⟩:=pathOK_dec hs h1 p m.to h.2
   refine ⟨⟨?_,?_⟩,?_⟩
   ·rw [moves_dec hs h1]
    exact List.mem_map_of_mem h.1
   ·rw [decM_to];exact h2
   ·show keyP (decE E s) (decM s m).to (p.map (decM s))+((decM s m).cost*16+1)=keyP E m.to p+(m.cost*16+1) - 16*cntP s (m::p)
    rw [decM_to,h3,decM_cost]
    unfold cntP
    rw [List.map_cons,List.sum_cons]
    omega
theorem pathOK_inc {E:Env} {s:Nat} (hs:s<E.B.signs.length) (h1:1≤E.B.signs.getD s 0):∀ (q:List Mv) (x:Sta),PathOK (decE E s) x q→∃ p,q=p.map (decM s)∧PathOK E x p
 | [],x,h=>⟨[],rfl,h⟩
 | m::q,x,h=>by
   obtain ⟨h2,h3⟩:=h
   rw [moves_dec hs h1] at h2
   obtain ⟨m0,hm0,rfl⟩:=List.mem_map.1 h2
   rw [decM_to] at h3
   obtain ⟨p,rfl,hp⟩:=pathOK_inc hs h1 q m0.to h3
   exact ⟨m0::p,rfl,hm0,hp⟩
theorem cntP_in (s:Nat):∀ p:List Mv,0≤cntP s p∧cntP s p≤p.length
 | []=>by simp [cntP]
 | m::p=>by
   have h:=cntP_in s p
   unfold cntP at h ⊢
   rw [List.map_cons,List.sum_cons,List.length_cons]
   have:0≤isS s m∧isS s m≤1:=by unfold isS;split<;>omega
   omega
theorem easier {E:Env} {s:Nat} (hE:EOK E) (hE':EOK (decE E s)) (hs:s<E.B.signs.length) (h1:1≤E.B.signs.getD s 0) :
  (wayS E st0=[]↔wayS (decE E s) st0=[])∧∀ w v,(wayS E st0)[0]?=some w→(wayS (decE E s) st0)[0]?=some v→v.cost≤w.cost - 16*cntP s (pathS E st0 w)∧w.cost≤v.cost+16*12:=by
 have a1:∀ w,(wayS E st0)[0]?=some w→∃ v,(wayS (decE E s) st0)[0]?=some v∧v.cost≤w.cost - 16*cntP s (pathS E st0 w):=by
  intro w hw
  obtain ⟨hp,hk⟩:=way_path hE _ st0 st0_ok rfl 0 w hw
  obtain ⟨hq,hk2⟩:=pathOK_dec hs h1 _ _ hp
  obtain ⟨v,hv⟩:=way_some hE' st0_ok hq
  have:=way_first hE' st0_ok hv hq
  exact ⟨v,hv,by rw [hk2,hk] at this;exact this⟩
 have a2:∀ v,(wayS (decE E s) st0)[0]?=some v→∃ w,(wayS E st0)[0]?=some w∧w.cost≤v.cost+16*12:=by
  intro v hv
  obtain ⟨hq,hk⟩:=way_path hE' _ st0 st0_ok rfl 0 v hv
  obtain ⟨p,hpe,hp⟩:=pathOK_inc hs h1 _ _ hq
  obtain ⟨_,hk2⟩:=pathOK_dec hs h1 _ _ hp
  obtain ⟨w,hw⟩:=way_some hE st0_ok hp
  have h2:=way_first hE st0_ok hw hp
  have h3:=path_len hE p st0 st0_ok hp
  have h4:=cntP_in s p
  rw [← hpe,hk] at hk2
  have h5:st0.n=0:=rfl
  exact ⟨w,hw,by omega⟩
 refine ⟨⟨fun h=>?_,fun h=>?_⟩,fun w v hw hv=>?_⟩
 ·cases hv:(wayS (decE E s) st0)[0]? with
  | none=>exact List.eq_nil_of_length_eq_zero (by have:=List.getElem?_eq_none_iff.1 hv;omega)
  | some v=>
    obtain ⟨w,hw,_⟩:=a2 v hv
    rw [h] at hw
    cases hw
 ·cases hw:(wayS E st0)[0]? with
  | none=>exact List.eq_nil_of_length_eq_zero (by have:=List.getElem?_eq_none_iff.1 hw;omega)
  | some w=>
    obtain ⟨v,hv,_⟩:=a1 w hw
    rw [h] at hv
    cases hv
 ·obtain ⟨v',hv',h2⟩:=a1 w hw
  rw [hv] at hv'
  cases hv'
  obtain ⟨w',hw',h3⟩:=a2 v hv
  rw [hw] at hw'
  cases hw'
  exact ⟨h2,h3⟩
end Go.Abs.Wall.Spl
namespace Go.Abs.Wall.Spl
open Go Go.Abs Go.Proofs Go.Abs.Wall Go.Proofs.YtbmcnieifibckaaGreat.Br
theorem dec_right {H:Hou} {B:Hab} {s:Nat} (hr:rightM H B=true) (h1:1≤B.signs.getD s 0):rightM H (decH B s)=true:=by
 obtain ⟨a1,a2,a3,a4⟩:=rightOK hr
 have hg:∀ n∈B.signs,n≤1000:=fun n hn=>(a4 n hn).2
 have hv:B.signs.getD s 0≤1000:=by
  rw [List.getD_eq_getElem?_getD] at h1 ⊢
  cases hq:B.signs[s]? with
  | none=>rw [hq] at h1;exact absurd h1 (by decide)
  | some x=>exact hg x (List.mem_of_getElem? hq)
 unfold rightM at hr ⊢
 simp only [Bool.and_eq_true,decide_eq_true_eq,wthn_iff,Bool.not_eq_true',List.any_eq_false] at hr ⊢
 obtain ⟨⟨⟨b1,b2⟩,b3⟩,b4⟩:=hr
 refine ⟨⟨⟨?_,b2⟩,b3⟩,fun n hn=>?_⟩
 ·show (((B.signs.set s (B.signs.getD s 0 - 1)).length:Int)=_)
  rw [List.length_set];exact b1
 ·rcases List.mem_or_eq_of_mem_set (show n∈B.signs.set s (B.signs.getD s 0 - 1) from hn) with h|rfl
  ·exact b4 n h
  ·unfold badN
   rw [Bool.not_eq_true',Bool.not_eq_false]
   exact wthn_iff.2 (by omega)
def cntI (s:Int) (l:List Int):Int:=(l.map fun a=>if a=s then (1:Int) else 0).sum
theorem cntI_path (s:Nat) (p:List Mv):cntI s (p.map (·.sign))=cntP s p:=by
 unfold cntI cntP isS
 rw [List.map_map]
 rfl
theorem cntI_snoc (s:Int) (l:List Int) (a:Int):cntI s (l++[a])=cntI s l+if a=s then 1 else 0:=by
 unfold cntI
 rw [List.map_append,List.sum_append]
 simp
theorem cntI_in (s:Int):∀ l:List Int,0≤cntI s l∧cntI s l≤l.length
 | []=>by simp [cntI]
 | a::l=>by
   have:=cntI_in s l
   unfold cntI at this ⊢
   rw [List.map_cons,List.sum_cons,List.length_cons]
   split<;>omega
theorem easy_best {H:Hou} {B:Hab} {f:Frm} {s:Nat} (h0:houErr H=0) (hr:rightM H B=true) (hs:s<B.signs.length) (h1:1≤B.signs.getD s 0) :
  listE H B f 1=listE H (decH B s) f 1∧(listE H B f 1=0→(bestS H (decH B s) f).cost≤(bestS H B f).cost - cntI s (bestS H B f).signs∧(bestS H B f).cost - 12≤(bestS H (decH B s) f).cost∧(bestS H B f).signs.length≤12∧0≤(bestS H B f).cost∧(bestS H B f).cost≤1000000):=by
 have hr2:=dec_right hr h1
 have k1:habErr H B=0:=by unfold habErr;rw [if_neg (by omega),if_pos hr]
 have k2:habErr H (decH B s)=0:=by unfold habErr;rw [if_neg (by omega),if_pos hr2]
 have e1:begErr H B f=frmErr H.lex f:=by unfold begErr;rw [if_neg (by omega)]
 have e2:begErr H (decH B s) f=frmErr H.lex f:=by unfold begErr;rw [if_neg (by omega)]
 by_cases hf:frmErr H.lex f=0
 ·have hF:=frmOK hf
  have hE:=env_ok h0 hr hF
  have hE2:=env_ok h0 hr2 hF
  obtain ⟨g1,g2⟩:=easier (E:=envM H B f) (s:=s) hE hE2 hs h1
  have g1:wayS (envM H B f) st0=[]↔wayS (envM H (decH B s) f) st0=[]:=g1
  have hl:listE H B f 1=listE H (decH B s) f 1:=by
   unfold listE
   rw [e1,e2,hf]
   simp only [g1]
  refine ⟨hl,fun hz=>?_⟩
  have hne:wayS (envM H B f) st0≠[]:=by
   intro e
   unfold listE at hz
   rw [e1,hf,e] at hz
   simp at hz
  have hne2:wayS (envM H (decH B s) f) st0≠[]:=fun e=>hne (g1.2 e)
  obtain ⟨w,hw⟩:=get_lt (l:=wayS (envM H B f) st0) (i:=0) (List.length_pos_iff.2 hne)
  obtain ⟨v,hv⟩:=get_lt (l:=wayS (envM H (decH B s) f) st0) (i:=0) (List.length_pos_iff.2 hne2)
  have hb:bestS H B f=splOf (envM H B f) w:=by
   unfold bestS listS
   rw [if_pos hz]
   unfold splsOf
   have:=drop_cons hw
   rw [List.drop_zero] at this
   rw [this]
   rfl
  have hb2:bestS H (decH B s) f=splOf (envM H (decH B s) f) v:=by
   unfold bestS listS
   rw [if_pos (hl ▸ hz)]
   unfold splsOf
   have:=drop_cons hv
   rw [List.drop_zero] at this
   rw [this]
   rfl
  have g3:=g2 w v hw hv
  have hcn:cntI s (splOf (envM H B f) w).signs=cntP s (pathS (envM H B f) st0 w):=cntI_path s _
  rw [hb,hb2,hcn]
  obtain ⟨hp,_⟩:=way_path hE _ st0 st0_ok rfl 0 w hw
  have hpl:=path_len hE _ _ st0_ok hp
  have hn0:st0.n=0:=rfl
  have hsl:(splOf (envM H B f) w).signs.length=(pathS (envM H B f) st0 w).length:=List.length_map _
  have hwb:=way_bound hE _ st0 st0_ok rfl w (List.mem_of_getElem? hw)
  have h12:(12 - st0.n).toNat=12:=rfl
  have hc1:(splOf (envM H B f) w).cost=w.cost / 16:=rfl
  refine ⟨?_,?_,by omega,by omega,by omega⟩
  ·show v.cost / 16≤w.cost / 16 - _
   omega
  ·show w.cost / 16 - 12≤v.cost / 16
   omega
 ·refine ⟨?_,fun hz=>?_⟩
  ·unfold listE
   rw [e1,e2,if_pos hf,if_pos hf]
  ·unfold listE at hz
   rw [e1,if_pos hf] at hz
   exact absurd hz hf
def c4:Cfg:=⟨[0,1,2,3,4,5,6,7,8,9,10,11,12,13,14,33,62,89,91,97,106],[51],[9,11],[],[(3,[0,1,2,3,4,5,6,7,8,9,10,11,12,13,14],[]),(8,[],[])],[]⟩
theorem spellEasierL (H:Hou) (B:Hab) (a:Ask) (hf:HouFit H) (hB:HabFit B) (hc:a.form.clitics.length≤1048576) (hm:IntKind.i64.has a.most):QCall Tryz.prog 4 [.agg (encHou H),.agg (encHab B),.agg (encAsk a)] [] (.bool true):=by
 have hfl:a.form.clitics.length≤LMAX:=by unfold LMAX;omega
 have hbs:=hB.signs
 refine QCall.of ?_
 refine fcalls (F:=Tryz.f4) c4 rfl rfl rfl mixed rfl fun X=>?_
 conv=>whnf
 repeat ((first|refine QCall.k0 (heavyNil H) ?_|refine gcall (r7CheckHab H B hf hB) ?_|refine gcall (refHouse H hf) ?_);conv=>whnf)
 refine ⟨fun h0=>?_,fun h0=>?_⟩
 ·conv=>whnf
  repeat (refine QCall.k0 (spWorks) ?_;conv=>whnf)
  exact VLe.refl _
 have h0:(((heavS H []||!decide (habErr H B=0))||decide (((ints B.signs).length:Int)=0))||!decide (houErr H=0))=false:=h0
 rw [ints_length] at h0
 simp only [Bool.or_eq_false_iff,Bool.not_eq_false',decide_eq_true_eq,decide_eq_false_iff_not] at h0
 obtain ⟨⟨⟨_,hB0⟩,hne⟩,hok⟩:=h0
 obtain ⟨_,hr⟩:=habOK hB0
 obtain ⟨hbl,hrr,hrc,hbr⟩:=rightOK hr
 have hL0:0<(B.signs.length:Int):=by omega
 obtain ⟨t1,ht1⟩:∃ t,t=a.most.tmod B.signs.length:=⟨_,rfl⟩
 have hb1:-(B.signs.length:Int)<t1∧t1<B.signs.length:=by rw [ht1];exact ⟨Int.lt_tmod_of_pos _ hL0,Int.tmod_lt_of_pos _ hL0⟩
 obtain ⟨t2,ht2⟩:∃ t,t=(t1+B.signs.length).tmod B.signs.length:=⟨_,rfl⟩
 have hb2:0≤t2∧t2<B.signs.length:=by rw [ht2];exact ⟨Int.tmod_nonneg _ (by omega),Int.tmod_lt_of_pos _ hL0⟩
 obtain ⟨s,rfl⟩:=Int.eq_ofNat_of_zero_le hb2.1
 have hil:((ints B.signs).length:Int)=B.signs.length:=by rw [ints_length]
 have hs1:IntKind.i64.has (a.most.tmod ((ints B.signs).length:Int)):=by
  rw [hil,← ht1]
  exact (⟨by omega,by omega⟩:-9223372036854775808≤t1∧t1≤9223372036854775807)
 have hs2:IntKind.i64.has (a.most.tmod ((ints B.signs).length:Int)+((ints B.signs).length:Int)):=by
  rw [hil,← ht1]
  exact (⟨by omega,by omega⟩:-9223372036854775808≤t1+(B.signs.length:Int)∧t1+(B.signs.length:Int)≤9223372036854775807)
 have hs3:IntKind.i64.has ((a.most.tmod ((ints B.signs).length:Int)+((ints B.signs).length:Int)).tmod ((ints B.signs).length:Int)):=by
  rw [hil,← ht1,← ht2]
  exact (⟨by omega,by omega⟩:-9223372036854775808≤(s:Int)∧(s:Int)≤9223372036854775807)
 conv=>whnf
 repeat ((first|refine ⟨gP_of ⟨by omega,by omega⟩,?_⟩|(refine ⟨gP_of hs2,?_⟩)|refine And.intro (by show drawOK (opsAt Tryz.f4 _) _=true;decide +kernel) ?_);conv=>whnf)
 refine make_region rfl mixed [0,1,3,4,5,6] [2,8] [7,9] [] (by show drawOK (opsAt Tryz.f4 _) _=true;decide +kernel) ?_
 conv=>whnf
 have hyl:0<(ints B.signs).length∧(ints B.signs).length≤AMAX:=by rw [ints_length];unfold AMAX;omega
 apply byKey2
 ·intro key
  refine ⟨by decide +kernel,?_,?_,trivial⟩
  ·conv=>whnf
   refine ⟨by decide +kernel,?_⟩
   conv=>whnf
   refine ⟨hyl,fun n1=>?_⟩
   conv=>whnf
   refine ⟨by decide +kernel,?_,trivial⟩
   conv=>whnf
   refine ⟨by decide +kernel,?_⟩
   conv=>whnf
   intro n2
   conv=>whnf
   repeat (refine ⟨_,_,.here _,leOK,?_⟩;conv=>whnf)
   exact ⟨_,_,Turn.refl _ _,key n1 n2⟩
  ·conv=>whnf
   refine ⟨by decide +kernel,?_⟩
   conv=>whnf
   intro n2
   conv=>whnf
   refine ⟨by decide +kernel,?_,trivial⟩
   conv=>whnf
   refine ⟨by decide +kernel,?_⟩
   conv=>whnf
   refine ⟨hyl,fun n1=>?_⟩
   conv=>whnf
   repeat (refine ⟨_,_,.there (.here _),leOK,?_⟩;conv=>whnf)
   exact ⟨_,_,Turn.perm (.swap _ _ _),key n1 n2⟩
 ·intro n1 n2
  have hidx:(a.most.tmod ((ints B.signs).length:Int)+((ints B.signs).length:Int)).tmod ((ints B.signs).length:Int)=(s:Int):=by rw [hil,← ht1,← ht2]
  obtain ⟨v,hv⟩:=get_lt (l:=B.signs) (i:=s) (by omega)
  have hvb:=hbr v (List.mem_of_getElem? hv)
  rw [hidx]
  conv=>whnf
  repeat ((first|(refine ⟨s,gP_of ⟨rfl,by rw [ints_length];omega⟩,?_⟩)|(refine ldE (enc:=fun n=>[AV.int .i64 n]) (k:=1) (fun _=>rfl) (.tail _ (.head _)) (Nat.zero_add _) hv ?_)|refine ⟨_,_,.head _,rfl,?_⟩);conv=>whnf)
  refine ⟨fun h1=>?_,fun h1=>?_⟩<;>simp at h1
  ·conv=>whnf
   repeat (refine QCall.k0 (spWorks) ?_;conv=>whnf)
   exact VLe.refl _
  conv=>whnf
  repeat ((first|refine ⟨gP_of ⟨by omega,by omega⟩,?_⟩|(refine ⟨s,gP_of ⟨rfl,by rw [ints_length];omega⟩,?_⟩)|(refine ldE (enc:=fun n=>[AV.int .i64 n]) (k:=1) (fun _=>rfl) (.tail _ (.head _)) (Nat.zero_add _) hv ?_)|(refine stE (enc:=fun n=>[AV.int .i64 n]) (v - 1) (by decide) (fun _=>rfl) (i:=s) (by omega) (Nat.zero_add _) rfl (.there (.here _)) ?_)|refine ⟨_,_,.head _,rfl,?_⟩);conv=>whnf)
  have hvd:B.signs.getD s 0=v:=getD_of hv
  have hsl:(B.signs.set s (v - 1)).length=(ints B.signs).length:=by rw [List.length_set,ints_length]
  have hB':HabFit (decH B s):=⟨by show (B.signs.set s (B.signs.getD s 0 - 1)).length≤_;rw [List.length_set];omega⟩
  have hdec:encHab (decH B s)=[.sl 1 none (ints (B.signs.set s (v - 1))),.int .i64 B.rpt,.int .i64 B.cls]:=by
   unfold decH
   rw [hvd]
   rfl
  refine region_turn rfl mixed (Turn.freeze (b:=n1) (.there (.here _)) (.vec (.cons (fzEnc (k:=1) (fun _=>rfl) hsl) (FzVs.refl _)) .nil) (FzR.refl _)) ?_
  have hx:=spBestW H B a.form hf hB hfl
  have hy:=spBestW H (decH B s) a.form hf hB' hfl
  rw [hdec] at hy
  conv=>whnf
  repeat ((first|(refine (hx.wide _).k ?_)|(refine (hy.wide _).k ?_)|refine ⟨_,_,Rem.here _,⟨Nat.le_of_ble_eq_true rfl,rfl⟩,?_⟩|refine ⟨_,_,.head _,rfl,?_⟩|intro (nb:Nat));conv=>whnf)
  obtain ⟨q1,q2⟩:=easy_best (H:=H) (B:=B) (f:=a.form) (s:=s) hok hr (by omega) (by rw [hvd];omega)
  refine cF (by rw [q1];simp) ?_
  conv=>whnf
  skip
  refine ⟨fun h2=>?_,fun h2=>?_⟩<;>simp at h2
  ·conv=>whnf
   repeat (refine QCall.k0 (spWorks) ?_;conv=>whnf)
   exact VLe.refl _
  obtain ⟨q3,q4,hbs,hbc,hbd⟩:=q2 h2
  have hci:=cntI_in s (bestS H B a.form).signs
  generalize bestS H B a.form=x at *
  generalize bestS H (decH B s) a.form=y at *
  conv=>whnf
  skip
  refine tloop rfl mixed [7,9,11,13,14] [] (fun m r h=>∃ (i:Nat),r=[(7,[],.int .i64 s),(9,[],.iptr (encSpl x)),(11,[],.iptr (encSpl y)),(13,[],.int .i64 (cntI s (x.signs.take i))),(14,[],.int .i64 i)]∧h=[]∧m=x.signs.length - i∧i≤x.signs.length) ?_ ?_
  ·conv=>whnf
   exact ⟨_,_,Turn.drop (.here _),_,0,rfl,rfl,rfl,by omega⟩
  ·rintro m r h' ⟨i,rfl,rfl,rfl,hi⟩
   have hti:=cntI_in s (x.signs.take i)
   rw [List.length_take] at hti
   conv=>whnf
   skip
   refine ⟨fun hz=>?_,fun hz=>?_⟩<;>simp [ints_length] at hz
   ·obtain ⟨t,ht⟩:=get_lt hz
    have hsn:=cntI_snoc s (x.signs.take i) t
    rw [← take_snoc ht] at hsn
    conv=>whnf
    repeat (refine ix (by assumption) ?_;conv=>whnf)
    refine ⟨fun he=>?_,fun he=>?_⟩<;>simp at he
    ·rw [if_pos he] at hsn
     conv=>whnf
     repeat (refine ⟨gP_of ⟨by omega,by omega⟩,?_⟩;conv=>whnf)
     rw [← hsn]
     exact ⟨_,_,Turn.refl _ _,_,by omega,i+1,rfl,rfl,rfl,by omega⟩
    ·rw [if_neg he,Int.add_zero] at hsn
     conv=>whnf
     repeat (refine ⟨gP_of ⟨by omega,by omega⟩,?_⟩;conv=>whnf)
     rw [← hsn]
     exact ⟨_,_,Turn.refl _ _,_,by omega,i+1,rfl,rfl,rfl,by omega⟩
   ·rw [List.take_of_length_le (by omega)]
    conv=>whnf
    repeat ((first|refine ⟨gP_of ⟨by omega,by omega⟩,?_⟩|refine gcall (spWorks) ?_);conv=>whnf)
    rw [decide_eq_true q3,decide_eq_true q4]
    exact VLe.refl _
end Go.Abs.Wall.Spl
