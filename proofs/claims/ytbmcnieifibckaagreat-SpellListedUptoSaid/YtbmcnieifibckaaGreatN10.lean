/- What is proved: small laws for the walks of this seat, and contracts of its functions. No condition but those each theorem names. -/
import Derived.Test.YtbmcnieifibckaaGreatN9
import Derived.Test.YtbmcnieifibckaaGreatN8
set_option maxRecDepth 100000
set_option maxHeartbeats 2000000
set_option linter.unusedVariables false
set_option linter.unusedSimpArgs false
namespace Go.Abs.Wall
open Go Go.Abs Go.Proofs
structure Bc (H:ax) (bV:List (List ao)) (a:Nat) (f:bc):Prop where
 jc:ic H
 fit:eP H
 entry:0<=f.entry/\f.entry<H.lex.entries.length
 ending:-1<=f.ending/\f.ending<H.lex.bL.length
 aj:∀ us∈bV,us.length<=1048576/\∀ u∈us,gG u
 len:bV.length<=1048576
 at_:a<=bV.length
def GM (H:ax) (bV:List (List ao)) (a:Nat) (f:bc) (rest:List (List ao)):Prop:=
 ∀ (p:bg) (T:List ao) (L:List az) (v:AV) (hp:ab),(∃ pre,(bV.drop a).take 12=pre++rest/\pre.length=T.length)->uo (bx H f) p T->Row 7 cx L v hp->L.length<=2000 ->
  ay Tryz.prog 211 [.agg (bJ H),.sl 1 none (bV.map fD),.int .i64 a,.agg (dW (fq (bx H f) f p T)),v] hp
   (fun v' h'=>Row 7 cx ((L++cN (dt H a f.entry f.ending) rest p T).take 2001) v' h')
def c211:aw:=⟨[0,1,2,3,4,5,8,10,11,12,13,14,15,17,51,59,81],[],[11],[],[(3,[0,1,2,3,4,5,6,7,8,9,10,11,12,13,14],[]),(10,[0,1,2,3,4,5,6,7,8,9,10,11],[]),(14,[0,1,2,3,4,5,6,7,8,9],[])],[92]⟩
theorem Bc.sp {H:ax} {bV:List (List ao)} {a:Nat} {f:bc} (h:Bc H bV a f):jx (bx H f):=zc (at_:=0) h.jc h.entry.1 h.entry.2 h.ending.2
set_option maxHeartbeats 2000000 in
theorem Mh (H:ax) (bV:List (List ao)) (a:Nat) (f:bc) (hE:Bc H bV a f) (rest:List (List ao)) (IH:∀ us r,rest=us::r->GM H bV a f r):GM H bV a f rest:=by
 intro p T L v hp lX aZ hL xw;obtain ⟨pre,hA,dN⟩:=lX;have nY:=congrArg List.length hA;rw [List.length_append,List.length_take,List.length_drop] at nY;have hs:=hE.sp;have fQ:=aZ.bE;have GN:=aZ.ok.bE;have gx:=hE.len;have cR:=hE.at_;have gf:(((fq (bx H f) f p T).aj.map aT).length:Int)=(T.length:Int):=by rw [List.length_map];rfl
 obtain ⟨W0,GO⟩:∃ W0,W0=(L++cN (dt H a f.entry f.ending) rest p T).take 2001:=⟨_,rfl⟩;rw [<- GO];have vN:=TD (bx H f) f p T aZ;refine aG (F:=Tryz.f211) c211 rfl rfl rfl mixed rfl fun X=>?_;(conv=>whnf);repeat (refine ae.k0 (vN) ?_;conv=>whnf)
 refine ⟨fun hq=>?_,fun hq=>?_⟩
 ·have hq:(ll (bx H f) p&&decide (0<(T.length:Int)))=true:=hq;have hh:jy (dt H a f.entry f.ending) p T=[oT (dt H a f.entry f.ending) p T]:=by unfold jy;rw [Bool.and_comm] at hq;exact if_pos hq
  obtain ⟨L1,eQ⟩:∃ L1,L1=L++[oT (dt H a f.entry f.ending) p T]:=⟨_,rfl⟩;have jd:L1.length<=2001:=by rw [eQ,List.length_append,List.length_singleton];omega
  have hW:W0=(L1++eR (dt H a f.entry f.ending) rest p T).take 2001:=by rw [GO];unfold cN;rw [hh,eQ,List.append_assoc]
  have tf:=TE H ⟨⟨f.entry,f.ending,p.cl⟩,T⟩ hE.fit.lex hE.jc (by show p.cl.length<=aq;unfold aq;omega) hE.entry (by show T.length<=1048576;omega);rcases hL with ⟨tg,rfl,rfl⟩|⟨tg,lb,rfl,rfl⟩
  ·(conv=>whnf);repeat ((first|refine ⟨af ⟨by omega,by omega⟩,?_⟩|(intro (TF:Nat))|refine aX (tf) ?_|(refine ⟨⟨Nat.le_of_ble_eq_true rfl,Nat.le_of_ble_eq_true rfl⟩,fun b4=>?_⟩)|refine ⟨_,_,aK.here _,⟨Nat.le_of_ble_eq_true rfl,rfl⟩,?_⟩|refine And.intro (by show aJ (aH Tryz.f211 _) _=true;decide +kernel) ?_);conv=>whnf)
   rw [gf];have gy:Row 7 cx L1 (.aR b4 0 1 7) [(b4,.vec (cx (oT (dt H a f.entry f.ending) p T)++[]))]:=by rw [eQ,tg];exact .inr ⟨by simp,b4,rfl,by simp⟩
   refine ⟨fun hz=>?_,fun hz=>?_⟩
   ·have hz:(decide (((a:Int)+(T.length:Int))=((bV.map fD).length:Int))||decide ((T.length:Int)=12))=true:=hz;rw [List.length_map] at hz;simp only [Bool.or_eq_true,decide_eq_true_eq] at hz;have hr:rest=[]:=List.eq_nil_of_length_eq_zero (by omega);rw [hr,show eR (dt H a f.entry f.ending) [] p T=[] from rfl,List.append_nil,List.take_of_length_le jd] at hW;(conv=>whnf);skip;rw [hW];exact gy
   have hz:(decide (((a:Int)+(T.length:Int))=((bV.map fD).length:Int))||decide ((T.length:Int)=12))=false:=hz;rw [List.length_map] at hz;simp only [Bool.or_eq_false_iff,decide_eq_false_iff_not] at hz
   obtain ⟨us,ct,hr⟩:∃ us r,rest=us::r:=by
    cases rest with
    | nil=>simp at nY;omega
    | cons us r=>exact ⟨us,r,rfl⟩
   have ba:bV[a+T.length]?=some us:=by
    have h1:((bV.drop a).take 12)[T.length]?=some us:=by rw [hA,hr,<- dN];simp
    rw [List.getElem?_take] at h1;split at h1
    ·rwa [List.getElem?_drop] at h1
    cases h1
   obtain ⟨xx,ig⟩:=hE.aj us (List.mem_of_getElem? ba);have Bd:T.length<12:=by rw [hr,List.length_cons] at nY;omega
   have IH:=IH us ct hr;have oU:eR (dt H a f.entry f.ending) rest p T=us.flatMap fun u=>(aU (bx H f) p u).flatMap fun q=>cN (dt H a f.entry f.ending) ct q (T++[u]):=by rw [hr];rfl
   rw [oU] at hW;(conv=>whnf);skip;refine cy rfl mixed [1,2,4,5,8,12,13] [] (fun m r h=>∃ (k:Nat) (L2:List az) (v:AV) (hp:ab),r=[(1,[],.sl 1 none (bV.map fD)),(2,[],.int .i64 a),(4,[],v),(5,[],.au (bJ H)),(8,[],.au (dW (fq (bx H f) f p T))),(12,[],.int .i64 ((a:Int)+(T.length:Int))),(13,[],.int .i64 k)]/\h=hp/\m=us.length - k/\k<=us.length/\Row 7 cx L2 v hp/\L2.length<=2001/\W0=(L2++(us.drop k).flatMap fun u=>(aU (bx H f) p u).flatMap fun q=>cN (dt H a f.entry f.ending) ct q (T++[u])).take 2001) ?_ ?_
   ·(conv=>whnf);exact ⟨_,_,ar.refl _ _,_,0,L1,_,_,rfl,rfl,rfl,by omega,gy,jd,by rw [List.drop_zero];exact hW⟩
   clear gy jd hW;rintro m r h' ⟨k,L2,v,hp,rfl,rfl,rfl,hk,my,nZ,iI⟩;(conv=>whnf);repeat (refine ix (by assumption) ?_;conv=>whnf)
   refine ⟨fun aD=>?_,fun aD=>?_⟩<;>simp at aD
   ·obtain ⟨u,hu⟩:=aN aD;have rK:=ig u (List.mem_of_getElem? hu);rw [drop_cons hu,List.flatMap_cons] at iI;have bZ:=GP hs aZ rK Bd;have fR:=Be hs p u;have oa:=GQ (bx H f) f p T u hs aZ rK rfl hE.entry;(conv=>whnf);repeat ((first|refine ix (by assumption) ?_|refine aX (oa) ?_|refine And.intro (by show aJ (aH Tryz.f211 _) _=true;decide +kernel) ?_);conv=>whnf)
    refine cy rfl mixed [1,2,4,5,8,12,13,14,15] [] (fun m r h=>∃ (j:Nat) (L3:List az) (v:AV) (hp:ab),r=[(1,[],.sl 1 none (bV.map fD)),(2,[],.int .i64 a),(4,[],v),(5,[],.au (bJ H)),(8,[],.au (dW (fq (bx H f) f p T))),(12,[],.int .i64 ((a:Int)+(T.length:Int))),(13,[],.int .i64 k),(14,[],.sl 8 none ((aU (bx H f) p u).map fun q=>dW (fq (bx H f) f q (T++[u])))),(15,[],.int .i64 j)]/\h=hp/\m=(aU (bx H f) p u).length - j/\j<=(aU (bx H f) p u).length/\Row 7 cx L3 v hp/\L3.length<=2001/\W0=(L3++(((aU (bx H f) p u).drop j).flatMap (fun q=>cN (dt H a f.entry f.ending) ct q (T++[u]))++(us.drop (k+1)).flatMap fun u=>(aU (bx H f) p u).flatMap fun q=>cN (dt H a f.entry f.ending) ct q (T++[u]))).take 2001) ?_ ?_
    ·(conv=>whnf);exact ⟨_,_,ar.refl _ _,_,0,L2,_,_,rfl,rfl,rfl,by omega,my,nZ,iI⟩
    clear my nZ iI;rintro m r h' ⟨j,L3,v,hp,rfl,rfl,rfl,hj,qM,th,jX⟩;have qN:=qM;rcases qM with ⟨qO,rfl,rfl⟩|⟨qO,l3,rfl,rfl⟩
    all_goals
     (conv=>whnf);skip;refine ⟨fun er=>?_,fun er=>?_⟩<;>simp at er
     ·obtain ⟨q,hq⟩:=aN (l:=aU (bx H f) p u) (i:=j) (by omega);have oc:=bZ q (List.mem_of_getElem? hq);rw [drop_cons hq,List.flatMap_cons,List.append_assoc] at jX;have jY:L3.length<=2000:=(by first|omega|(rw [qO];simp));(conv=>whnf);repeat ((first|refine ix (by assumption) ?_|refine And.intro (by show aJ (aH Tryz.f211 _) _=true;decide +kernel) ?_);conv=>whnf)
      refine ay.mono ?_ (IH q (T++[u]) L3 _ _ ⟨pre++[us],by rw [hA,hr];simp,by simp [dN]⟩ oc qN jY);intro v1 h1 hR;(conv=>whnf);repeat (refine ⟨af ⟨by omega,by omega⟩,?_⟩;conv=>whnf)
      exact ⟨_,_,ar.refl _ _,_,(by omega),j+1,_,v1,h1,rfl,rfl,rfl,by omega,hR,by rw [List.length_take];omega,by rw [jX,Bf,List.append_assoc]⟩
     have Bg:W0=(L3++(us.drop (k+1)).flatMap fun u=>(aU (bx H f) p u).flatMap fun q=>cN (dt H a f.entry f.ending) ct q (T++[u])).take 2001:=by
      by_cases fP:j<(aU (bx H f) p u).length
      ·have jY:2001<=L3.length:=(by first|omega|(exact absurd fP (by omega)));rw [jX,List.take_append_of_le_length jY,List.take_append_of_le_length jY]
      rw [jX,drop_nil (by omega),List.flatMap_nil,List.nil_append]
     (conv=>whnf);repeat (refine ⟨af ⟨by omega,by omega⟩,?_⟩;conv=>whnf)
     exact ⟨_,_,ar.refl _ _,_,(by omega),k+1,L3,_,_,rfl,rfl,rfl,by omega,qN,th,Bg⟩
   rw [drop_nil aD,List.flatMap_nil,List.append_nil,List.take_of_length_le nZ] at iI;(conv=>whnf);skip;rw [iI];exact my
  have zd:L.length+1<=aV:=by unfold aV;omega
  (conv=>whnf);repeat ((first|refine ⟨af ⟨by omega,by omega⟩,?_⟩|(intro (TF:Nat))|refine aX (tf) ?_|(refine ⟨_,.head _,⟨rL (fun _=>rfl),zd⟩,fun b4=>⟨_,.here _,?_⟩⟩)|refine ⟨_,_,aK.here _,⟨Nat.le_of_ble_eq_true rfl,rfl⟩,?_⟩|refine And.intro (by show aJ (aH Tryz.f211 _) _=true;decide +kernel) ?_);conv=>whnf)
  rw [gf];have gy:Row 7 cx L1 (.aR b4 0 (L.length+1) 7) [(b4,.vec ((L.map cx).flatten++(cx (oT (dt H a f.entry f.ending) p T)++[])))]:=by rw [eQ];exact .inr ⟨by simp,b4,by rw [List.length_append];rfl,by rw [List.map_append,List.flatten_append];rfl⟩
  refine ⟨fun hz=>?_,fun hz=>?_⟩
  ·have hz:(decide (((a:Int)+(T.length:Int))=((bV.map fD).length:Int))||decide ((T.length:Int)=12))=true:=hz;rw [List.length_map] at hz;simp only [Bool.or_eq_true,decide_eq_true_eq] at hz;have hr:rest=[]:=List.eq_nil_of_length_eq_zero (by omega);rw [hr,show eR (dt H a f.entry f.ending) [] p T=[] from rfl,List.append_nil,List.take_of_length_le jd] at hW;(conv=>whnf);skip;rw [hW];exact gy
  have hz:(decide (((a:Int)+(T.length:Int))=((bV.map fD).length:Int))||decide ((T.length:Int)=12))=false:=hz;rw [List.length_map] at hz;simp only [Bool.or_eq_false_iff,decide_eq_false_iff_not] at hz
  obtain ⟨us,ct,hr⟩:∃ us r,rest=us::r:=by
   cases rest with
   | nil=>simp at nY;omega
   | cons us r=>exact ⟨us,r,rfl⟩
  have ba:bV[a+T.length]?=some us:=by
   have h1:((bV.drop a).take 12)[T.length]?=some us:=by rw [hA,hr,<- dN];simp
   rw [List.getElem?_take] at h1;split at h1
   ·rwa [List.getElem?_drop] at h1
   cases h1
  obtain ⟨xx,ig⟩:=hE.aj us (List.mem_of_getElem? ba);have Bd:T.length<12:=by rw [hr,List.length_cons] at nY;omega
  have IH:=IH us ct hr;have oU:eR (dt H a f.entry f.ending) rest p T=us.flatMap fun u=>(aU (bx H f) p u).flatMap fun q=>cN (dt H a f.entry f.ending) ct q (T++[u]):=by rw [hr];rfl
  rw [oU] at hW;(conv=>whnf);skip;refine cy rfl mixed [1,2,4,5,8,12,13] [] (fun m r h=>∃ (k:Nat) (L2:List az) (v:AV) (hp:ab),r=[(1,[],.sl 1 none (bV.map fD)),(2,[],.int .i64 a),(4,[],v),(5,[],.au (bJ H)),(8,[],.au (dW (fq (bx H f) f p T))),(12,[],.int .i64 ((a:Int)+(T.length:Int))),(13,[],.int .i64 k)]/\h=hp/\m=us.length - k/\k<=us.length/\Row 7 cx L2 v hp/\L2.length<=2001/\W0=(L2++(us.drop k).flatMap fun u=>(aU (bx H f) p u).flatMap fun q=>cN (dt H a f.entry f.ending) ct q (T++[u])).take 2001) ?_ ?_
  ·(conv=>whnf);exact ⟨_,_,ar.refl _ _,_,0,L1,_,_,rfl,rfl,rfl,by omega,gy,jd,by rw [List.drop_zero];exact hW⟩
  clear gy jd hW;rintro m r h' ⟨k,L2,v,hp,rfl,rfl,rfl,hk,my,nZ,iI⟩;(conv=>whnf);repeat (refine ix (by assumption) ?_;conv=>whnf)
  refine ⟨fun aD=>?_,fun aD=>?_⟩<;>simp at aD
  ·obtain ⟨u,hu⟩:=aN aD;have rK:=ig u (List.mem_of_getElem? hu);rw [drop_cons hu,List.flatMap_cons] at iI;have bZ:=GP hs aZ rK Bd;have fR:=Be hs p u;have oa:=GQ (bx H f) f p T u hs aZ rK rfl hE.entry;(conv=>whnf);repeat ((first|refine ix (by assumption) ?_|refine aX (oa) ?_|refine And.intro (by show aJ (aH Tryz.f211 _) _=true;decide +kernel) ?_);conv=>whnf)
   refine cy rfl mixed [1,2,4,5,8,12,13,14,15] [] (fun m r h=>∃ (j:Nat) (L3:List az) (v:AV) (hp:ab),r=[(1,[],.sl 1 none (bV.map fD)),(2,[],.int .i64 a),(4,[],v),(5,[],.au (bJ H)),(8,[],.au (dW (fq (bx H f) f p T))),(12,[],.int .i64 ((a:Int)+(T.length:Int))),(13,[],.int .i64 k),(14,[],.sl 8 none ((aU (bx H f) p u).map fun q=>dW (fq (bx H f) f q (T++[u])))),(15,[],.int .i64 j)]/\h=hp/\m=(aU (bx H f) p u).length - j/\j<=(aU (bx H f) p u).length/\Row 7 cx L3 v hp/\L3.length<=2001/\W0=(L3++(((aU (bx H f) p u).drop j).flatMap (fun q=>cN (dt H a f.entry f.ending) ct q (T++[u]))++(us.drop (k+1)).flatMap fun u=>(aU (bx H f) p u).flatMap fun q=>cN (dt H a f.entry f.ending) ct q (T++[u]))).take 2001) ?_ ?_
   ·(conv=>whnf);exact ⟨_,_,ar.refl _ _,_,0,L2,_,_,rfl,rfl,rfl,by omega,my,nZ,iI⟩
   clear my nZ iI;rintro m r h' ⟨j,L3,v,hp,rfl,rfl,rfl,hj,qM,th,jX⟩;have qN:=qM;rcases qM with ⟨qO,rfl,rfl⟩|⟨qO,l3,rfl,rfl⟩
   all_goals
    (conv=>whnf);skip;refine ⟨fun er=>?_,fun er=>?_⟩<;>simp at er
    ·obtain ⟨q,hq⟩:=aN (l:=aU (bx H f) p u) (i:=j) (by omega);have oc:=bZ q (List.mem_of_getElem? hq);rw [drop_cons hq,List.flatMap_cons,List.append_assoc] at jX;have jY:L3.length<=2000:=(by first|omega|(rw [qO];simp));(conv=>whnf);repeat ((first|refine ix (by assumption) ?_|refine And.intro (by show aJ (aH Tryz.f211 _) _=true;decide +kernel) ?_);conv=>whnf)
     refine ay.mono ?_ (IH q (T++[u]) L3 _ _ ⟨pre++[us],by rw [hA,hr];simp,by simp [dN]⟩ oc qN jY);intro v1 h1 hR;(conv=>whnf);repeat (refine ⟨af ⟨by omega,by omega⟩,?_⟩;conv=>whnf)
     exact ⟨_,_,ar.refl _ _,_,(by omega),j+1,_,v1,h1,rfl,rfl,rfl,by omega,hR,by rw [List.length_take];omega,by rw [jX,Bf,List.append_assoc]⟩
    have Bg:W0=(L3++(us.drop (k+1)).flatMap fun u=>(aU (bx H f) p u).flatMap fun q=>cN (dt H a f.entry f.ending) ct q (T++[u])).take 2001:=by
     by_cases fP:j<(aU (bx H f) p u).length
     ·have jY:2001<=L3.length:=(by first|omega|(exact absurd fP (by omega)));rw [jX,List.take_append_of_le_length jY,List.take_append_of_le_length jY]
     rw [jX,drop_nil (by omega),List.flatMap_nil,List.nil_append]
    (conv=>whnf);repeat (refine ⟨af ⟨by omega,by omega⟩,?_⟩;conv=>whnf)
    exact ⟨_,_,ar.refl _ _,_,(by omega),k+1,L3,_,_,rfl,rfl,rfl,by omega,qN,th,Bg⟩
  rw [drop_nil aD,List.flatMap_nil,List.append_nil,List.take_of_length_le nZ] at iI;(conv=>whnf);skip;rw [iI];exact my
 have hq:(ll (bx H f) p&&decide (0<(T.length:Int)))=false:=hq;have hh:jy (dt H a f.entry f.ending) p T=[]:=by unfold jy;rw [Bool.and_comm] at hq;exact if_neg (by rw [show (decide (0<(T.length:Int))&&ll (dt H a f.entry f.ending).s p)=false from hq];decide)
 obtain ⟨L1,eQ⟩:∃ L1,L1=L:=⟨_,rfl⟩;have gy:=hL;have jd:L1.length<=2001:=by rw [eQ];omega
 rw [<- eQ] at gy;have hW:W0=(L1++eR (dt H a f.entry f.ending) rest p T).take 2001:=by rw [GO];unfold cN;rw [hh,eQ,List.nil_append]
 (conv=>whnf);repeat (refine ⟨af ⟨by omega,by omega⟩,?_⟩;conv=>whnf)
 rw [gf];clear hL;refine ⟨fun hz=>?_,fun hz=>?_⟩
 ·have hz:(decide (((a:Int)+(T.length:Int))=((bV.map fD).length:Int))||decide ((T.length:Int)=12))=true:=hz;rw [List.length_map] at hz;simp only [Bool.or_eq_true,decide_eq_true_eq] at hz;have hr:rest=[]:=List.eq_nil_of_length_eq_zero (by omega);rw [hr,show eR (dt H a f.entry f.ending) [] p T=[] from rfl,List.append_nil,List.take_of_length_le jd] at hW;(conv=>whnf);skip;rw [hW];exact gy
 have hz:(decide (((a:Int)+(T.length:Int))=((bV.map fD).length:Int))||decide ((T.length:Int)=12))=false:=hz;rw [List.length_map] at hz;simp only [Bool.or_eq_false_iff,decide_eq_false_iff_not] at hz
 obtain ⟨us,ct,hr⟩:∃ us r,rest=us::r:=by
  cases rest with
  | nil=>simp at nY;omega
  | cons us r=>exact ⟨us,r,rfl⟩
 have ba:bV[a+T.length]?=some us:=by
  have h1:((bV.drop a).take 12)[T.length]?=some us:=by rw [hA,hr,<- dN];simp
  rw [List.getElem?_take] at h1;split at h1
  ·rwa [List.getElem?_drop] at h1
  cases h1
 obtain ⟨xx,ig⟩:=hE.aj us (List.mem_of_getElem? ba);have Bd:T.length<12:=by rw [hr,List.length_cons] at nY;omega
 have IH:=IH us ct hr;have oU:eR (dt H a f.entry f.ending) rest p T=us.flatMap fun u=>(aU (bx H f) p u).flatMap fun q=>cN (dt H a f.entry f.ending) ct q (T++[u]):=by rw [hr];rfl
 rw [oU] at hW;(conv=>whnf);skip;refine cy rfl mixed [1,2,4,5,8,12,13] [] (fun m r h=>∃ (k:Nat) (L2:List az) (v:AV) (hp:ab),r=[(1,[],.sl 1 none (bV.map fD)),(2,[],.int .i64 a),(4,[],v),(5,[],.au (bJ H)),(8,[],.au (dW (fq (bx H f) f p T))),(12,[],.int .i64 ((a:Int)+(T.length:Int))),(13,[],.int .i64 k)]/\h=hp/\m=us.length - k/\k<=us.length/\Row 7 cx L2 v hp/\L2.length<=2001/\W0=(L2++(us.drop k).flatMap fun u=>(aU (bx H f) p u).flatMap fun q=>cN (dt H a f.entry f.ending) ct q (T++[u])).take 2001) ?_ ?_
 ·(conv=>whnf);exact ⟨_,_,ar.refl _ _,_,0,L1,_,_,rfl,rfl,rfl,by omega,gy,jd,by rw [List.drop_zero];exact hW⟩
 clear gy jd hW;rintro m r h' ⟨k,L2,v,hp,rfl,rfl,rfl,hk,my,nZ,iI⟩;(conv=>whnf);repeat (refine ix (by assumption) ?_;conv=>whnf)
 refine ⟨fun aD=>?_,fun aD=>?_⟩<;>simp at aD
 ·obtain ⟨u,hu⟩:=aN aD;have rK:=ig u (List.mem_of_getElem? hu);rw [drop_cons hu,List.flatMap_cons] at iI;have bZ:=GP hs aZ rK Bd;have fR:=Be hs p u;have oa:=GQ (bx H f) f p T u hs aZ rK rfl hE.entry;(conv=>whnf);repeat ((first|refine ix (by assumption) ?_|refine aX (oa) ?_|refine And.intro (by show aJ (aH Tryz.f211 _) _=true;decide +kernel) ?_);conv=>whnf)
  refine cy rfl mixed [1,2,4,5,8,12,13,14,15] [] (fun m r h=>∃ (j:Nat) (L3:List az) (v:AV) (hp:ab),r=[(1,[],.sl 1 none (bV.map fD)),(2,[],.int .i64 a),(4,[],v),(5,[],.au (bJ H)),(8,[],.au (dW (fq (bx H f) f p T))),(12,[],.int .i64 ((a:Int)+(T.length:Int))),(13,[],.int .i64 k),(14,[],.sl 8 none ((aU (bx H f) p u).map fun q=>dW (fq (bx H f) f q (T++[u])))),(15,[],.int .i64 j)]/\h=hp/\m=(aU (bx H f) p u).length - j/\j<=(aU (bx H f) p u).length/\Row 7 cx L3 v hp/\L3.length<=2001/\W0=(L3++(((aU (bx H f) p u).drop j).flatMap (fun q=>cN (dt H a f.entry f.ending) ct q (T++[u]))++(us.drop (k+1)).flatMap fun u=>(aU (bx H f) p u).flatMap fun q=>cN (dt H a f.entry f.ending) ct q (T++[u]))).take 2001) ?_ ?_
  ·(conv=>whnf);exact ⟨_,_,ar.refl _ _,_,0,L2,_,_,rfl,rfl,rfl,by omega,my,nZ,iI⟩
  clear my nZ iI;rintro m r h' ⟨j,L3,v,hp,rfl,rfl,rfl,hj,qM,th,jX⟩;have qN:=qM;rcases qM with ⟨qO,rfl,rfl⟩|⟨qO,l3,rfl,rfl⟩
  all_goals
   (conv=>whnf);skip;refine ⟨fun er=>?_,fun er=>?_⟩<;>simp at er
   ·obtain ⟨q,hq⟩:=aN (l:=aU (bx H f) p u) (i:=j) (by omega);have oc:=bZ q (List.mem_of_getElem? hq);rw [drop_cons hq,List.flatMap_cons,List.append_assoc] at jX;have jY:L3.length<=2000:=(by first|omega|(rw [qO];simp));(conv=>whnf);repeat ((first|refine ix (by assumption) ?_|refine And.intro (by show aJ (aH Tryz.f211 _) _=true;decide +kernel) ?_);conv=>whnf)
    refine ay.mono ?_ (IH q (T++[u]) L3 _ _ ⟨pre++[us],by rw [hA,hr];simp,by simp [dN]⟩ oc qN jY);intro v1 h1 hR;(conv=>whnf);repeat (refine ⟨af ⟨by omega,by omega⟩,?_⟩;conv=>whnf)
    exact ⟨_,_,ar.refl _ _,_,(by omega),j+1,_,v1,h1,rfl,rfl,rfl,by omega,hR,by rw [List.length_take];omega,by rw [jX,Bf,List.append_assoc]⟩
   have Bg:W0=(L3++(us.drop (k+1)).flatMap fun u=>(aU (bx H f) p u).flatMap fun q=>cN (dt H a f.entry f.ending) ct q (T++[u])).take 2001:=by
    by_cases fP:j<(aU (bx H f) p u).length
    ·have jY:2001<=L3.length:=(by first|omega|(exact absurd fP (by omega)));rw [jX,List.take_append_of_le_length jY,List.take_append_of_le_length jY]
    rw [jX,drop_nil (by omega),List.flatMap_nil,List.nil_append]
   (conv=>whnf);repeat (refine ⟨af ⟨by omega,by omega⟩,?_⟩;conv=>whnf)
   exact ⟨_,_,ar.refl _ _,_,(by omega),k+1,L3,_,_,rfl,rfl,rfl,by omega,qN,th,Bg⟩
 rw [drop_nil aD,List.flatMap_nil,List.append_nil,List.take_of_length_le nZ] at iI;(conv=>whnf);skip;rw [iI];exact my
theorem Mi (H:ax) (bV:List (List ao)) (a:Nat) (f:bc) (hE:Bc H bV a f):∀ rest,GM H bV a f rest
 | []=>Mh H bV a f hE [] (fun us r h=>by cases h)
 | us::r=>Mh H bV a f hE (us::r) (fun ze r' h=>by cases h;exact Mi H bV a f hE r)
end Go.Abs.Wall
namespace Go.Abs.Wall
open Go Go.Abs Go.Proofs
theorem Mj {E:Env} (hs:jx E.s):∀ (rest:List (List ao)) (p:bg) (T:List ao),jz E.s p->(∀ us∈rest,∀ u∈us,gG u)->∀ e∈eR E rest p T,e.word.form.entry=E.entry/\e.word.form.ending=E.ending/\∀ c∈e.word.form.ah,0<=c/\c<E.s.H.lex.ah.length
 | [],_,_,_,_,e,he=>by cases he
 | us::r,p,T,hp,hu,e,he=>by
   unfold eR at he;rw [List.mem_flatMap] at he;obtain ⟨u,DO,he⟩:=he;rw [List.mem_flatMap] at he;obtain ⟨q,hq,he⟩:=he;have oc:=vO hs hp (hu us (by simp) u DO) q hq;rcases List.mem_append.1 he with he|he
   ·unfold jy at he;split at he
    ·cases List.mem_singleton.1 he
     exact ⟨rfl,rfl,oc.dO⟩
    cases he
   exact Mj hs r q (T++[u]) oc (fun ze h'=>hu ze (by simp [h'])) e he
theorem TG {H:ax} (hH:ic H) {bP:List (List ao)} (hf:bP.length<=12) (hu:∀ us∈bP,us.length<=1048576/\∀ u∈us,gG u) {at_:Nat}:∀ e∈ln H bP at_,Bh e.word:=by
 intro e he;have cR:=DP hH hf hu e he;have hm:=hH.lex.many;unfold ln at he;rw [List.mem_flatMap] at he;obtain ⟨i,hi,he⟩:=he;unfold lY at he;rw [List.mem_flatMap] at he;obtain ⟨k,hk,he⟩:=he;rw [List.mem_range] at hi hk;unfold gh at he;split at he
 ·cases he
 unfold cN at he;rw [zf,List.nil_append] at he;have iH:jx (dt H at_ i ((k:Int) - 1)).s:=zc hH (by omega) (by omega) (by omega);obtain ⟨h1,h2,h3⟩:=Mj iH bP fS [] (zg _) (fun us h=>(hu us h).2) e he;have h1:e.word.form.entry=(i:Int):=h1;have h2:e.word.form.ending=(k:Int) - 1:=h2;refine ⟨⟨by omega,by omega,fun c hc=>?_,by have:=cR.cl;omega⟩,by have:=cR.bE;omega⟩;have h4:=h3 c hc;have h5:c<H.lex.ah.length:=h4.2;omega
def zh (H:ax) (bV:List (List ao)) (a:Nat):List az:=(ln H ((bV.drop a).take 12) a).take 2001
def pV (H:ax) (bV:List (List ao)) (a:Nat):List az:=if (zh H bV a).length<=2000 then jZ (zh H bV a) else zh H bV a
def ng (a b:az):Bool:=decide (xy a b<0)
theorem xz:∀ e:az,(cx e).length=7:=fun _=>rfl
structure xA (H:ax) (bV:List (List ao)) (a:Nat):Prop where
 jc:ic H
 fit:eP H
 aj:∀ us∈bV,us.length<=1048576/\∀ u∈us,gG u
 len:bV.length<=1048576
 at_:a<=bV.length
theorem xA.ok {H:ax} {bV:List (List ao)} {a:Nat} (h:xA H bV a) {e n:Int} (he:0<=e/\e<H.lex.entries.length) (hn:-1<=n/\n<H.lex.bL.length):Bc H bV a ⟨e,n,[]⟩:=⟨h.jc,h.fit,he,hn,h.aj,h.len,h.at_⟩
theorem xA.all {H:ax} {bV:List (List ao)} {a:Nat} (h:xA H bV a):((bV.drop a).take 12).length<=12/\∀ us∈(bV.drop a).take 12,us.length<=1048576/\∀ u∈us,gG u:=
 ⟨by rw [List.length_take];omega,fun us ba=>h.aj us (List.mem_of_mem_drop (List.mem_of_mem_take ba))⟩
theorem Mk {α:Type} {k:Nat} {enc:α->List AV} {P:Program} {t:TypeId} {b o i d:Nat} {h:ab} {L:List α} {x:α} {K:AV->Prop} (hk:∀ a,(enc a).length=k) (hd:d<=k) (hm:(b,Ob.vec (L.map enc).flatten)∈h) (ho:o=i*k+d) (hx:L[i]?=some x)
  (hl:fZ P t ((enc x).drop d++((L.drop (i+1)).map enc).flatten) K):∃ cs l,(b,Ob.vec cs)∈h/\iG o cs=some l/\fZ P t l K:=by
 obtain ⟨hi,iJ⟩:=List.getElem?_eq_some_iff.1 hx;have hle:(i+1)*k<=L.length*k:=Nat.mul_le_mul_right k hi;rw [Nat.succ_mul] at hle;refine ⟨_,_,hm,Bi ?_,?_⟩
 ·rw [mz hk,ho];omega
 rw [ho,<- List.drop_drop,xB hk,List.drop_eq_getElem_cons hi,iJ,List.map_cons,List.flatten_cons,List.drop_append,hk,Nat.sub_eq_zero_of_le hd,List.drop_zero];exact hl
theorem TH (Wl:List az) (i:Nat) (hi:i<=Wl.length):((Wl.take i).foldl (eZ ng) []).length=i:=by have:=(DQ (less:=ng) (l:=Wl.take i) (acc:=[])).length_eq;rw [this,List.append_nil,List.length_take,Nat.min_eq_left hi]
theorem TI (Wl:List az) (i:Nat) (u:az) (hu:Wl[i]?=some u):(Wl.take (i+1)).foldl (eZ ng) []=eZ ng ((Wl.take i).foldl (eZ ng) []) u:=by rw [dg hu,List.foldl_append];rfl
def c139:aw:=⟨[0,1,2,3,6,7,8,9,10,11,17,30,51,70,89],[],[],[],[(8,[0,1,2,3,4,5,6,7,8,9,10,11,12,13,14,15,16,17,18],[]),(9,[0,1,2,3,4,5,6,7,8,9,10],[]),(14,[0,1,2,3,4,5,6,7,8,9,10,11,12,13,14,15],[]),(16,[0,1,2,3,4,5,6,7,8,9,10,11,12,13,14,15,16,17],[])],[61]⟩
set_option maxHeartbeats 2000000 in
theorem TJ (H:ax) (bV:List (List ao)) (a:Nat) (hE:xA H bV a) :
  ay Tryz.prog 139 [.agg (bJ H),.sl 1 none (bV.map fD),.int .i64 a] [] (fun v h'=>∃ hp Z,Row 7 cx (pV H bV a) v hp/\h'=hp++Z):=by
 obtain ⟨uq,ur⟩:=hE.all;obtain ⟨bP,zi⟩:∃ A,A=(bV.drop a).take 12:=⟨_,rfl⟩;have hm:=hE.jc.lex.many;rw [<- zi] at uq ur;refine aG (F:=Tryz.f139) c139 rfl rfl rfl mixed rfl fun X=>?_;(conv=>whnf);skip;refine cy rfl mixed [1,2,3,7,8] [] (fun m r h=>∃ (i:Nat) (v:AV) (hp:ab),r=[(1,[],.sl 1 none (bV.map fD)),(2,[],.int .i64 a),(3,[],.au (bJ H)),(7,[],v),(8,[],.int .i64 i)]/\h=hp/\m=H.lex.entries.length - i/\i<=H.lex.entries.length/\Row 7 cx (((List.range i).flatMap (lY H bP a)).take 2001) v hp) ?_ ?_
 ·(conv=>whnf);exact ⟨_,_,ar.qP (.cons (ag.refl _) (.cons (ag.refl _) (.cons (ag.refl _) (.cons xC (je.refl _))))),_,0,.fM,[],rfl,rfl,rfl,by omega,.inl ⟨by simp,rfl,rfl⟩⟩
 rintro m r h' ⟨i,v,hp,rfl,rfl,rfl,hi,hr⟩;(conv=>whnf);skip;refine ⟨fun aD=>?_,fun aD=>?_⟩<;>simp at aD
 ·(conv=>whnf);skip;refine cy rfl mixed [1,2,3,7,8,9] [] (fun m r h=>∃ (k:Nat) (c:Int) (v:AV) (hp:ab),r=[(1,[],.sl 1 none (bV.map fD)),(2,[],.int .i64 a),(3,[],.au (bJ H)),(7,[],v),(8,[],.int .i64 i),(9,[],.int .i64 c)]/\h=hp/\m=H.lex.bL.length+1 - k/\c=(k:Int) - 1/\k<=H.lex.bL.length+1/\Row 7 cx (((List.range i).flatMap (lY H bP a)++(List.range k).flatMap (gh H bP a i)).take 2001) v hp) ?_ ?_
  ·(conv=>whnf);exact ⟨_,_,ar.refl _ _,_,0,-1,_,_,rfl,rfl,rfl,rfl,by omega,by simpa using hr⟩
  clear hr;rintro m r h' ⟨k,c,v,hp,rfl,rfl,rfl,hc,hk,hr⟩;have bY:(List.range (k+1)).flatMap (gh H bP a i)=(List.range k).flatMap (gh H bP a i)++gh H bP a i k:=(by rw [List.range_succ,List.flatMap_append,List.flatMap_singleton]);obtain ⟨L,hL⟩:∃ L,L=((List.range i).flatMap (lY H bP a)++(List.range k).flatMap (gh H bP a i)).take 2001:=⟨_,rfl⟩;rw [<- hL] at hr;have ti:=hr;have tm:L.length<=2001:=by rw [hL,List.length_take];omega
  rcases hr with ⟨eQ,rfl,rfl⟩|⟨eQ,lb,rfl,rfl⟩
  all_goals
   (conv=>whnf);skip;refine ⟨fun cI=>?_,fun cI=>?_⟩<;>simp at cI
   ·have fO:c<H.lex.bL.length:=(by first|exact cI.1|exact cI);have xw:L.length<=2000:=(by first|omega|(rw [eQ];simp));(conv=>whnf);repeat ((first|(refine qQ (⟨0,[],[],0⟩:lp) ?_ ?_;(focus (conv=>whnf;skip));(focus (intro g0;have g0:=of_decide_eq_true g0;show 0<=_/\_<_;omega)))|(refine qQ (⟨[],0,[],0⟩:kB) ?_ ?_;(focus (conv=>whnf;skip));(focus (intro g0;show 0<=_/\_<_;omega)))|refine And.intro (by show aJ (aH Tryz.f139 _) _=true;decide +kernel) ?_);conv=>whnf)
    refine ⟨fun hs=>?_,fun hs=>?_⟩
    ·have hs:vP H.lex i c=true:=hs;have xD:gh H bP a i k=[]:=by unfold gh;rw [<- hc,if_pos hs]
     rw [xD,List.append_nil] at bY;(conv=>whnf);repeat (refine ⟨af ⟨by omega,by omega⟩,?_⟩;conv=>whnf)
     exact ⟨_,_,ar.refl _ _,_,(by omega),k+1,_,_,_,rfl,rfl,rfl,by omega,by omega,by rw [bY,<- hL];exact ti⟩
    have hs:vP H.lex i c=false:=hs;have xD:gh H bP a i k=cN (dt H a i c) bP fS []:=by unfold gh;rw [<- hc,if_neg (by rw [hs];decide)]
    (conv=>whnf);repeat ((first|refine aX (TK H ⟨i,c,[]⟩ hE.jc.lex ⟨by show (0:Int)<=i;omega,by show (i:Int)<H.lex.entries.length;omega⟩ fO trivial) ?_|refine And.intro (by show aJ (aH Tryz.f139 _) _=true;decide +kernel) ?_);conv=>whnf)
    refine ay.mono ?_ (Mi H bV a ⟨i,c,[]⟩ (hE.ok ⟨by omega,by omega⟩ ⟨by omega,fO⟩) bP fS [] L _ _ ⟨[],by rw [zi];rfl,rfl⟩ (xE _) ti xw);intro v1 h1 hR;(conv=>whnf);repeat (refine ⟨af ⟨by omega,by omega⟩,?_⟩;conv=>whnf)
    have hR:Row 7 cx ((L++cN (dt H a i c) bP fS []).take 2001) v1 h1:=hR;rw [hL,Bf,<- xD,List.append_assoc,<- bY] at hR;exact ⟨_,_,ar.refl _ _,_,(by omega),k+1,_,_,_,rfl,rfl,rfl,(by show c+1=_;omega),by omega,hR⟩
   have gH:((List.range (i+1)).flatMap (lY H bP a)).take 2001=L:=by
    rw [List.range_succ,List.flatMap_append,List.flatMap_singleton];have iH:lY H bP a i=(List.range k).flatMap (gh H bP a i)++((List.range (H.lex.bL.length+1)).drop k).flatMap (gh H bP a i):=by unfold lY;rw [<- List.flatMap_append];congr 1;have h1:List.range k=(List.range (H.lex.bL.length+1)).take k:=(by rw [List.take_range,Nat.min_eq_left hk]);rw [h1,List.take_append_drop]
    by_cases dX:k<H.lex.bL.length+1
    ·have jY:2001<=L.length:=(by first|omega|(rw [eQ] at cI;simp at cI;omega));rw [iH,<- List.append_assoc,List.take_append_of_le_length (by rw [hL,List.length_take] at jY;omega),hL]
    rw [iH,List.drop_eq_nil_of_le (by simp;omega),List.flatMap_nil,List.append_nil,hL]
   (conv=>whnf);repeat (refine ⟨af ⟨by omega,by omega⟩,?_⟩;conv=>whnf)
   exact ⟨_,_,ar.refl _ _,_,(by omega),i+1,_,_,rfl,rfl,rfl,by omega,by rw [gH];exact ti⟩
 have bO:i=H.lex.entries.length:=(by omega);obtain ⟨Wl,DR⟩:∃ W,W=zh H bV a:=⟨_,rfl⟩;have DS:((List.range i).flatMap (lY H bP a)).take 2001=Wl:=by rw [DR,bO,zi];rfl
 rw [DS] at hr;have N5:Wl.length<=2001:=by rw [<- DS,List.length_take];omega
 have xF:∀ e∈Wl,Bh e.word:=fun e he=>TG hE.jc uq ur e (by rw [<- DS,bO] at he;exact List.mem_of_mem_take he);have xG:∀ e∈Wl,vQ H a e:=fun e he=>DP hE.jc uq ur e (by rw [<- DS,bO] at he;exact List.mem_of_mem_take he);have TL:Wl.foldl (eZ ng) []=jZ Wl:=Ml GR (fun x hx y hy h1 h2=>Mm (xG x hx) (xG y hy) (zW.c.uu _ _ h1 h2));rcases hr with ⟨aI,rfl,rfl⟩|⟨aI,b,rfl,rfl⟩
 ·have Bj:pV H bV a=[]:=by unfold pV;rw [<- DR,aI];simp [jZ,ni]
  rw [Bj];(conv=>whnf);skip;refine xH 60 rfl mixed ?_;(conv=>whnf);refine .inr ?_;(conv=>whnf);skip;refine cF rfl ?_;(conv=>whnf);skip;exact ⟨[],[],.inl ⟨rfl,rfl,rfl⟩,rfl⟩
 by_cases GS:Wl.length<=2000
 ·have Bj:pV H bV a=jZ Wl:=by unfold pV;rw [<- DR,if_pos GS]
  rw [Bj];have eF:0<Wl.length:=List.length_pos_iff.2 aI;(conv=>whnf);skip;refine bM rfl mixed [7,10] [] (fun m r h=>∃ (i:Nat) (R:List az),r=[(7,[],.aR b 0 Wl.length 7),(10,[],.int .i64 i)]/\h=[(b,.vec (R.map cx).flatten)]/\m=Wl.length - i/\1<=i/\i<=Wl.length/\R=(Wl.take i).foldl (eZ ng) []++Wl.drop i) ?_ ?_
  ·(conv=>whnf);refine ⟨_,1,Wl,rfl,rfl,rfl,by omega,by omega,?_⟩;cases bR:Wl with
   | nil=>exact absurd bR aI
   | cons w t=>rfl
  rintro m r h ⟨i,R,rfl,rfl,rfl,N6,hi,hR⟩;(conv=>whnf);skip;refine ⟨fun DT=>?_,fun DT=>?_⟩<;>simp at DT
  ·obtain ⟨u,hu⟩:=aN (l:=Wl) (i:=i) (by omega);obtain ⟨S,hS⟩:∃ S,S=(Wl.take i).foldl (eZ ng) []:=⟨_,rfl⟩;obtain ⟨tl,gx⟩:∃ t,t=Wl.drop (i+1):=⟨_,rfl⟩;have Mn:S.length=i:=by rw [hS];exact TH Wl i hi
   have bZ:(Wl.take (i+1)).foldl (eZ ng) []=eZ ng S u:=by rw [hS];exact TI Wl i u hu
   rw [<- hS,drop_cons hu,<- gx] at hR
   have TM:∀ x,x∈S++u::tl->x∈Wl:=by
    intro x hx;have hp:=(DQ (less:=ng) (l:=Wl.take i) (acc:=[]));rw [<- hS,List.append_nil] at hp;rcases List.mem_append.1 hx with hx|hx
    ·exact List.mem_of_mem_take (hp.mem_iff.1 hx)
    rcases List.mem_cons.1 hx with rfl|hx
    ·exact List.mem_of_getElem? hu
    rw [gx] at hx;exact List.mem_of_mem_drop hx
   (conv=>whnf);skip;refine bM rfl mixed [7,10,11] [] (fun m r h=>∃ (k:Nat) (R:List az),r=[(7,[],.aR b 0 Wl.length 7),(10,[],.int .i64 i),(11,[],.int .i64 k)]/\h=[(b,.vec (R.map cx).flatten)]/\m=k/\k<=i/\R=S.take k++u::(S.drop k++tl)/\eZ ng S u=eZ ng (S.take k) u++S.drop k) ?_ ?_
   ·(conv=>whnf);exact ⟨_,i,R,rfl,rfl,rfl,by omega,by rw [hR,<- Mn];simp,by rw [<- Mn];simp⟩
   clear hR;rintro m r h ⟨k,R,rfl,rfl,rfl,hk,hR,hb⟩;have tn:R.length=Wl.length:=by rw [hR,gx];simp;omega
   have uw:R[m]?=some u:=by rw [hR];exact GU (by rw [List.length_take];omega)
   obtain ⟨pv,ka⟩:=aN (l:=R) (i:=((m:Int) - 1).toNat) (by omega)
   have Mo:∀ x∈R,x∈Wl:=fun x hx=>TM x (by
    rw [hR] at hx;rw [List.mem_append,List.mem_cons,List.mem_append] at hx;rw [List.mem_append,List.mem_cons];rcases hx with hx|hx|hx|hx
    ·exact .inl (List.mem_of_mem_take hx)
    ·exact .inr (.inl hx)
    ·exact .inl (List.mem_of_mem_drop hx)
    exact .inr (.inr hx))
   have DU:=xF u (Mo u (List.mem_of_getElem? uw));have iH:=xF pv (Mo pv (List.mem_of_getElem? ka));(conv=>whnf);repeat ((first|refine ⟨af ⟨by omega,by omega⟩,?_⟩|(refine iK (i:=m) (by omega) ?_)|(refine xI ?_ ?_;(focus (conv=>whnf;skip));(focus (intro g0;simp at g0;show 0<=_/\_<_;omega)))|(refine Mk (d:=3) xz (by decide) (.head _) (congrArg (fun x=>x+3) (Nat.zero_add (m*7))) uw ?_)|(refine Mk (d:=3) xz (by decide) (.head _) (congrArg (fun x=>x+3) (Nat.zero_add (((m:Int) - 1).toNat*7))) ka ?_)|refine aX (TN u.word pv.word DU iH) ?_|refine And.intro (by show aJ (aH Tryz.f139 _) _=true;decide +kernel) ?_);conv=>whnf)
   refine ⟨fun hq=>?_,fun hq=>?_⟩
   ·have hq:(decide (0<(m:Int))&&ng u pv)=true:=hq;rw [Bool.and_eq_true,decide_eq_true_eq] at hq;obtain ⟨c,hc,h1,h2⟩:=zj (L:=S) (m:=m) (by omega) (by omega);have lZ:pv=c:=by rw [show ((m:Int) - 1).toNat=m - 1 by omega,hR,h1,List.append_assoc,List.getElem?_append_right (by rw [List.length_take];omega),List.length_take,show m - 1 - min (m - 1) S.length=0 by omega] at ka;exact (Option.some.inj ka).symm
    subst lZ;have Bk:R[m - 1]?=some pv:=(by rw [<- ka,show ((m:Int) - 1).toNat=m - 1 by omega]);have Bl:(R.set m pv).set (m - 1) u=S.take (m - 1)++u::(S.drop (m - 1)++tl):=by rw [hR,h1,h2];exact GV (by rw [List.length_take];omega) (by omega)
    (conv=>whnf);repeat ((first|refine ⟨af ⟨by omega,by omega⟩,?_⟩|(refine iK (i:=m) (by omega) ?_)|(refine ⟨m - 1,af ⟨by omega,by omega⟩,?_⟩)|(refine ft xz (.head _) (Nat.zero_add _) uw ?_)|(refine ft xz (.head _) (Nat.zero_add _) Bk ?_)|(refine rM pv (by decide) xz (i:=m) (by omega) (Nat.zero_add _) rfl (.here _) ?_)|(refine rM u (by decide) xz (i:=m - 1) (by simp;omega) (Nat.zero_add _) rfl (.here _) ?_)|refine And.intro (by show aJ (aH Tryz.f139 _) _=true;decide +kernel) ?_);conv=>whnf)
    exact ⟨m - 1,by omega,m - 1,_,by rw [show (m:Int) - 1=((m - 1:Nat):Int) by omega],rfl,rfl,by omega,Bl,by rw [hb,h1,GW hq.2,h2]⟩
   have hq:(decide (0<(m:Int))&&ng u pv)=false:=hq
   have gH:R=eZ ng S u++tl:=by
    rw [hb,hR];by_cases h0:m=0
    ·subst h0;rfl
    obtain ⟨c,hc,h1,h2⟩:=zj (L:=S) (m:=m) (by omega) (by omega);have lZ:pv=c:=by rw [show ((m:Int) - 1).toNat=m - 1 by omega,hR,h1,List.append_assoc,List.getElem?_append_right (by rw [List.length_take];omega),List.length_take,show m - 1 - min (m - 1) S.length=0 by omega] at ka;exact (Option.some.inj ka).symm
    subst lZ;rw [h1,GX (by rw [Bool.and_eq_false_iff,decide_eq_false_iff_not] at hq;rcases hq with hq|hq;omega;exact hq)];simp
   (conv=>whnf);repeat (refine ⟨af ⟨by omega,by omega⟩,?_⟩;conv=>whnf)
   exact ⟨_,by omega,i+1,R,rfl,rfl,rfl,by omega,by omega,by rw [bZ,gH,gx]⟩
  have TO:i=Wl.length:=(by omega);rw [TO,List.take_length,List.drop_length,List.append_nil,TL] at hR;(conv=>whnf);skip;refine ⟨_,[],.inr ⟨?_,b,?_,rfl⟩,by rw [hR,List.append_nil]⟩
  ·intro h;have:=congrArg List.length h;rw [jZ,rN] at this;exact aI (List.eq_nil_of_length_eq_zero this)
  rw [jZ,rN]
 have Bj:pV H bV a=Wl:=by unfold pV;rw [<- DR,if_neg GS]
 rw [Bj];(conv=>whnf);skip;refine xH 60 rfl mixed ?_;(conv=>whnf);refine .inr ?_;(conv=>whnf);skip;refine cF (by simp;omega) ?_;(conv=>whnf);skip;exact ⟨_,[],.inr ⟨aI,b,rfl,rfl⟩,(List.append_nil _).symm⟩
end Go.Abs.Wall
namespace Go.Abs.Wall
open Go Go.Abs Go.Proofs
def c140:aw:=⟨[0,1,2,4,5,6,10],[],[],[],[(5,[0,1,2,3,4,5,6,7,8,9],[])],[]⟩
def c76:aw:=⟨[0,1,2,3,6,7,8,9,14,20,27],[],[],[],[],[]⟩
def c37:aw:=⟨[0,1,2,4,5,41],[],[5],[],[],[]⟩
def c40:aw:=⟨[0,1,2,3,4],[],[],[],[],[]⟩
theorem TP (H:ax) (bV:List (List ao)) (a:Nat) (hE:xA H bV a):ae Tryz.prog 139 [.agg (bJ H),.sl 1 none (bV.map fD),.int .i64 a] [] (.sl 7 none ((pV H bV a).map cx)):=Row.ok (by decide) xz (TJ H bV a hE)
theorem TQ (H:ax) (line:List Int) (gi:eP H) (hL:qR H line):ae Tryz.prog 140 [.agg (bJ H),.sl 1 none (ints line)] [] (.sl 1 none ((line.map (fg H)).map fD)):=by
 have dI:=hL.bE;refine ae.of (aG (F:=Tryz.f140) c140 rfl rfl rfl mixed rfl fun X=>?_);(conv=>whnf);skip;refine cy rfl mixed [1,2,5,6] [] (fun m r h=>∃ (i:Nat) (v:AV) (hp:ab),r=[(1,[],.sl 1 none (ints line)),(2,[],.au (bJ H)),(5,[],v),(6,[],.int .i64 i)]/\h=hp/\m=line.length - i/\i<=line.length/\Out 1 fD ((line.take i).map (fg H)) v hp) ?_ ?_
 ·(conv=>whnf);exact ⟨_,_,ar.refl _ _,_,0,_,_,rfl,rfl,rfl,by omega,.inl ⟨rfl,rfl,rfl⟩⟩
 rintro m r h' ⟨i,v,hp,rfl,rfl,rfl,hi,ho⟩;(conv=>whnf);skip;refine ⟨fun aD=>?_,fun aD=>?_⟩<;>simp at aD
 ·obtain ⟨n,hn⟩:=aN aD;have uz:=hL.aB n (List.mem_of_getElem? hn);have ch:=dg hn;have lV:=TR H n gi hL.jc uz.1 uz.2;rcases ho with ⟨he,rfl,rfl⟩|⟨q,rfl,rfl⟩
  all_goals
   (conv=>whnf);repeat ((first|refine ⟨af ⟨by omega,by omega⟩,?_⟩|refine ix (by assumption) ?_|refine aX (lV) ?_|(refine ⟨Nat.le_of_ble_eq_true rfl,fun q'=>?_⟩)|(refine ⟨(by simp;unfold aV;omega),fun q'=>⟨_,.here _,?_⟩⟩)|refine And.intro (by show aJ (aH Tryz.f140 _) _=true;decide +kernel) ?_);conv=>whnf)
   refine ⟨_,_,ar.refl _ _,_,(by omega),i+1,_,_,rfl,rfl,rfl,by omega,.inr ⟨q',?_,rfl⟩⟩;rw [ch,List.map_append,List.map_append];first|done|rfl|(rw [he];done)|(rw [he];rfl)
 rw [List.take_of_length_le aD] at ho;(conv=>whnf);skip;exact ho.le (by decide)
theorem TS {H:ax} {line:List Int} (gi:eP H) (hL:qR H line) {a:Nat} (ha:a<=line.length):xA H (line.map (fg H)) a:=by have dI:=hL.bE;refine ⟨hL.jc,gi,fun us ba=>?_,by rw [List.length_map];omega,by rw [List.length_map];exact ha⟩;obtain ⟨n,hn,rfl⟩:=List.mem_map.1 ba;have uz:=hL.aB n hn;have bf:=Bm (p:=H.period) ((rO hL.jc.oV).each _ (List.mem_of_getElem? (uA uz.1 uz.2)));exact ⟨by unfold fg;omega,bf.2⟩
theorem Mp (H:ax) (line:List Int) (a:Nat):zh H (line.map (fg H)) a=(ln H (mA H line a) a).take 2001:=by unfold zh mA;rw [List.map_take,List.map_drop]
def jA (H:ax) (line:List Int) (a:Int):Int:=
 if eb H line≠0 then eb H line else if bG a 0 line.length=false then 1 else if 2000<(cD H line a.toNat).length then 2 else 0
def xJ (H:ax) (line:List Int) (a:Int):List az:=if jA H line a=0 then cD H line a.toNat else []
theorem Mq (H:ax) (line:List Int) (a:Nat):(cD H line a).length=(ln H (mA H line a) a).length:=by unfold cD jZ;rw [rN]
theorem TU {H:ax} {line:List Int} {a:Nat} (h:(cD H line a).length<=2000):pV H (line.map (fg H)) a=cD H line a:=by unfold pV;rw [Mp];rw [Mq] at h;rw [List.take_of_length_le (by omega),if_pos h];rfl
theorem TV {H:ax} {line:List Int} {a:Nat} (h:2000<(cD H line a).length):(pV H (line.map (fg H)) a).length=2001:=by
 unfold pV;rw [Mp];rw [Mq] at h;have:((ln H (mA H line a) a).take 2001).length=2001:=by rw [List.length_take];omega
 rw [if_neg (by omega),this]
theorem TW (H:ax) (line:List Int) (a:Int) (hf:eP H) (hl:line.length<=1048576) :
  ae Tryz.prog 76 [.agg (bJ H),.sl 1 none (ints line),.int .i64 a] [] (.aQ [.sl 7 none ((xJ H line a).map cx),.int .i64 (jA H line a)]):=by
 refine ae.of ?_;refine aG (F:=Tryz.f76) c76 rfl rfl rfl mixed rfl fun X=>?_;(conv=>whnf);repeat (refine ae.k0 (GY H line hf (by unfold aq;omega)) ?_;conv=>whnf)
 refine ⟨fun h1=>?_,fun h1=>?_⟩<;>simp at h1
 ·have he:jA H line a=eb H line:=(by rw [jA,if_pos h1]);(conv=>whnf);skip;rw [xJ,he,if_neg h1];exact ag.aQ (.cons (ag.nil (by decide)) (.cons (ag.refl _) .nil))
 have hL:=qS h1;(conv=>whnf);repeat (refine ae.k0 (within _ _ _) ?_;conv=>whnf)
 refine ⟨fun h2=>?_,fun h2=>?_⟩
 ·have h2:(!bG a 0 ((ints line).length:Int))=true:=h2;rw [dB,Bool.not_eq_true'] at h2;have he:jA H line a=1:=(by rw [jA,if_neg (by omega),if_pos h2]);(conv=>whnf);skip;rw [xJ,he,if_neg (by decide)];exact ag.aQ (.cons (ag.nil (by decide)) (.cons (ag.refl _) .nil))
 have h2:(!bG a 0 ((ints line).length:Int))=false:=h2;rw [dB,Bool.not_eq_false',dS] at h2;obtain ⟨n,rfl⟩:∃ n:Nat,a=(n:Int):=⟨a.toNat,by omega⟩;have DV:jA H line n=if 2000<(cD H line n).length then 2 else 0:=by rw [jA,if_neg (by omega),if_neg (by rw [Bool.not_eq_false,dS];omega)];rfl
 (conv=>whnf);repeat (refine ae.k0 (Mr H line n 2000 hL.jc hf hL.aB hl (by omega) (by decide)) ?_;conv=>whnf)
 by_cases hb:(cD H line n).length<=2000
 ·rw [if_neg (by omega)] at DV;rw [Ms hb];refine cF (by simp;omega) ?_;(conv=>whnf);skip;rw [xJ,DV,if_pos rfl];exact ag.refl _
 rw [if_pos (by omega)] at DV;have GZ:=Mt (H:=H) (line:=line) (at_:=n) (most:=2000) (by omega);refine cT (by rw [List.length_map,GZ];decide) ?_;(conv=>whnf);skip;rw [xJ,DV,if_neg (by decide)];exact ag.aQ (.cons (ag.nil (by decide)) (.cons (ag.refl _) .nil))
end Go.Abs.Wall
namespace Go.Abs.Wall
open Go Go.Abs Go.Proofs
def Bn (H:ax) (line:List Int):Bool:=
 if ((decide (60<(H.lex.entries.length:Int))&&decide ((H.lex.entries.length:Int)<=200))||(decide (12<(H.lex.bL.length:Int))&&decide ((H.lex.bL.length:Int)<=40))||(decide (6<(H.lex.ah.length:Int))&&decide ((H.lex.ah.length:Int)<=10)))=true then true
 else decide (16<(line.length:Int))&&decide ((line.length:Int)<=60)
theorem TX (H:ax) (line:List Int):ae Tryz.prog 37 [.agg (bJ H),.sl 1 none (ints line)] [] (.bool (Bn H line)):=by
 obtain ⟨b,hb⟩:∃ b,b=Bn H line:=⟨_,rfl⟩;rw [<- hb];unfold Bn at hb;rw [<- List.length_map (f:=fu),<- List.length_map (f:=iL),<- List.length_map (f:=gI),<- dB] at hb;refine aG (F:=Tryz.f37) c37 rfl rfl rfl mixed rfl fun X=>?_;(conv=>whnf);intro b5;(conv=>whnf);repeat (refine ⟨_,_,aK.here _,⟨Nat.le_of_ble_eq_true rfl,rfl⟩,?_⟩;conv=>whnf)
 refine ⟨fun hq=>?_,fun hq=>?_⟩
 ·rw [if_pos hq] at hb;(conv=>whnf);exact ⟨by rw [hb],rfl⟩
 rw [if_neg (by rw [show _=false from hq];decide)] at hb;(conv=>whnf);skip;exact ⟨by rw [hb],rfl⟩
theorem Mu (a b:bc) (ha:a.ah.length<=aq) (hb:b.ah.length<=aq):ae Tryz.prog 40 [.agg (dm a),.agg (dm b)] [] (.bool (decide (a=b))):=by
 refine aG (F:=Tryz.f40) c40 rfl rfl rfl mixed rfl fun X=>?_;(conv=>whnf);repeat (refine aX (Ha a.ah b.ah ha hb) ?_;conv=>whnf)
 refine ⟨congrArg AV.bool ?_,rfl⟩;rw [Bool.eq_iff_iff];obtain ⟨a1,a2,a3⟩:=a;obtain ⟨b1,b2,b3⟩:=b;simp [and_assoc]
end Go.Abs.Wall
