/- What is proved: small laws for the walks of this seat, and contracts of its functions. No condition but those each theorem names. -/
import Derived.Test.YtbmcnieifibckaaGreatN9
import Derived.Test.YtbmcnieifibckaaGreatN8
set_option maxRecDepth 100000
set_option maxHeartbeats 2000000
set_option linter.unusedVariables false
set_option linter.unusedSimpArgs false
namespace Go.Abs.Wall
open Go Go.Abs Go.Proofs
structure Cc (H:aj) (bT:List (List ay)) (a:Nat) (f:aZ):Prop where
 ia:jg H
 fit:dU H
 entry:0<=f.entry/\f.entry<H.lex.entries.length
 ending:-1<=f.ending/\f.ending<H.lex.bO.length
 ai:∀ us∈bT,us.length<=1048576/\∀ u∈us,iu u
 len:bT.length<=1048576
 at_:a<=bT.length
def IB (H:aj) (bT:List (List ay)) (a:Nat) (f:aZ) (rest:List (List ay)):Prop:=
 ∀ (p:bn) (T:List ay) (L:List av) (v:AV) (hp:af),(∃ pre,(bT.drop a).take 12=pre++rest/\pre.length=T.length)->vc (bD H f) p T->Row 7 cz L v hp->L.length<=2000 ->
  aB Tryz.prog 211 [.agg (bu H),.sl 1 none (bT.map fW),.int .i64 a,.agg (ei (fG (bD H f) f p T)),v] hp
   (fun v' h'=>Row 7 cz ((L++cS (dD H a f.entry f.ending) rest p T).take 2001) v' h')
def c211:az:=⟨[0,1,2,3,4,5,8,10,11,12,13,14,15,17,51,59,81],[],[11],[],[(3,[0,1,2,3,4,5,6,7,8,9,10,11,12,13,14],[]),(10,[0,1,2,3,4,5,6,7,8,9,10,11],[]),(14,[0,1,2,3,4,5,6,7,8,9],[])],[92]⟩
theorem Cc.sp {H:aj} {bT:List (List ay)} {a:Nat} {f:aZ} (h:Cc H bT a f):jN (bD H f):=Ai (at_:=0) h.ia h.entry.1 h.entry.2 h.ending.2
set_option maxHeartbeats 2000000 in
theorem NM (H:aj) (bT:List (List ay)) (a:Nat) (f:aZ) (hE:Cc H bT a f) (rest:List (List ay)) (IH:∀ us r,rest=us::r->IB H bT a f r):IB H bT a f rest:=by
 intro p T L v hp oF aY hL yk;obtain ⟨pre,hA,ej⟩:=oF;have oG:=congrArg List.length hA;rw [List.length_append,List.length_take,List.length_drop] at oG;have hs:=hE.sp;have fH:=aY.bB;have IC:=aY.ok.bB;have gR:=hE.len;have cM:=hE.at_;have js:(((fG (bD H f) f p T).ai.map aV).length:Int)=(T.length:Int):=by rw [List.length_map];rfl
 obtain ⟨W0,ID⟩:∃ W0,W0=(L++cS (dD H a f.entry f.ending) rest p T).take 2001:=⟨_,rfl⟩;rw [<- ID];have Aj:=Vw (bD H f) f p T aY;refine aG (F:=Tryz.f211) c211 rfl rfl rfl mixed rfl fun X=>?_;(conv=>whnf);repeat (refine ae.k0 (Aj) ?_;conv=>whnf)
 refine ⟨fun hq=>?_,fun hq=>?_⟩
 ·have hq:(mO (bD H f) p&&decide (0<(T.length:Int)))=true:=hq;have hh:jO (dD H a f.entry f.ending) p T=[pw (dD H a f.entry f.ending) p T]:=by unfold jO;rw [Bool.and_comm] at hq;exact if_pos hq
  obtain ⟨L1,fi⟩:∃ L1,L1=L++[pw (dD H a f.entry f.ending) p T]:=⟨_,rfl⟩;have jt:L1.length<=2001:=by rw [fi,List.length_append,List.length_singleton];omega
  have hW:W0=(L1++fj (dD H a f.entry f.ending) rest p T).take 2001:=by rw [ID];unfold cS;rw [hh,fi,List.append_assoc]
  have tY:=Vx H ⟨⟨f.entry,f.ending,p.cl⟩,T⟩ hE.fit.lex hE.ia (by show p.cl.length<=aw;unfold aw;omega) hE.entry (by show T.length<=1048576;omega);rcases hL with ⟨ml,rfl,rfl⟩|⟨ml,lb,rfl,rfl⟩
  ·(conv=>whnf);repeat ((first|refine ⟨ah ⟨by omega,by omega⟩,?_⟩|(intro (NN:Nat))|refine ba (tY) ?_|(refine ⟨⟨Nat.le_of_ble_eq_true rfl,Nat.le_of_ble_eq_true rfl⟩,fun b4=>?_⟩)|refine ⟨_,_,bo.here _,⟨Nat.le_of_ble_eq_true rfl,rfl⟩,?_⟩|refine And.intro (by show aP (aN Tryz.f211 _) _=true;decide +kernel) ?_);conv=>whnf)
   rw [js];have gS:Row 7 cz L1 (.aQ b4 0 1 7) [(b4,.vec (cz (pw (dD H a f.entry f.ending) p T)++[]))]:=by rw [fi,ml];exact .inr ⟨by simp,b4,rfl,by simp⟩
   refine ⟨fun hz=>?_,fun hz=>?_⟩
   ·have hz:(decide (((a:Int)+(T.length:Int))=((bT.map fW).length:Int))||decide ((T.length:Int)=12))=true:=hz;rw [List.length_map] at hz;simp only [Bool.or_eq_true,decide_eq_true_eq] at hz;have hr:rest=[]:=List.eq_nil_of_length_eq_zero (by omega);rw [hr,show fj (dD H a f.entry f.ending) [] p T=[] from rfl,List.append_nil,List.take_of_length_le jt] at hW;(conv=>whnf);skip;rw [hW];exact gS
   have hz:(decide (((a:Int)+(T.length:Int))=((bT.map fW).length:Int))||decide ((T.length:Int)=12))=false:=hz;rw [List.length_map] at hz;simp only [Bool.or_eq_false_iff,decide_eq_false_iff_not] at hz
   obtain ⟨us,cA,hr⟩:∃ us r,rest=us::r:=by
    cases rest with
    | nil=>simp at oG;omega
    | cons us r=>exact ⟨us,r,rfl⟩
   have bd:bT[a+T.length]?=some us:=by
    have h1:((bT.drop a).take 12)[T.length]?=some us:=by rw [hA,hr,<- ej];simp
    rw [List.getElem?_take] at h1;split at h1
    ·rwa [List.getElem?_drop] at h1
    cases h1
   obtain ⟨yl,kV⟩:=hE.ai us (List.mem_of_getElem? bd);have Cd:T.length<12:=by rw [hr,List.length_cons] at oG;omega
   have IH:=IH us cA hr;have mP:fj (dD H a f.entry f.ending) rest p T=us.flatMap fun u=>(aX (bD H f) p u).flatMap fun q=>cS (dD H a f.entry f.ending) cA q (T++[u]):=by rw [hr];rfl
   rw [mP] at hW;(conv=>whnf);skip;refine bW rfl mixed [1,2,4,5,8,12,13] [] (fun m r h=>∃ (k:Nat) (L2:List av) (v:AV) (hp:af),r=[(1,[],.sl 1 none (bT.map fW)),(2,[],.int .i64 a),(4,[],v),(5,[],.au (bu H)),(8,[],.au (ei (fG (bD H f) f p T))),(12,[],.int .i64 ((a:Int)+(T.length:Int))),(13,[],.int .i64 k)]/\h=hp/\m=us.length - k/\k<=us.length/\Row 7 cz L2 v hp/\L2.length<=2001/\W0=(L2++(us.drop k).flatMap fun u=>(aX (bD H f) p u).flatMap fun q=>cS (dD H a f.entry f.ending) cA q (T++[u])).take 2001) ?_ ?_
   ·(conv=>whnf);exact ⟨_,_,ao.refl _ _,_,0,L1,_,_,rfl,rfl,rfl,by omega,gS,jt,by rw [List.drop_zero];exact hW⟩
   clear gS jt hW;rintro m r h' ⟨k,L2,v,hp,rfl,rfl,rfl,hk,mQ,oH,jh⟩;(conv=>whnf);repeat (refine ix (by assumption) ?_;conv=>whnf)
   refine ⟨fun aD=>?_,fun aD=>?_⟩<;>simp at aD
   ·obtain ⟨u,hu⟩:=aL aD;have sE:=kV u (List.mem_of_getElem? hu);rw [drop_cons hu,List.flatMap_cons] at jh;have cp:=IE hs aY sE Cd;have gm:=Ce hs p u;have nK:=IF (bD H f) f p T u hs aY sE rfl hE.entry;(conv=>whnf);repeat ((first|refine ix (by assumption) ?_|refine ba (nK) ?_|refine And.intro (by show aP (aN Tryz.f211 _) _=true;decide +kernel) ?_);conv=>whnf)
    refine bW rfl mixed [1,2,4,5,8,12,13,14,15] [] (fun m r h=>∃ (j:Nat) (L3:List av) (v:AV) (hp:af),r=[(1,[],.sl 1 none (bT.map fW)),(2,[],.int .i64 a),(4,[],v),(5,[],.au (bu H)),(8,[],.au (ei (fG (bD H f) f p T))),(12,[],.int .i64 ((a:Int)+(T.length:Int))),(13,[],.int .i64 k),(14,[],.sl 8 none ((aX (bD H f) p u).map fun q=>ei (fG (bD H f) f q (T++[u])))),(15,[],.int .i64 j)]/\h=hp/\m=(aX (bD H f) p u).length - j/\j<=(aX (bD H f) p u).length/\Row 7 cz L3 v hp/\L3.length<=2001/\W0=(L3++(((aX (bD H f) p u).drop j).flatMap (fun q=>cS (dD H a f.entry f.ending) cA q (T++[u]))++(us.drop (k+1)).flatMap fun u=>(aX (bD H f) p u).flatMap fun q=>cS (dD H a f.entry f.ending) cA q (T++[u]))).take 2001) ?_ ?_
    ·(conv=>whnf);exact ⟨_,_,ao.refl _ _,_,0,L2,_,_,rfl,rfl,rfl,by omega,mQ,oH,jh⟩
    clear mQ oH jh;rintro m r h' ⟨j,L3,v,hp,rfl,rfl,rfl,hj,rB,ua,kC⟩;have rC:=rB;rcases rB with ⟨rD,rfl,rfl⟩|⟨rD,l3,rfl,rfl⟩
    all_goals
     (conv=>whnf);skip;refine ⟨fun eG=>?_,fun eG=>?_⟩<;>simp at eG
     ·obtain ⟨q,hq⟩:=aL (l:=aX (bD H f) p u) (i:=j) (by omega);have oI:=cp q (List.mem_of_getElem? hq);rw [drop_cons hq,List.flatMap_cons,List.append_assoc] at kC;have kD:L3.length<=2000:=(by first|omega|(rw [rD];simp));(conv=>whnf);repeat ((first|refine ix (by assumption) ?_|refine And.intro (by show aP (aN Tryz.f211 _) _=true;decide +kernel) ?_);conv=>whnf)
      refine aB.mono ?_ (IH q (T++[u]) L3 _ _ ⟨pre++[us],by rw [hA,hr];simp,by simp [ej]⟩ oI rC kD);intro v1 h1 hR;(conv=>whnf);repeat (refine ⟨ah ⟨by omega,by omega⟩,?_⟩;conv=>whnf)
      exact ⟨_,_,ao.refl _ _,_,(by omega),j+1,_,v1,h1,rfl,rfl,rfl,by omega,hR,by rw [List.length_take];omega,by rw [kC,Cf,List.append_assoc]⟩
     have Cg:W0=(L3++(us.drop (k+1)).flatMap fun u=>(aX (bD H f) p u).flatMap fun q=>cS (dD H a f.entry f.ending) cA q (T++[u])).take 2001:=by
      by_cases gl:j<(aX (bD H f) p u).length
      ·have kD:2001<=L3.length:=(by first|omega|(exact absurd gl (by omega)));rw [kC,List.take_append_of_le_length kD,List.take_append_of_le_length kD]
      rw [kC,drop_nil (by omega),List.flatMap_nil,List.nil_append]
     (conv=>whnf);repeat (refine ⟨ah ⟨by omega,by omega⟩,?_⟩;conv=>whnf)
     exact ⟨_,_,ao.refl _ _,_,(by omega),k+1,L3,_,_,rfl,rfl,rfl,by omega,rC,ua,Cg⟩
   rw [drop_nil aD,List.flatMap_nil,List.append_nil,List.take_of_length_le oH] at jh;(conv=>whnf);skip;rw [jh];exact mQ
  have Ak:L.length+1<=aU:=by unfold aU;omega
  (conv=>whnf);repeat ((first|refine ⟨ah ⟨by omega,by omega⟩,?_⟩|(intro (NN:Nat))|refine ba (tY) ?_|(refine ⟨_,.head _,⟨ub (fun _=>rfl),Ak⟩,fun b4=>⟨_,.here _,?_⟩⟩)|refine ⟨_,_,bo.here _,⟨Nat.le_of_ble_eq_true rfl,rfl⟩,?_⟩|refine And.intro (by show aP (aN Tryz.f211 _) _=true;decide +kernel) ?_);conv=>whnf)
  rw [js];have gS:Row 7 cz L1 (.aQ b4 0 (L.length+1) 7) [(b4,.vec ((L.map cz).flatten++(cz (pw (dD H a f.entry f.ending) p T)++[])))]:=by rw [fi];exact .inr ⟨by simp,b4,by rw [List.length_append];rfl,by rw [List.map_append,List.flatten_append];rfl⟩
  refine ⟨fun hz=>?_,fun hz=>?_⟩
  ·have hz:(decide (((a:Int)+(T.length:Int))=((bT.map fW).length:Int))||decide ((T.length:Int)=12))=true:=hz;rw [List.length_map] at hz;simp only [Bool.or_eq_true,decide_eq_true_eq] at hz;have hr:rest=[]:=List.eq_nil_of_length_eq_zero (by omega);rw [hr,show fj (dD H a f.entry f.ending) [] p T=[] from rfl,List.append_nil,List.take_of_length_le jt] at hW;(conv=>whnf);skip;rw [hW];exact gS
  have hz:(decide (((a:Int)+(T.length:Int))=((bT.map fW).length:Int))||decide ((T.length:Int)=12))=false:=hz;rw [List.length_map] at hz;simp only [Bool.or_eq_false_iff,decide_eq_false_iff_not] at hz
  obtain ⟨us,cA,hr⟩:∃ us r,rest=us::r:=by
   cases rest with
   | nil=>simp at oG;omega
   | cons us r=>exact ⟨us,r,rfl⟩
  have bd:bT[a+T.length]?=some us:=by
   have h1:((bT.drop a).take 12)[T.length]?=some us:=by rw [hA,hr,<- ej];simp
   rw [List.getElem?_take] at h1;split at h1
   ·rwa [List.getElem?_drop] at h1
   cases h1
  obtain ⟨yl,kV⟩:=hE.ai us (List.mem_of_getElem? bd);have Cd:T.length<12:=by rw [hr,List.length_cons] at oG;omega
  have IH:=IH us cA hr;have mP:fj (dD H a f.entry f.ending) rest p T=us.flatMap fun u=>(aX (bD H f) p u).flatMap fun q=>cS (dD H a f.entry f.ending) cA q (T++[u]):=by rw [hr];rfl
  rw [mP] at hW;(conv=>whnf);skip;refine bW rfl mixed [1,2,4,5,8,12,13] [] (fun m r h=>∃ (k:Nat) (L2:List av) (v:AV) (hp:af),r=[(1,[],.sl 1 none (bT.map fW)),(2,[],.int .i64 a),(4,[],v),(5,[],.au (bu H)),(8,[],.au (ei (fG (bD H f) f p T))),(12,[],.int .i64 ((a:Int)+(T.length:Int))),(13,[],.int .i64 k)]/\h=hp/\m=us.length - k/\k<=us.length/\Row 7 cz L2 v hp/\L2.length<=2001/\W0=(L2++(us.drop k).flatMap fun u=>(aX (bD H f) p u).flatMap fun q=>cS (dD H a f.entry f.ending) cA q (T++[u])).take 2001) ?_ ?_
  ·(conv=>whnf);exact ⟨_,_,ao.refl _ _,_,0,L1,_,_,rfl,rfl,rfl,by omega,gS,jt,by rw [List.drop_zero];exact hW⟩
  clear gS jt hW;rintro m r h' ⟨k,L2,v,hp,rfl,rfl,rfl,hk,mQ,oH,jh⟩;(conv=>whnf);repeat (refine ix (by assumption) ?_;conv=>whnf)
  refine ⟨fun aD=>?_,fun aD=>?_⟩<;>simp at aD
  ·obtain ⟨u,hu⟩:=aL aD;have sE:=kV u (List.mem_of_getElem? hu);rw [drop_cons hu,List.flatMap_cons] at jh;have cp:=IE hs aY sE Cd;have gm:=Ce hs p u;have nK:=IF (bD H f) f p T u hs aY sE rfl hE.entry;(conv=>whnf);repeat ((first|refine ix (by assumption) ?_|refine ba (nK) ?_|refine And.intro (by show aP (aN Tryz.f211 _) _=true;decide +kernel) ?_);conv=>whnf)
   refine bW rfl mixed [1,2,4,5,8,12,13,14,15] [] (fun m r h=>∃ (j:Nat) (L3:List av) (v:AV) (hp:af),r=[(1,[],.sl 1 none (bT.map fW)),(2,[],.int .i64 a),(4,[],v),(5,[],.au (bu H)),(8,[],.au (ei (fG (bD H f) f p T))),(12,[],.int .i64 ((a:Int)+(T.length:Int))),(13,[],.int .i64 k),(14,[],.sl 8 none ((aX (bD H f) p u).map fun q=>ei (fG (bD H f) f q (T++[u])))),(15,[],.int .i64 j)]/\h=hp/\m=(aX (bD H f) p u).length - j/\j<=(aX (bD H f) p u).length/\Row 7 cz L3 v hp/\L3.length<=2001/\W0=(L3++(((aX (bD H f) p u).drop j).flatMap (fun q=>cS (dD H a f.entry f.ending) cA q (T++[u]))++(us.drop (k+1)).flatMap fun u=>(aX (bD H f) p u).flatMap fun q=>cS (dD H a f.entry f.ending) cA q (T++[u]))).take 2001) ?_ ?_
   ·(conv=>whnf);exact ⟨_,_,ao.refl _ _,_,0,L2,_,_,rfl,rfl,rfl,by omega,mQ,oH,jh⟩
   clear mQ oH jh;rintro m r h' ⟨j,L3,v,hp,rfl,rfl,rfl,hj,rB,ua,kC⟩;have rC:=rB;rcases rB with ⟨rD,rfl,rfl⟩|⟨rD,l3,rfl,rfl⟩
   all_goals
    (conv=>whnf);skip;refine ⟨fun eG=>?_,fun eG=>?_⟩<;>simp at eG
    ·obtain ⟨q,hq⟩:=aL (l:=aX (bD H f) p u) (i:=j) (by omega);have oI:=cp q (List.mem_of_getElem? hq);rw [drop_cons hq,List.flatMap_cons,List.append_assoc] at kC;have kD:L3.length<=2000:=(by first|omega|(rw [rD];simp));(conv=>whnf);repeat ((first|refine ix (by assumption) ?_|refine And.intro (by show aP (aN Tryz.f211 _) _=true;decide +kernel) ?_);conv=>whnf)
     refine aB.mono ?_ (IH q (T++[u]) L3 _ _ ⟨pre++[us],by rw [hA,hr];simp,by simp [ej]⟩ oI rC kD);intro v1 h1 hR;(conv=>whnf);repeat (refine ⟨ah ⟨by omega,by omega⟩,?_⟩;conv=>whnf)
     exact ⟨_,_,ao.refl _ _,_,(by omega),j+1,_,v1,h1,rfl,rfl,rfl,by omega,hR,by rw [List.length_take];omega,by rw [kC,Cf,List.append_assoc]⟩
    have Cg:W0=(L3++(us.drop (k+1)).flatMap fun u=>(aX (bD H f) p u).flatMap fun q=>cS (dD H a f.entry f.ending) cA q (T++[u])).take 2001:=by
     by_cases gl:j<(aX (bD H f) p u).length
     ·have kD:2001<=L3.length:=(by first|omega|(exact absurd gl (by omega)));rw [kC,List.take_append_of_le_length kD,List.take_append_of_le_length kD]
     rw [kC,drop_nil (by omega),List.flatMap_nil,List.nil_append]
    (conv=>whnf);repeat (refine ⟨ah ⟨by omega,by omega⟩,?_⟩;conv=>whnf)
    exact ⟨_,_,ao.refl _ _,_,(by omega),k+1,L3,_,_,rfl,rfl,rfl,by omega,rC,ua,Cg⟩
  rw [drop_nil aD,List.flatMap_nil,List.append_nil,List.take_of_length_le oH] at jh;(conv=>whnf);skip;rw [jh];exact mQ
 have hq:(mO (bD H f) p&&decide (0<(T.length:Int)))=false:=hq;have hh:jO (dD H a f.entry f.ending) p T=[]:=by unfold jO;rw [Bool.and_comm] at hq;exact if_neg (by rw [show (decide (0<(T.length:Int))&&mO (dD H a f.entry f.ending).s p)=false from hq];decide)
 obtain ⟨L1,fi⟩:∃ L1,L1=L:=⟨_,rfl⟩;have gS:=hL;have jt:L1.length<=2001:=by rw [fi];omega
 rw [<- fi] at gS;have hW:W0=(L1++fj (dD H a f.entry f.ending) rest p T).take 2001:=by rw [ID];unfold cS;rw [hh,fi,List.nil_append]
 (conv=>whnf);repeat (refine ⟨ah ⟨by omega,by omega⟩,?_⟩;conv=>whnf)
 rw [js];clear hL;refine ⟨fun hz=>?_,fun hz=>?_⟩
 ·have hz:(decide (((a:Int)+(T.length:Int))=((bT.map fW).length:Int))||decide ((T.length:Int)=12))=true:=hz;rw [List.length_map] at hz;simp only [Bool.or_eq_true,decide_eq_true_eq] at hz;have hr:rest=[]:=List.eq_nil_of_length_eq_zero (by omega);rw [hr,show fj (dD H a f.entry f.ending) [] p T=[] from rfl,List.append_nil,List.take_of_length_le jt] at hW;(conv=>whnf);skip;rw [hW];exact gS
 have hz:(decide (((a:Int)+(T.length:Int))=((bT.map fW).length:Int))||decide ((T.length:Int)=12))=false:=hz;rw [List.length_map] at hz;simp only [Bool.or_eq_false_iff,decide_eq_false_iff_not] at hz
 obtain ⟨us,cA,hr⟩:∃ us r,rest=us::r:=by
  cases rest with
  | nil=>simp at oG;omega
  | cons us r=>exact ⟨us,r,rfl⟩
 have bd:bT[a+T.length]?=some us:=by
  have h1:((bT.drop a).take 12)[T.length]?=some us:=by rw [hA,hr,<- ej];simp
  rw [List.getElem?_take] at h1;split at h1
  ·rwa [List.getElem?_drop] at h1
  cases h1
 obtain ⟨yl,kV⟩:=hE.ai us (List.mem_of_getElem? bd);have Cd:T.length<12:=by rw [hr,List.length_cons] at oG;omega
 have IH:=IH us cA hr;have mP:fj (dD H a f.entry f.ending) rest p T=us.flatMap fun u=>(aX (bD H f) p u).flatMap fun q=>cS (dD H a f.entry f.ending) cA q (T++[u]):=by rw [hr];rfl
 rw [mP] at hW;(conv=>whnf);skip;refine bW rfl mixed [1,2,4,5,8,12,13] [] (fun m r h=>∃ (k:Nat) (L2:List av) (v:AV) (hp:af),r=[(1,[],.sl 1 none (bT.map fW)),(2,[],.int .i64 a),(4,[],v),(5,[],.au (bu H)),(8,[],.au (ei (fG (bD H f) f p T))),(12,[],.int .i64 ((a:Int)+(T.length:Int))),(13,[],.int .i64 k)]/\h=hp/\m=us.length - k/\k<=us.length/\Row 7 cz L2 v hp/\L2.length<=2001/\W0=(L2++(us.drop k).flatMap fun u=>(aX (bD H f) p u).flatMap fun q=>cS (dD H a f.entry f.ending) cA q (T++[u])).take 2001) ?_ ?_
 ·(conv=>whnf);exact ⟨_,_,ao.refl _ _,_,0,L1,_,_,rfl,rfl,rfl,by omega,gS,jt,by rw [List.drop_zero];exact hW⟩
 clear gS jt hW;rintro m r h' ⟨k,L2,v,hp,rfl,rfl,rfl,hk,mQ,oH,jh⟩;(conv=>whnf);repeat (refine ix (by assumption) ?_;conv=>whnf)
 refine ⟨fun aD=>?_,fun aD=>?_⟩<;>simp at aD
 ·obtain ⟨u,hu⟩:=aL aD;have sE:=kV u (List.mem_of_getElem? hu);rw [drop_cons hu,List.flatMap_cons] at jh;have cp:=IE hs aY sE Cd;have gm:=Ce hs p u;have nK:=IF (bD H f) f p T u hs aY sE rfl hE.entry;(conv=>whnf);repeat ((first|refine ix (by assumption) ?_|refine ba (nK) ?_|refine And.intro (by show aP (aN Tryz.f211 _) _=true;decide +kernel) ?_);conv=>whnf)
  refine bW rfl mixed [1,2,4,5,8,12,13,14,15] [] (fun m r h=>∃ (j:Nat) (L3:List av) (v:AV) (hp:af),r=[(1,[],.sl 1 none (bT.map fW)),(2,[],.int .i64 a),(4,[],v),(5,[],.au (bu H)),(8,[],.au (ei (fG (bD H f) f p T))),(12,[],.int .i64 ((a:Int)+(T.length:Int))),(13,[],.int .i64 k),(14,[],.sl 8 none ((aX (bD H f) p u).map fun q=>ei (fG (bD H f) f q (T++[u])))),(15,[],.int .i64 j)]/\h=hp/\m=(aX (bD H f) p u).length - j/\j<=(aX (bD H f) p u).length/\Row 7 cz L3 v hp/\L3.length<=2001/\W0=(L3++(((aX (bD H f) p u).drop j).flatMap (fun q=>cS (dD H a f.entry f.ending) cA q (T++[u]))++(us.drop (k+1)).flatMap fun u=>(aX (bD H f) p u).flatMap fun q=>cS (dD H a f.entry f.ending) cA q (T++[u]))).take 2001) ?_ ?_
  ·(conv=>whnf);exact ⟨_,_,ao.refl _ _,_,0,L2,_,_,rfl,rfl,rfl,by omega,mQ,oH,jh⟩
  clear mQ oH jh;rintro m r h' ⟨j,L3,v,hp,rfl,rfl,rfl,hj,rB,ua,kC⟩;have rC:=rB;rcases rB with ⟨rD,rfl,rfl⟩|⟨rD,l3,rfl,rfl⟩
  all_goals
   (conv=>whnf);skip;refine ⟨fun eG=>?_,fun eG=>?_⟩<;>simp at eG
   ·obtain ⟨q,hq⟩:=aL (l:=aX (bD H f) p u) (i:=j) (by omega);have oI:=cp q (List.mem_of_getElem? hq);rw [drop_cons hq,List.flatMap_cons,List.append_assoc] at kC;have kD:L3.length<=2000:=(by first|omega|(rw [rD];simp));(conv=>whnf);repeat ((first|refine ix (by assumption) ?_|refine And.intro (by show aP (aN Tryz.f211 _) _=true;decide +kernel) ?_);conv=>whnf)
    refine aB.mono ?_ (IH q (T++[u]) L3 _ _ ⟨pre++[us],by rw [hA,hr];simp,by simp [ej]⟩ oI rC kD);intro v1 h1 hR;(conv=>whnf);repeat (refine ⟨ah ⟨by omega,by omega⟩,?_⟩;conv=>whnf)
    exact ⟨_,_,ao.refl _ _,_,(by omega),j+1,_,v1,h1,rfl,rfl,rfl,by omega,hR,by rw [List.length_take];omega,by rw [kC,Cf,List.append_assoc]⟩
   have Cg:W0=(L3++(us.drop (k+1)).flatMap fun u=>(aX (bD H f) p u).flatMap fun q=>cS (dD H a f.entry f.ending) cA q (T++[u])).take 2001:=by
    by_cases gl:j<(aX (bD H f) p u).length
    ·have kD:2001<=L3.length:=(by first|omega|(exact absurd gl (by omega)));rw [kC,List.take_append_of_le_length kD,List.take_append_of_le_length kD]
    rw [kC,drop_nil (by omega),List.flatMap_nil,List.nil_append]
   (conv=>whnf);repeat (refine ⟨ah ⟨by omega,by omega⟩,?_⟩;conv=>whnf)
   exact ⟨_,_,ao.refl _ _,_,(by omega),k+1,L3,_,_,rfl,rfl,rfl,by omega,rC,ua,Cg⟩
 rw [drop_nil aD,List.flatMap_nil,List.append_nil,List.take_of_length_le oH] at jh;(conv=>whnf);skip;rw [jh];exact mQ
theorem NO (H:aj) (bT:List (List ay)) (a:Nat) (f:aZ) (hE:Cc H bT a f):∀ rest,IB H bT a f rest
 | []=>NM H bT a f hE [] (fun us r h=>by cases h)
 | us::r=>NM H bT a f hE (us::r) (fun Al r' h=>by cases h;exact NO H bT a f hE r)
end Go.Abs.Wall
namespace Go.Abs.Wall
open Go Go.Abs Go.Proofs
theorem NP {E:Env} (hs:jN E.s):∀ (rest:List (List ay)) (p:bn) (T:List ay),jP E.s p->(∀ us∈rest,∀ u∈us,iu u)->∀ e∈fj E rest p T,e.word.form.entry=E.entry/\e.word.form.ending=E.ending/\∀ c∈e.word.form.ar,0<=c/\c<E.s.H.lex.ar.length
 | [],_,_,_,_,e,he=>by cases he
 | us::r,p,T,hp,hu,e,he=>by
   unfold fj at he;rw [List.mem_flatMap] at he;obtain ⟨u,Fq,he⟩:=he;rw [List.mem_flatMap] at he;obtain ⟨q,hq,he⟩:=he;have oI:=wE hs hp (hu us (by simp) u Fq) q hq;rcases List.mem_append.1 he with he|he
   ·unfold jO at he;split at he
    ·cases List.mem_singleton.1 he
     exact ⟨rfl,rfl,oI.ed⟩
    cases he
   exact NP hs r q (T++[u]) oI (fun Al h'=>hu Al (by simp [h'])) e he
theorem Vy {H:aj} (hH:jg H) {bP:List (List ay)} (hf:bP.length<=12) (hu:∀ us∈bP,us.length<=1048576/\∀ u∈us,iu u) {at_:Nat}:∀ e∈lE H bP at_,Ch e.word:=by
 intro e he;have cM:=Fs hH hf hu e he;have hm:=hH.lex.many;unfold lE at he;rw [List.mem_flatMap] at he;obtain ⟨i,hi,he⟩:=he;unfold mm at he;rw [List.mem_flatMap] at he;obtain ⟨k,hk,he⟩:=he;rw [List.mem_range] at hi hk;unfold gB at he;split at he
 ·cases he
 unfold cS at he;rw [Am,List.nil_append] at he;have jf:jN (dD H at_ i ((k:Int) - 1)).s:=Ai hH (by omega) (by omega) (by omega);obtain ⟨h1,h2,h3⟩:=NP jf bP fI [] (An _) (fun us h=>(hu us h).2) e he;have h1:e.word.form.entry=(i:Int):=h1;have h2:e.word.form.ending=(k:Int) - 1:=h2;refine ⟨⟨by omega,by omega,fun c hc=>?_,by have:=cM.cl;omega⟩,by have:=cM.bB;omega⟩;have h4:=h3 c hc;have h5:c<H.lex.ar.length:=h4.2;omega
def Ao (H:aj) (bT:List (List ay)) (a:Nat):List av:=(lE H ((bT.drop a).take 12) a).take 2001
def qz (H:aj) (bT:List (List ay)) (a:Nat):List av:=if (Ao H bT a).length<=2000 then kE (Ao H bT a) else Ao H bT a
def nL (a b:av):Bool:=decide (ym a b<0)
theorem yn:∀ e:av,(cz e).length=7:=fun _=>rfl
structure yo (H:aj) (bT:List (List ay)) (a:Nat):Prop where
 ia:jg H
 fit:dU H
 ai:∀ us∈bT,us.length<=1048576/\∀ u∈us,iu u
 len:bT.length<=1048576
 at_:a<=bT.length
theorem yo.ok {H:aj} {bT:List (List ay)} {a:Nat} (h:yo H bT a) {e n:Int} (he:0<=e/\e<H.lex.entries.length) (hn:-1<=n/\n<H.lex.bO.length):Cc H bT a ⟨e,n,[]⟩:=⟨h.ia,h.fit,he,hn,h.ai,h.len,h.at_⟩
theorem yo.all {H:aj} {bT:List (List ay)} {a:Nat} (h:yo H bT a):((bT.drop a).take 12).length<=12/\∀ us∈(bT.drop a).take 12,us.length<=1048576/\∀ u∈us,iu u:=
 ⟨by rw [List.length_take];omega,fun us bd=>h.ai us (List.mem_of_mem_drop (List.mem_of_mem_take bd))⟩
theorem Ap {α:Type} {k:Nat} {enc:α->List AV} {P:Program} {t:TypeId} {b o i d:Nat} {h:af} {L:List α} {x:α} {K:AV->Prop} (hk:∀ a,(enc a).length=k) (hd:d<=k) (hm:(b,Ob.vec (L.map enc).flatten)∈h) (ho:o=i*k+d) (hx:L[i]?=some x)
  (hl:gy P t ((enc x).drop d++((L.drop (i+1)).map enc).flatten) K):∃ cs l,(b,Ob.vec cs)∈h/\jd o cs=some l/\gy P t l K:=by
 obtain ⟨hi,ji⟩:=List.getElem?_eq_some_iff.1 hx;have hle:(i+1)*k<=L.length*k:=Nat.mul_le_mul_right k hi;rw [Nat.succ_mul] at hle;refine ⟨_,_,hm,Ci ?_,?_⟩
 ·rw [nM hk,ho];omega
 rw [ho,<- List.drop_drop,yp hk,List.drop_eq_getElem_cons hi,ji,List.map_cons,List.flatten_cons,List.drop_append,hk,Nat.sub_eq_zero_of_le hd,List.drop_zero];exact hl
theorem Vz (Wl:List av) (i:Nat) (hi:i<=Wl.length):((Wl.take i).foldl (fw nL) []).length=i:=by have:=(Ft (less:=nL) (l:=Wl.take i) (acc:=[])).length_eq;rw [this,List.append_nil,List.length_take,Nat.min_eq_left hi]
theorem VA (Wl:List av) (i:Nat) (u:av) (hu:Wl[i]?=some u):(Wl.take (i+1)).foldl (fw nL) []=fw nL ((Wl.take i).foldl (fw nL) []) u:=by rw [dj hu,List.foldl_append];rfl
def c139:az:=⟨[0,1,2,3,6,7,8,9,10,11,17,30,51,70,89],[],[],[],[(8,[0,1,2,3,4,5,6,7,8,9,10,11,12,13,14,15,16,17,18],[]),(9,[0,1,2,3,4,5,6,7,8,9,10],[]),(14,[0,1,2,3,4,5,6,7,8,9,10,11,12,13,14,15],[]),(16,[0,1,2,3,4,5,6,7,8,9,10,11,12,13,14,15,16,17],[])],[61]⟩
set_option maxHeartbeats 2000000 in
theorem VB (H:aj) (bT:List (List ay)) (a:Nat) (hE:yo H bT a) :
  aB Tryz.prog 139 [.agg (bu H),.sl 1 none (bT.map fW),.int .i64 a] [] (fun v h'=>∃ hp Z,Row 7 cz (qz H bT a) v hp/\h'=hp++Z):=by
 obtain ⟨vd,ve⟩:=hE.all;obtain ⟨bP,Aq⟩:∃ A,A=(bT.drop a).take 12:=⟨_,rfl⟩;have hm:=hE.ia.lex.many;rw [<- Aq] at vd ve;refine aG (F:=Tryz.f139) c139 rfl rfl rfl mixed rfl fun X=>?_;(conv=>whnf);skip;refine bW rfl mixed [1,2,3,7,8] [] (fun m r h=>∃ (i:Nat) (v:AV) (hp:af),r=[(1,[],.sl 1 none (bT.map fW)),(2,[],.int .i64 a),(3,[],.au (bu H)),(7,[],v),(8,[],.int .i64 i)]/\h=hp/\m=H.lex.entries.length - i/\i<=H.lex.entries.length/\Row 7 cz (((List.range i).flatMap (mm H bP a)).take 2001) v hp) ?_ ?_
 ·(conv=>whnf);exact ⟨_,_,ao.sF (.cons (ag.refl _) (.cons (ag.refl _) (.cons (ag.refl _) (.cons Ar (jQ.refl _))))),_,0,.gZ,[],rfl,rfl,rfl,by omega,.inl ⟨by simp,rfl,rfl⟩⟩
 rintro m r h' ⟨i,v,hp,rfl,rfl,rfl,hi,hr⟩;(conv=>whnf);skip;refine ⟨fun aD=>?_,fun aD=>?_⟩<;>simp at aD
 ·(conv=>whnf);skip;refine bW rfl mixed [1,2,3,7,8,9] [] (fun m r h=>∃ (k:Nat) (c:Int) (v:AV) (hp:af),r=[(1,[],.sl 1 none (bT.map fW)),(2,[],.int .i64 a),(3,[],.au (bu H)),(7,[],v),(8,[],.int .i64 i),(9,[],.int .i64 c)]/\h=hp/\m=H.lex.bO.length+1 - k/\c=(k:Int) - 1/\k<=H.lex.bO.length+1/\Row 7 cz (((List.range i).flatMap (mm H bP a)++(List.range k).flatMap (gB H bP a i)).take 2001) v hp) ?_ ?_
  ·(conv=>whnf);exact ⟨_,_,ao.refl _ _,_,0,-1,_,_,rfl,rfl,rfl,rfl,by omega,by simpa using hr⟩
  clear hr;rintro m r h' ⟨k,c,v,hp,rfl,rfl,rfl,hc,hk,hr⟩;have ca:(List.range (k+1)).flatMap (gB H bP a i)=(List.range k).flatMap (gB H bP a i)++gB H bP a i k:=(by rw [List.range_succ,List.flatMap_append,List.flatMap_singleton]);obtain ⟨L,hL⟩:∃ L,L=((List.range i).flatMap (mm H bP a)++(List.range k).flatMap (gB H bP a i)).take 2001:=⟨_,rfl⟩;rw [<- hL] at hr;have uc:=hr;have Fu:L.length<=2001:=by rw [hL,List.length_take];omega
  rcases hr with ⟨fi,rfl,rfl⟩|⟨fi,lb,rfl,rfl⟩
  all_goals
   (conv=>whnf);skip;refine ⟨fun de=>?_,fun de=>?_⟩<;>simp at de
   ·have gk:c<H.lex.bO.length:=(by first|exact de.1|exact de);have yk:L.length<=2000:=(by first|omega|(rw [fi];simp));(conv=>whnf);repeat ((first|(refine rE (⟨0,[],[],0⟩:lF) ?_ ?_;(focus (conv=>whnf;skip));(focus (intro g0;have g0:=of_decide_eq_true g0;show 0<=_/\_<_;omega)))|(refine rE (⟨[],0,[],0⟩:kW) ?_ ?_;(focus (conv=>whnf;skip));(focus (intro g0;show 0<=_/\_<_;omega)))|refine And.intro (by show aP (aN Tryz.f139 _) _=true;decide +kernel) ?_);conv=>whnf)
    refine ⟨fun hs=>?_,fun hs=>?_⟩
    ·have hs:wF H.lex i c=true:=hs;have yq:gB H bP a i k=[]:=by unfold gB;rw [<- hc,if_pos hs]
     rw [yq,List.append_nil] at ca;(conv=>whnf);repeat (refine ⟨ah ⟨by omega,by omega⟩,?_⟩;conv=>whnf)
     exact ⟨_,_,ao.refl _ _,_,(by omega),k+1,_,_,_,rfl,rfl,rfl,by omega,by omega,by rw [ca,<- hL];exact uc⟩
    have hs:wF H.lex i c=false:=hs;have yq:gB H bP a i k=cS (dD H a i c) bP fI []:=by unfold gB;rw [<- hc,if_neg (by rw [hs];decide)]
    (conv=>whnf);repeat ((first|refine ba (VC H ⟨i,c,[]⟩ hE.ia.lex ⟨by show (0:Int)<=i;omega,by show (i:Int)<H.lex.entries.length;omega⟩ gk trivial) ?_|refine And.intro (by show aP (aN Tryz.f139 _) _=true;decide +kernel) ?_);conv=>whnf)
    refine aB.mono ?_ (NO H bT a ⟨i,c,[]⟩ (hE.ok ⟨by omega,by omega⟩ ⟨by omega,gk⟩) bP fI [] L _ _ ⟨[],by rw [Aq];rfl,rfl⟩ (yr _) uc yk);intro v1 h1 hR;(conv=>whnf);repeat (refine ⟨ah ⟨by omega,by omega⟩,?_⟩;conv=>whnf)
    have hR:Row 7 cz ((L++cS (dD H a i c) bP fI []).take 2001) v1 h1:=hR;rw [hL,Cf,<- yq,List.append_assoc,<- ca] at hR;exact ⟨_,_,ao.refl _ _,_,(by omega),k+1,_,_,_,rfl,rfl,rfl,(by show c+1=_;omega),by omega,hR⟩
   have dV:((List.range (i+1)).flatMap (mm H bP a)).take 2001=L:=by
    rw [List.range_succ,List.flatMap_append,List.flatMap_singleton];have jf:mm H bP a i=(List.range k).flatMap (gB H bP a i)++((List.range (H.lex.bO.length+1)).drop k).flatMap (gB H bP a i):=by unfold mm;rw [<- List.flatMap_append];congr 1;have h1:List.range k=(List.range (H.lex.bO.length+1)).take k:=(by rw [List.take_range,Nat.min_eq_left hk]);rw [h1,List.take_append_drop]
    by_cases dW:k<H.lex.bO.length+1
    ·have kD:2001<=L.length:=(by first|omega|(rw [fi] at de;simp at de;omega));rw [jf,<- List.append_assoc,List.take_append_of_le_length (by rw [hL,List.length_take] at kD;omega),hL]
    rw [jf,List.drop_eq_nil_of_le (by simp;omega),List.flatMap_nil,List.append_nil,hL]
   (conv=>whnf);repeat (refine ⟨ah ⟨by omega,by omega⟩,?_⟩;conv=>whnf)
   exact ⟨_,_,ao.refl _ _,_,(by omega),i+1,_,_,rfl,rfl,rfl,by omega,by rw [dV];exact uc⟩
 have bC:i=H.lex.entries.length:=(by omega);obtain ⟨Wl,Fv⟩:∃ W,W=Ao H bT a:=⟨_,rfl⟩;have Fw:((List.range i).flatMap (mm H bP a)).take 2001=Wl:=by rw [Fv,bC,Aq];rfl
 rw [Fw] at hr;have U9:Wl.length<=2001:=by rw [<- Fw,List.length_take];omega
 have yu:∀ e∈Wl,Ch e.word:=fun e he=>Vy hE.ia vd ve e (by rw [<- Fw,bC] at he;exact List.mem_of_mem_take he);have yv:∀ e∈Wl,wG H a e:=fun e he=>Fs hE.ia vd ve e (by rw [<- Fw,bC] at he;exact List.mem_of_mem_take he);have VD:Wl.foldl (fw nL) []=kE Wl:=NQ IG (fun x hx y hy h1 h2=>NR (yv x hx) (yv y hy) (zW.c.yw _ _ h1 h2));rcases hr with ⟨aJ,rfl,rfl⟩|⟨aJ,b,rfl,rfl⟩
 ·have Cj:qz H bT a=[]:=by unfold qz;rw [<- Fv,aJ];simp [kE,px]
  rw [Cj];(conv=>whnf);skip;refine yx 60 rfl mixed ?_;(conv=>whnf);refine .inr ?_;(conv=>whnf);skip;refine cF rfl ?_;(conv=>whnf);skip;exact ⟨[],[],.inl ⟨rfl,rfl,rfl⟩,rfl⟩
 by_cases II:Wl.length<=2000
 ·have Cj:qz H bT a=kE Wl:=by unfold qz;rw [<- Fv,if_pos II]
  rw [Cj];have dK:0<Wl.length:=List.length_pos_iff.2 aJ;(conv=>whnf);skip;refine bR rfl mixed [7,10] [] (fun m r h=>∃ (i:Nat) (R:List av),r=[(7,[],.aQ b 0 Wl.length 7),(10,[],.int .i64 i)]/\h=[(b,.vec (R.map cz).flatten)]/\m=Wl.length - i/\1<=i/\i<=Wl.length/\R=(Wl.take i).foldl (fw nL) []++Wl.drop i) ?_ ?_
  ·(conv=>whnf);refine ⟨_,1,Wl,rfl,rfl,rfl,by omega,by omega,?_⟩;cases bV:Wl with
   | nil=>exact absurd bV aJ
   | cons w t=>rfl
  rintro m r h ⟨i,R,rfl,rfl,rfl,NS,hi,hR⟩;(conv=>whnf);skip;refine ⟨fun NT=>?_,fun NT=>?_⟩<;>simp at NT
  ·obtain ⟨u,hu⟩:=aL (l:=Wl) (i:=i) (by omega);obtain ⟨S,hS⟩:∃ S,S=(Wl.take i).foldl (fw nL) []:=⟨_,rfl⟩;obtain ⟨tl,gR⟩:∃ t,t=Wl.drop (i+1):=⟨_,rfl⟩;have NU:S.length=i:=by rw [hS];exact Vz Wl i hi
   have cp:(Wl.take (i+1)).foldl (fw nL) []=fw nL S u:=by rw [hS];exact VA Wl i u hu
   rw [<- hS,drop_cons hu,<- gR] at hR
   have VE:∀ x,x∈S++u::tl->x∈Wl:=by
    intro x hx;have hp:=(Ft (less:=nL) (l:=Wl.take i) (acc:=[]));rw [<- hS,List.append_nil] at hp;rcases List.mem_append.1 hx with hx|hx
    ·exact List.mem_of_mem_take (hp.mem_iff.1 hx)
    rcases List.mem_cons.1 hx with rfl|hx
    ·exact List.mem_of_getElem? hu
    rw [gR] at hx;exact List.mem_of_mem_drop hx
   (conv=>whnf);skip;refine bR rfl mixed [7,10,11] [] (fun m r h=>∃ (k:Nat) (R:List av),r=[(7,[],.aQ b 0 Wl.length 7),(10,[],.int .i64 i),(11,[],.int .i64 k)]/\h=[(b,.vec (R.map cz).flatten)]/\m=k/\k<=i/\R=S.take k++u::(S.drop k++tl)/\fw nL S u=fw nL (S.take k) u++S.drop k) ?_ ?_
   ·(conv=>whnf);exact ⟨_,i,R,rfl,rfl,rfl,by omega,by rw [hR,<- NU];simp,by rw [<- NU];simp⟩
   clear hR;rintro m r h ⟨k,R,rfl,rfl,rfl,hk,hR,hb⟩;have wH:R.length=Wl.length:=by rw [hR,gR];simp;omega
   have vf:R[m]?=some u:=by rw [hR];exact IJ (by rw [List.length_take];omega)
   obtain ⟨pv,kF⟩:=aL (l:=R) (i:=((m:Int) - 1).toNat) (by omega)
   have NV:∀ x∈R,x∈Wl:=fun x hx=>VE x (by
    rw [hR] at hx;rw [List.mem_append,List.mem_cons,List.mem_append] at hx;rw [List.mem_append,List.mem_cons];rcases hx with hx|hx|hx|hx
    ·exact .inl (List.mem_of_mem_take hx)
    ·exact .inr (.inl hx)
    ·exact .inl (List.mem_of_mem_drop hx)
    exact .inr (.inr hx))
   have Fx:=yu u (NV u (List.mem_of_getElem? vf));have jf:=yu pv (NV pv (List.mem_of_getElem? kF));(conv=>whnf);repeat ((first|refine ⟨ah ⟨by omega,by omega⟩,?_⟩|(refine fx (i:=m) (by omega) ?_)|(refine yy ?_ ?_;(focus (conv=>whnf;skip));(focus (intro g0;simp at g0;show 0<=_/\_<_;omega)))|(refine Ap (d:=3) yn (by decide) (.head _) (congrArg (fun x=>x+3) (Nat.zero_add (m*7))) vf ?_)|(refine Ap (d:=3) yn (by decide) (.head _) (congrArg (fun x=>x+3) (Nat.zero_add (((m:Int) - 1).toNat*7))) kF ?_)|refine ba (VF u.word pv.word Fx jf) ?_|refine And.intro (by show aP (aN Tryz.f139 _) _=true;decide +kernel) ?_);conv=>whnf)
   refine ⟨fun hq=>?_,fun hq=>?_⟩
   ·have hq:(decide (0<(m:Int))&&nL u pv)=true:=hq;rw [Bool.and_eq_true,decide_eq_true_eq] at hq;obtain ⟨c,hc,h1,h2⟩:=As (L:=S) (m:=m) (by omega) (by omega);have jj:pv=c:=by rw [show ((m:Int) - 1).toNat=m - 1 by omega,hR,h1,List.append_assoc,List.getElem?_append_right (by rw [List.length_take];omega),List.length_take,show m - 1 - min (m - 1) S.length=0 by omega] at kF;exact (Option.some.inj kF).symm
    subst jj;have Ck:R[m - 1]?=some pv:=(by rw [<- kF,show ((m:Int) - 1).toNat=m - 1 by omega]);have Cm:(R.set m pv).set (m - 1) u=S.take (m - 1)++u::(S.drop (m - 1)++tl):=by rw [hR,h1,h2];exact IK (by rw [List.length_take];omega) (by omega)
    (conv=>whnf);repeat ((first|refine ⟨ah ⟨by omega,by omega⟩,?_⟩|(refine fx (i:=m) (by omega) ?_)|(refine ⟨m - 1,ah ⟨by omega,by omega⟩,?_⟩)|(refine eR yn (.head _) (Nat.zero_add _) vf ?_)|(refine eR yn (.head _) (Nat.zero_add _) Ck ?_)|(refine py pv (by decide) yn (i:=m) (by omega) (Nat.zero_add _) rfl (.here _) ?_)|(refine py u (by decide) yn (i:=m - 1) (by simp;omega) (Nat.zero_add _) rfl (.here _) ?_)|refine And.intro (by show aP (aN Tryz.f139 _) _=true;decide +kernel) ?_);conv=>whnf)
    exact ⟨m - 1,by omega,m - 1,_,by rw [show (m:Int) - 1=((m - 1:Nat):Int) by omega],rfl,rfl,by omega,Cm,by rw [hb,h1,IL hq.2,h2]⟩
   have hq:(decide (0<(m:Int))&&nL u pv)=false:=hq
   have dV:R=fw nL S u++tl:=by
    rw [hb,hR];by_cases h0:m=0
    ·subst h0;rfl
    obtain ⟨c,hc,h1,h2⟩:=As (L:=S) (m:=m) (by omega) (by omega);have jj:pv=c:=by rw [show ((m:Int) - 1).toNat=m - 1 by omega,hR,h1,List.append_assoc,List.getElem?_append_right (by rw [List.length_take];omega),List.length_take,show m - 1 - min (m - 1) S.length=0 by omega] at kF;exact (Option.some.inj kF).symm
    subst jj;rw [h1,IM (by rw [Bool.and_eq_false_iff,decide_eq_false_iff_not] at hq;rcases hq with hq|hq;omega;exact hq)];simp
   (conv=>whnf);repeat (refine ⟨ah ⟨by omega,by omega⟩,?_⟩;conv=>whnf)
   exact ⟨_,by omega,i+1,R,rfl,rfl,rfl,by omega,by omega,by rw [cp,dV,gR]⟩
  have VG:i=Wl.length:=(by omega);rw [VG,List.take_length,List.drop_length,List.append_nil,VD] at hR;(conv=>whnf);skip;refine ⟨_,[],.inr ⟨?_,b,?_,rfl⟩,by rw [hR,List.append_nil]⟩
  ·intro h;have:=congrArg List.length h;rw [kE,sG] at this;exact aJ (List.eq_nil_of_length_eq_zero this)
  rw [kE,sG]
 have Cj:qz H bT a=Wl:=by unfold qz;rw [<- Fv,if_neg II]
 rw [Cj];(conv=>whnf);skip;refine yx 60 rfl mixed ?_;(conv=>whnf);refine .inr ?_;(conv=>whnf);skip;refine cF (by simp;omega) ?_;(conv=>whnf);skip;exact ⟨_,[],.inr ⟨aJ,b,rfl,rfl⟩,(List.append_nil _).symm⟩
end Go.Abs.Wall
namespace Go.Abs.Wall
open Go Go.Abs Go.Proofs
def c140:az:=⟨[0,1,2,4,5,6,10],[],[],[],[(5,[0,1,2,3,4,5,6,7,8,9],[])],[]⟩
def c76:az:=⟨[0,1,2,3,6,7,8,9,14,20,27],[],[],[],[],[]⟩
def c37:az:=⟨[0,1,2,4,5,41],[],[5],[],[],[]⟩
theorem VH (H:aj) (bT:List (List ay)) (a:Nat) (hE:yo H bT a):ae Tryz.prog 139 [.agg (bu H),.sl 1 none (bT.map fW),.int .i64 a] [] (.sl 7 none ((qz H bT a).map cz)):=Row.ok (by decide) yn (VB H bT a hE)
theorem VI (H:aj) (line:List Int) (iJ:dU H) (hL:rF H line):ae Tryz.prog 140 [.agg (bu H),.sl 1 none (ints line)] [] (.sl 1 none ((line.map (gn H)).map fW)):=by
 have dw:=hL.bB;refine ae.of (aG (F:=Tryz.f140) c140 rfl rfl rfl mixed rfl fun X=>?_);(conv=>whnf);skip;refine bW rfl mixed [1,2,5,6] [] (fun m r h=>∃ (i:Nat) (v:AV) (hp:af),r=[(1,[],.sl 1 none (ints line)),(2,[],.au (bu H)),(5,[],v),(6,[],.int .i64 i)]/\h=hp/\m=line.length - i/\i<=line.length/\Out 1 fW ((line.take i).map (gn H)) v hp) ?_ ?_
 ·(conv=>whnf);exact ⟨_,_,ao.refl _ _,_,0,_,_,rfl,rfl,rfl,by omega,.inl ⟨rfl,rfl,rfl⟩⟩
 rintro m r h' ⟨i,v,hp,rfl,rfl,rfl,hi,ho⟩;(conv=>whnf);skip;refine ⟨fun aD=>?_,fun aD=>?_⟩<;>simp at aD
 ·obtain ⟨n,hn⟩:=aL aD;have sH:=hL.aA n (List.mem_of_getElem? hn);have cj:=dj hn;have mj:=VJ H n iJ hL.ia sH.1 sH.2;rcases ho with ⟨he,rfl,rfl⟩|⟨q,rfl,rfl⟩
  all_goals
   (conv=>whnf);repeat ((first|refine ⟨ah ⟨by omega,by omega⟩,?_⟩|refine ix (by assumption) ?_|refine ba (mj) ?_|(refine ⟨Nat.le_of_ble_eq_true rfl,fun q'=>?_⟩)|(refine ⟨(by simp;unfold aU;omega),fun q'=>⟨_,.here _,?_⟩⟩)|refine And.intro (by show aP (aN Tryz.f140 _) _=true;decide +kernel) ?_);conv=>whnf)
   refine ⟨_,_,ao.refl _ _,_,(by omega),i+1,_,_,rfl,rfl,rfl,by omega,.inr ⟨q',?_,rfl⟩⟩;rw [cj,List.map_append,List.map_append];first|done|rfl|(rw [he];done)|(rw [he];rfl)
 rw [List.take_of_length_le aD] at ho;(conv=>whnf);skip;exact ho.le (by decide)
theorem VK {H:aj} {line:List Int} (iJ:dU H) (hL:rF H line) {a:Nat} (ha:a<=line.length):yo H (line.map (gn H)) a:=by have dw:=hL.bB;refine ⟨hL.ia,iJ,fun us bd=>?_,by rw [List.length_map];omega,by rw [List.length_map];exact ha⟩;obtain ⟨n,hn,rfl⟩:=List.mem_map.1 bd;have sH:=hL.aA n hn;have bf:=Cn (p:=H.period) ((qA hL.ia.nN).each _ (List.mem_of_getElem? (vg sH.1 sH.2)));exact ⟨by unfold gn;omega,bf.2⟩
theorem NW (H:aj) (line:List Int) (a:Nat):Ao H (line.map (gn H)) a=(lE H (mR H line a) a).take 2001:=by unfold Ao mR;rw [List.map_take,List.map_drop]
def sI (H:aj) (line:List Int) (a:Int):Int:=
 if dX H line≠0 then dX H line else if bI a 0 line.length=false then 1 else if 2000<(dE H line a.toNat).length then 2 else 0
def yz (H:aj) (line:List Int) (a:Int):List av:=if sI H line a=0 then dE H line a.toNat else []
theorem NX (H:aj) (line:List Int) (a:Nat):(dE H line a).length=(lE H (mR H line a) a).length:=by unfold dE kE;rw [sG]
theorem VL {H:aj} {line:List Int} {a:Nat} (h:(dE H line a).length<=2000):qz H (line.map (gn H)) a=dE H line a:=by unfold qz;rw [NW];rw [NX] at h;rw [List.take_of_length_le (by omega),if_pos h];rfl
theorem VM {H:aj} {line:List Int} {a:Nat} (h:2000<(dE H line a).length):(qz H (line.map (gn H)) a).length=2001:=by
 unfold qz;rw [NW];rw [NX] at h;have:((lE H (mR H line a) a).take 2001).length=2001:=by rw [List.length_take];omega
 rw [if_neg (by omega),this]
theorem VN (H:aj) (line:List Int) (a:Int) (hf:dU H) (hl:line.length<=1048576) :
  ae Tryz.prog 76 [.agg (bu H),.sl 1 none (ints line),.int .i64 a] [] (.aH [.sl 7 none ((yz H line a).map cz),.int .i64 (sI H line a)]):=by
 refine ae.of ?_;refine aG (F:=Tryz.f76) c76 rfl rfl rfl mixed rfl fun X=>?_;(conv=>whnf);repeat (refine ae.k0 (Fy H line hf (by unfold aw;omega)) ?_;conv=>whnf)
 refine ⟨fun h1=>?_,fun h1=>?_⟩<;>simp at h1
 ·have he:sI H line a=dX H line:=(by rw [sI,if_pos h1]);(conv=>whnf);skip;rw [yz,he,if_neg h1];exact ag.aH (.cons (ag.nil (by decide)) (.cons (ag.refl _) .nil))
 have hL:=mS h1;(conv=>whnf);repeat (refine ae.k0 (within _ _ _) ?_;conv=>whnf)
 refine ⟨fun h2=>?_,fun h2=>?_⟩
 ·have h2:(!bI a 0 ((ints line).length:Int))=true:=h2;rw [cg,Bool.not_eq_true'] at h2;have he:sI H line a=1:=(by rw [sI,if_neg (by omega),if_pos h2]);(conv=>whnf);skip;rw [yz,he,if_neg (by decide)];exact ag.aH (.cons (ag.nil (by decide)) (.cons (ag.refl _) .nil))
 have h2:(!bI a 0 ((ints line).length:Int))=false:=h2;rw [cg,Bool.not_eq_false',dY] at h2;obtain ⟨n,rfl⟩:∃ n:Nat,a=(n:Int):=⟨a.toNat,by omega⟩;have Fz:sI H line n=if 2000<(dE H line n).length then 2 else 0:=by rw [sI,if_neg (by omega),if_neg (by rw [Bool.not_eq_false,dY];omega)];rfl
 (conv=>whnf);repeat (refine ae.k0 (NY H line n 2000 hL.ia hf hL.aA hl (by omega) (by decide)) ?_;conv=>whnf)
 by_cases hb:(dE H line n).length<=2000
 ·rw [if_neg (by omega)] at Fz;rw [NZ hb];refine cF (by simp;omega) ?_;(conv=>whnf);skip;rw [yz,Fz,if_pos rfl];exact ag.refl _
 rw [if_pos (by omega)] at Fz;have IP:=Oa (H:=H) (line:=line) (at_:=n) (most:=2000) (by omega);refine cT (by rw [List.length_map,IP];decide) ?_;(conv=>whnf);skip;rw [yz,Fz,if_neg (by decide)];exact ag.aH (.cons (ag.nil (by decide)) (.cons (ag.refl _) .nil))
end Go.Abs.Wall
namespace Go.Abs.Wall
open Go Go.Abs Go.Proofs
def Co (H:aj) (line:List Int):Bool:=
 if ((decide (60<(H.lex.entries.length:Int))&&decide ((H.lex.entries.length:Int)<=200))||(decide (12<(H.lex.bO.length:Int))&&decide ((H.lex.bO.length:Int)<=40))||(decide (6<(H.lex.ar.length:Int))&&decide ((H.lex.ar.length:Int)<=10)))=true then true
 else decide (16<(line.length:Int))&&decide ((line.length:Int)<=60)
theorem Oc (H:aj) (line:List Int):ae Tryz.prog 37 [.agg (bu H),.sl 1 none (ints line)] [] (.bool (Co H line)):=by
 obtain ⟨b,hb⟩:∃ b,b=Co H line:=⟨_,rfl⟩;rw [<- hb];unfold Co at hb;rw [<- List.length_map (f:=fJ),<- List.length_map (f:=jk),<- List.length_map (f:=ib),<- cg] at hb;refine aG (F:=Tryz.f37) c37 rfl rfl rfl mixed rfl fun X=>?_;(conv=>whnf);intro b5;(conv=>whnf);repeat (refine ⟨_,_,bo.here _,⟨Nat.le_of_ble_eq_true rfl,rfl⟩,?_⟩;conv=>whnf)
 refine ⟨fun hq=>?_,fun hq=>?_⟩
 ·rw [if_pos hq] at hb;(conv=>whnf);exact ⟨by rw [hb],rfl⟩
 rw [if_neg (by rw [show _=false from hq];decide)] at hb;(conv=>whnf);skip;exact ⟨by rw [hb],rfl⟩
end Go.Abs.Wall
