/- Small laws for the walks and contracts of functions; each theorem names its conditions. -/
import Derived.Test.YthmcbjcgdfmmaaaGreatN9
import Derived.Test.YthmcbjcgdfmmaaaGreatN8
set_option maxRecDepth 100000
set_option maxHeartbeats 2000000
namespace Go.Abs.Wall
open Go Go.Abs Go.Proofs
structure BT (H:aD) (bR:List (List az)) (a:Nat) (f:br):Prop where
 ka:kc H
 fit:dx H
 entry:0<=f.entry/\f.entry<H.lex.entries.length
 ending:-1<=f.ending/\f.ending<H.lex.bM.length
 ay:∀ us∈bR,us.length<=1048576/\∀ u∈us,kK u
 len:bR.length<=1048576
 at_:a<=bR.length
def HZ (H:aD) (bR:List (List az)) (a:Nat) (f:br) (rest:List (List az)):Prop:=
 ∀ (p:bU) (T:List az) (L:List ar) (v:AV) (hp:af),(∃ pre,(bR.drop a).take 12=pre++rest/\pre.length=T.length)->uZ (cL H f) p T->Row 7 bZ L v hp->L.length<=2000 ->
  aw Tryz.prog 89 [.agg (aZ H),.sl 1 none (bR.map eD),.int .i64 a,.agg (er (fG (cL H f) f p T)),v] hp
   (fun v' h'=>Row 7 bZ ((L++df (dD H a f.entry f.ending) rest p T).take 2001) v' h')
def c89:av:=⟨[0,1,2,3,4,5,8,10,11,12,13,14,15,17,51,59,81],[],[11],[],[(3,[0,1,2,3,4,5,6,7,8,9,10,11,12,13,14],[]),(10,[0,1,2,3,4,5,6,7,8,9,10,11],[]),(14,[0,1,2,3,4,5,6,7,8,9],[])],[92]⟩
theorem BT.sp {H:aD} {bR:List (List az)} {a:Nat} {f:br} (h:BT H bR a f):lW (cL H f):=BU (at_:=0) h.ka h.entry.1 h.entry.2 h.ending.2
set_option maxHeartbeats 2000000 in
theorem Ni (H:aD) (bR:List (List az)) (a:Nat) (f:br) (hE:BT H bR a f) (rest:List (List az)) (IH:∀ us r,rest=us::r->HZ H bR a f r):HZ H bR a f rest:=by
 intro p T L v hp oI aX hL yo;obtain ⟨pre,hA,cM⟩:=oI;have oJ:=congrArg List.length hA;rw [List.length_append,List.length_take,List.length_drop] at oJ;have hs:=hE.sp;have fH:=aX.bB;have Ia:=aX.ok.bB;have gf:=hE.len;have cK:=hE.at_;have mB:(((fG (cL H f) f p T).ay.map aU).length:Int)=(T.length:Int):=by rw [List.length_map];rfl
 obtain ⟨W0,Ib⟩:∃ W0,W0=(L++df (dD H a f.entry f.ending) rest p T).take 2001:=⟨_,rfl⟩;rw [<- Ib];have Uj:=Uk (cL H f) f p T aX;refine aA (F:=Tryz.f89) c89 rfl rfl rfl mixed rfl fun X=>?_;(conv=>whnf);repeat (refine ab.k0 (Uj) ?_;conv=>whnf)
 refine ⟨fun hq=>?_,fun hq=>?_⟩
 ·have hq:(sI (cL H f) p&&decide (0<(T.length:Int)))=true:=hq;have hh:mC (dD H a f.entry f.ending) p T=[qm (dD H a f.entry f.ending) p T]:=by unfold mC;rw [Bool.and_comm] at hq;exact if_pos hq
  obtain ⟨L1,fg⟩:∃ L1,L1=L++[qm (dD H a f.entry f.ending) p T]:=⟨_,rfl⟩;have ji:L1.length<=2001:=by rw [fg,List.length_append,List.length_singleton];omega
  have hW:W0=(L1++fU (dD H a f.entry f.ending) rest p T).take 2001:=by rw [Ib];unfold df;rw [hh,fg,List.append_assoc]
  have qk:=Ul H ⟨⟨f.entry,f.ending,p.cl⟩,T⟩ hE.fit.lex hE.ka (by show p.cl.length<=aq;unfold aq;omega) hE.entry (by show T.length<=1048576;omega);rcases hL with ⟨fw,rfl,rfl⟩|⟨fw,lb,rfl,rfl⟩
  ·(conv=>whnf);repeat ((first|refine ⟨ag ⟨by omega,by omega⟩,?_⟩|(intro (Um:Nat))|refine aY (qk) ?_|(refine ⟨⟨Nat.le_of_ble_eq_true rfl,Nat.le_of_ble_eq_true rfl⟩,fun b4=>?_⟩)|refine ⟨_,_,bj.here _,⟨Nat.le_of_ble_eq_true rfl,rfl⟩,?_⟩|refine And.intro (by show aJ (aH Tryz.f89 _) _=true;decide +kernel) ?_);conv=>whnf)
   rw [mB];have gL:Row 7 bZ L1 (.aQ b4 0 1 7) [(b4,.vec (bZ (qm (dD H a f.entry f.ending) p T)++[]))]:=by rw [fg,fw];exact .inr ⟨by simp,b4,rfl,by simp⟩
   refine ⟨fun hz=>?_,fun hz=>?_⟩
   ·have hz:(decide (((a:Int)+(T.length:Int))=((bR.map eD).length:Int))||decide ((T.length:Int)=12))=true:=hz;rw [List.length_map] at hz;simp only [Bool.or_eq_true,decide_eq_true_eq] at hz;have hr:rest=[]:=List.eq_nil_of_length_eq_zero (by omega);rw [hr,show fU (dD H a f.entry f.ending) [] p T=[] from rfl,List.append_nil,List.take_of_length_le ji] at hW;(conv=>whnf);skip;rw [hW];exact gL
   have hz:(decide (((a:Int)+(T.length:Int))=((bR.map eD).length:Int))||decide ((T.length:Int)=12))=false:=hz;rw [List.length_map] at hz;simp only [Bool.or_eq_false_iff,decide_eq_false_iff_not] at hz
   obtain ⟨us,cr,hr⟩:∃ us r,rest=us::r:=by
    cases rest with
    | nil=>simp at oJ;omega
    | cons us r=>exact ⟨us,r,rfl⟩
   have bd:bR[a+T.length]?=some us:=by
    have h1:((bR.drop a).take 12)[T.length]?=some us:=by rw [hA,hr,<- cM];simp
    rw [List.getElem?_take] at h1;split at h1
    ·rwa [List.getElem?_drop] at h1
    cases h1
   obtain ⟨yp,qo⟩:=hE.ay us (List.mem_of_getElem? bd);have BV:T.length<12:=by rw [hr,List.length_cons] at oJ;omega
   have IH:=IH us cr hr;have nx:fU (dD H a f.entry f.ending) rest p T=us.flatMap fun u=>(bk (cL H f) p u).flatMap fun q=>df (dD H a f.entry f.ending) cr q (T++[u]):=by rw [hr];rfl
   rw [nx] at hW;(conv=>whnf);skip;refine bD rfl mixed [1,2,4,5,8,12,13] [] (fun m r h=>∃ (k:Nat) (L2:List ar) (v:AV) (hp:af),r=[(1,[],.sl 1 none (bR.map eD)),(2,[],.int .i64 a),(4,[],v),(5,[],.ai (aZ H)),(8,[],.ai (er (fG (cL H f) f p T))),(12,[],.int .i64 ((a:Int)+(T.length:Int))),(13,[],.int .i64 k)]/\h=hp/\m=us.length - k/\k<=us.length/\Row 7 bZ L2 v hp/\L2.length<=2001/\W0=(L2++(us.drop k).flatMap fun u=>(bk (cL H f) p u).flatMap fun q=>df (dD H a f.entry f.ending) cr q (T++[u])).take 2001) ?_ ?_
   ·(conv=>whnf);exact ⟨_,_,ah.refl _ _,_,0,L1,_,_,rfl,rfl,rfl,by omega,gL,ji,by rw [List.drop_zero];exact hW⟩
   clear gL ji hW;rintro m r h' ⟨k,L2,v,hp,rfl,rfl,rfl,hk,mD,oK,iT⟩;(conv=>whnf);repeat (refine ix (by assumption) ?_;conv=>whnf)
   refine ⟨fun aG=>?_,fun aG=>?_⟩<;>simp at aG
   ·obtain ⟨u,hu⟩:=aF aG;have qp:=qo u (List.mem_of_getElem? hu);rw [drop_cons hu,List.flatMap_cons] at iT;have cz:=Ic hs aX qp BV;have gx:=EU hs p u;have jG:=Ie (cL H f) f p T u hs aX qp rfl hE.entry;(conv=>whnf);repeat ((first|refine ix (by assumption) ?_|refine aY (jG) ?_|refine And.intro (by show aJ (aH Tryz.f89 _) _=true;decide +kernel) ?_);conv=>whnf)
    refine bD rfl mixed [1,2,4,5,8,12,13,14,15] [] (fun m r h=>∃ (j:Nat) (L3:List ar) (v:AV) (hp:af),r=[(1,[],.sl 1 none (bR.map eD)),(2,[],.int .i64 a),(4,[],v),(5,[],.ai (aZ H)),(8,[],.ai (er (fG (cL H f) f p T))),(12,[],.int .i64 ((a:Int)+(T.length:Int))),(13,[],.int .i64 k),(14,[],.sl 8 none ((bk (cL H f) p u).map fun q=>er (fG (cL H f) f q (T++[u])))),(15,[],.int .i64 j)]/\h=hp/\m=(bk (cL H f) p u).length - j/\j<=(bk (cL H f) p u).length/\Row 7 bZ L3 v hp/\L3.length<=2001/\W0=(L3++(((bk (cL H f) p u).drop j).flatMap (fun q=>df (dD H a f.entry f.ending) cr q (T++[u]))++(us.drop (k+1)).flatMap fun u=>(bk (cL H f) p u).flatMap fun q=>df (dD H a f.entry f.ending) cr q (T++[u]))).take 2001) ?_ ?_
    ·(conv=>whnf);exact ⟨_,_,ah.refl _ _,_,0,L2,_,_,rfl,rfl,rfl,by omega,mD,oK,iT⟩
    clear mD oK iT;rintro m r h' ⟨j,L3,v,hp,rfl,rfl,rfl,hj,rC,tX,kd⟩;have rD:=rC;rcases rC with ⟨rE,rfl,rfl⟩|⟨rE,l3,rfl,rfl⟩
    all_goals
     (conv=>whnf);skip;refine ⟨fun eI=>?_,fun eI=>?_⟩<;>simp at eI
     ·obtain ⟨q,hq⟩:=aF (l:=bk (cL H f) p u) (i:=j) (by omega);have oL:=cz q (List.mem_of_getElem? hq);rw [drop_cons hq,List.flatMap_cons,List.append_assoc] at kd;have ke:L3.length<=2000:=(by first|omega|(rw [rE];simp));(conv=>whnf);repeat ((first|refine ix (by assumption) ?_|refine And.intro (by show aJ (aH Tryz.f89 _) _=true;decide +kernel) ?_);conv=>whnf)
      refine aw.mono ?_ (IH q (T++[u]) L3 _ _ ⟨pre++[us],by rw [hA,hr];simp,by simp [cM]⟩ oL rD ke);intro v1 h1 hR;(conv=>whnf);repeat (refine ⟨ag ⟨by omega,by omega⟩,?_⟩;conv=>whnf)
      exact ⟨_,_,ah.refl _ _,_,(by omega),j+1,_,v1,h1,rfl,rfl,rfl,by omega,hR,by rw [List.length_take];omega,by rw [kd,BW,List.append_assoc]⟩
     have BX:W0=(L3++(us.drop (k+1)).flatMap fun u=>(bk (cL H f) p u).flatMap fun q=>df (dD H a f.entry f.ending) cr q (T++[u])).take 2001:=by
      by_cases gb:j<(bk (cL H f) p u).length
      ·have ke:2001<=L3.length:=(by first|omega|(exact absurd gb (by omega)));rw [kd,List.take_append_of_le_length ke,List.take_append_of_le_length ke]
      rw [kd,drop_nil (by omega),List.flatMap_nil,List.nil_append]
     (conv=>whnf);repeat (refine ⟨ag ⟨by omega,by omega⟩,?_⟩;conv=>whnf)
     exact ⟨_,_,ah.refl _ _,_,(by omega),k+1,L3,_,_,rfl,rfl,rfl,by omega,rD,tX,BX⟩
   rw [drop_nil aG,List.flatMap_nil,List.append_nil,List.take_of_length_le oK] at iT;(conv=>whnf);skip;rw [iT];exact mD
  have rF:L.length+1<=aN:=by unfold aN;omega
  (conv=>whnf);repeat ((first|refine ⟨ag ⟨by omega,by omega⟩,?_⟩|(intro (Um:Nat))|refine aY (qk) ?_|(refine ⟨_,.head _,⟨qq (fun _=>rfl),rF⟩,fun b4=>⟨_,.here _,?_⟩⟩)|refine ⟨_,_,bj.here _,⟨Nat.le_of_ble_eq_true rfl,rfl⟩,?_⟩|refine And.intro (by show aJ (aH Tryz.f89 _) _=true;decide +kernel) ?_);conv=>whnf)
  rw [mB];have gL:Row 7 bZ L1 (.aQ b4 0 (L.length+1) 7) [(b4,.vec ((L.map bZ).flatten++(bZ (qm (dD H a f.entry f.ending) p T)++[])))]:=by rw [fg];exact .inr ⟨by simp,b4,by rw [List.length_append];rfl,by rw [List.map_append,List.flatten_append];rfl⟩
  refine ⟨fun hz=>?_,fun hz=>?_⟩
  ·have hz:(decide (((a:Int)+(T.length:Int))=((bR.map eD).length:Int))||decide ((T.length:Int)=12))=true:=hz;rw [List.length_map] at hz;simp only [Bool.or_eq_true,decide_eq_true_eq] at hz;have hr:rest=[]:=List.eq_nil_of_length_eq_zero (by omega);rw [hr,show fU (dD H a f.entry f.ending) [] p T=[] from rfl,List.append_nil,List.take_of_length_le ji] at hW;(conv=>whnf);skip;rw [hW];exact gL
  have hz:(decide (((a:Int)+(T.length:Int))=((bR.map eD).length:Int))||decide ((T.length:Int)=12))=false:=hz;rw [List.length_map] at hz;simp only [Bool.or_eq_false_iff,decide_eq_false_iff_not] at hz
  obtain ⟨us,cr,hr⟩:∃ us r,rest=us::r:=by
   cases rest with
   | nil=>simp at oJ;omega
   | cons us r=>exact ⟨us,r,rfl⟩
  have bd:bR[a+T.length]?=some us:=by
   have h1:((bR.drop a).take 12)[T.length]?=some us:=by rw [hA,hr,<- cM];simp
   rw [List.getElem?_take] at h1;split at h1
   ·rwa [List.getElem?_drop] at h1
   cases h1
  obtain ⟨yp,qo⟩:=hE.ay us (List.mem_of_getElem? bd);have BV:T.length<12:=by rw [hr,List.length_cons] at oJ;omega
  have IH:=IH us cr hr;have nx:fU (dD H a f.entry f.ending) rest p T=us.flatMap fun u=>(bk (cL H f) p u).flatMap fun q=>df (dD H a f.entry f.ending) cr q (T++[u]):=by rw [hr];rfl
  rw [nx] at hW;(conv=>whnf);skip;refine bD rfl mixed [1,2,4,5,8,12,13] [] (fun m r h=>∃ (k:Nat) (L2:List ar) (v:AV) (hp:af),r=[(1,[],.sl 1 none (bR.map eD)),(2,[],.int .i64 a),(4,[],v),(5,[],.ai (aZ H)),(8,[],.ai (er (fG (cL H f) f p T))),(12,[],.int .i64 ((a:Int)+(T.length:Int))),(13,[],.int .i64 k)]/\h=hp/\m=us.length - k/\k<=us.length/\Row 7 bZ L2 v hp/\L2.length<=2001/\W0=(L2++(us.drop k).flatMap fun u=>(bk (cL H f) p u).flatMap fun q=>df (dD H a f.entry f.ending) cr q (T++[u])).take 2001) ?_ ?_
  ·(conv=>whnf);exact ⟨_,_,ah.refl _ _,_,0,L1,_,_,rfl,rfl,rfl,by omega,gL,ji,by rw [List.drop_zero];exact hW⟩
  clear gL ji hW;rintro m r h' ⟨k,L2,v,hp,rfl,rfl,rfl,hk,mD,oK,iT⟩;(conv=>whnf);repeat (refine ix (by assumption) ?_;conv=>whnf)
  refine ⟨fun aG=>?_,fun aG=>?_⟩<;>simp at aG
  ·obtain ⟨u,hu⟩:=aF aG;have qp:=qo u (List.mem_of_getElem? hu);rw [drop_cons hu,List.flatMap_cons] at iT;have cz:=Ic hs aX qp BV;have gx:=EU hs p u;have jG:=Ie (cL H f) f p T u hs aX qp rfl hE.entry;(conv=>whnf);repeat ((first|refine ix (by assumption) ?_|refine aY (jG) ?_|refine And.intro (by show aJ (aH Tryz.f89 _) _=true;decide +kernel) ?_);conv=>whnf)
   refine bD rfl mixed [1,2,4,5,8,12,13,14,15] [] (fun m r h=>∃ (j:Nat) (L3:List ar) (v:AV) (hp:af),r=[(1,[],.sl 1 none (bR.map eD)),(2,[],.int .i64 a),(4,[],v),(5,[],.ai (aZ H)),(8,[],.ai (er (fG (cL H f) f p T))),(12,[],.int .i64 ((a:Int)+(T.length:Int))),(13,[],.int .i64 k),(14,[],.sl 8 none ((bk (cL H f) p u).map fun q=>er (fG (cL H f) f q (T++[u])))),(15,[],.int .i64 j)]/\h=hp/\m=(bk (cL H f) p u).length - j/\j<=(bk (cL H f) p u).length/\Row 7 bZ L3 v hp/\L3.length<=2001/\W0=(L3++(((bk (cL H f) p u).drop j).flatMap (fun q=>df (dD H a f.entry f.ending) cr q (T++[u]))++(us.drop (k+1)).flatMap fun u=>(bk (cL H f) p u).flatMap fun q=>df (dD H a f.entry f.ending) cr q (T++[u]))).take 2001) ?_ ?_
   ·(conv=>whnf);exact ⟨_,_,ah.refl _ _,_,0,L2,_,_,rfl,rfl,rfl,by omega,mD,oK,iT⟩
   clear mD oK iT;rintro m r h' ⟨j,L3,v,hp,rfl,rfl,rfl,hj,rC,tX,kd⟩;have rD:=rC;rcases rC with ⟨rE,rfl,rfl⟩|⟨rE,l3,rfl,rfl⟩
   all_goals
    (conv=>whnf);skip;refine ⟨fun eI=>?_,fun eI=>?_⟩<;>simp at eI
    ·obtain ⟨q,hq⟩:=aF (l:=bk (cL H f) p u) (i:=j) (by omega);have oL:=cz q (List.mem_of_getElem? hq);rw [drop_cons hq,List.flatMap_cons,List.append_assoc] at kd;have ke:L3.length<=2000:=(by first|omega|(rw [rE];simp));(conv=>whnf);repeat ((first|refine ix (by assumption) ?_|refine And.intro (by show aJ (aH Tryz.f89 _) _=true;decide +kernel) ?_);conv=>whnf)
     refine aw.mono ?_ (IH q (T++[u]) L3 _ _ ⟨pre++[us],by rw [hA,hr];simp,by simp [cM]⟩ oL rD ke);intro v1 h1 hR;(conv=>whnf);repeat (refine ⟨ag ⟨by omega,by omega⟩,?_⟩;conv=>whnf)
     exact ⟨_,_,ah.refl _ _,_,(by omega),j+1,_,v1,h1,rfl,rfl,rfl,by omega,hR,by rw [List.length_take];omega,by rw [kd,BW,List.append_assoc]⟩
    have BX:W0=(L3++(us.drop (k+1)).flatMap fun u=>(bk (cL H f) p u).flatMap fun q=>df (dD H a f.entry f.ending) cr q (T++[u])).take 2001:=by
     by_cases gb:j<(bk (cL H f) p u).length
     ·have ke:2001<=L3.length:=(by first|omega|(exact absurd gb (by omega)));rw [kd,List.take_append_of_le_length ke,List.take_append_of_le_length ke]
     rw [kd,drop_nil (by omega),List.flatMap_nil,List.nil_append]
    (conv=>whnf);repeat (refine ⟨ag ⟨by omega,by omega⟩,?_⟩;conv=>whnf)
    exact ⟨_,_,ah.refl _ _,_,(by omega),k+1,L3,_,_,rfl,rfl,rfl,by omega,rD,tX,BX⟩
  rw [drop_nil aG,List.flatMap_nil,List.append_nil,List.take_of_length_le oK] at iT;(conv=>whnf);skip;rw [iT];exact mD
 have hq:(sI (cL H f) p&&decide (0<(T.length:Int)))=false:=hq;have hh:mC (dD H a f.entry f.ending) p T=[]:=by unfold mC;rw [Bool.and_comm] at hq;exact if_neg (by rw [show (decide (0<(T.length:Int))&&sI (dD H a f.entry f.ending).s p)=false from hq];decide)
 obtain ⟨L1,fg⟩:∃ L1,L1=L:=⟨_,rfl⟩;have gL:=hL;have ji:L1.length<=2001:=by rw [fg];omega
 rw [<- fg] at gL;have hW:W0=(L1++fU (dD H a f.entry f.ending) rest p T).take 2001:=by rw [Ib];unfold df;rw [hh,fg,List.nil_append]
 (conv=>whnf);repeat (refine ⟨ag ⟨by omega,by omega⟩,?_⟩;conv=>whnf)
 rw [mB];clear hL;refine ⟨fun hz=>?_,fun hz=>?_⟩
 ·have hz:(decide (((a:Int)+(T.length:Int))=((bR.map eD).length:Int))||decide ((T.length:Int)=12))=true:=hz;rw [List.length_map] at hz;simp only [Bool.or_eq_true,decide_eq_true_eq] at hz;have hr:rest=[]:=List.eq_nil_of_length_eq_zero (by omega);rw [hr,show fU (dD H a f.entry f.ending) [] p T=[] from rfl,List.append_nil,List.take_of_length_le ji] at hW;(conv=>whnf);skip;rw [hW];exact gL
 have hz:(decide (((a:Int)+(T.length:Int))=((bR.map eD).length:Int))||decide ((T.length:Int)=12))=false:=hz;rw [List.length_map] at hz;simp only [Bool.or_eq_false_iff,decide_eq_false_iff_not] at hz
 obtain ⟨us,cr,hr⟩:∃ us r,rest=us::r:=by
  cases rest with
  | nil=>simp at oJ;omega
  | cons us r=>exact ⟨us,r,rfl⟩
 have bd:bR[a+T.length]?=some us:=by
  have h1:((bR.drop a).take 12)[T.length]?=some us:=by rw [hA,hr,<- cM];simp
  rw [List.getElem?_take] at h1;split at h1
  ·rwa [List.getElem?_drop] at h1
  cases h1
 obtain ⟨yp,qo⟩:=hE.ay us (List.mem_of_getElem? bd);have BV:T.length<12:=by rw [hr,List.length_cons] at oJ;omega
 have IH:=IH us cr hr;have nx:fU (dD H a f.entry f.ending) rest p T=us.flatMap fun u=>(bk (cL H f) p u).flatMap fun q=>df (dD H a f.entry f.ending) cr q (T++[u]):=by rw [hr];rfl
 rw [nx] at hW;(conv=>whnf);skip;refine bD rfl mixed [1,2,4,5,8,12,13] [] (fun m r h=>∃ (k:Nat) (L2:List ar) (v:AV) (hp:af),r=[(1,[],.sl 1 none (bR.map eD)),(2,[],.int .i64 a),(4,[],v),(5,[],.ai (aZ H)),(8,[],.ai (er (fG (cL H f) f p T))),(12,[],.int .i64 ((a:Int)+(T.length:Int))),(13,[],.int .i64 k)]/\h=hp/\m=us.length - k/\k<=us.length/\Row 7 bZ L2 v hp/\L2.length<=2001/\W0=(L2++(us.drop k).flatMap fun u=>(bk (cL H f) p u).flatMap fun q=>df (dD H a f.entry f.ending) cr q (T++[u])).take 2001) ?_ ?_
 ·(conv=>whnf);exact ⟨_,_,ah.refl _ _,_,0,L1,_,_,rfl,rfl,rfl,by omega,gL,ji,by rw [List.drop_zero];exact hW⟩
 clear gL ji hW;rintro m r h' ⟨k,L2,v,hp,rfl,rfl,rfl,hk,mD,oK,iT⟩;(conv=>whnf);repeat (refine ix (by assumption) ?_;conv=>whnf)
 refine ⟨fun aG=>?_,fun aG=>?_⟩<;>simp at aG
 ·obtain ⟨u,hu⟩:=aF aG;have qp:=qo u (List.mem_of_getElem? hu);rw [drop_cons hu,List.flatMap_cons] at iT;have cz:=Ic hs aX qp BV;have gx:=EU hs p u;have jG:=Ie (cL H f) f p T u hs aX qp rfl hE.entry;(conv=>whnf);repeat ((first|refine ix (by assumption) ?_|refine aY (jG) ?_|refine And.intro (by show aJ (aH Tryz.f89 _) _=true;decide +kernel) ?_);conv=>whnf)
  refine bD rfl mixed [1,2,4,5,8,12,13,14,15] [] (fun m r h=>∃ (j:Nat) (L3:List ar) (v:AV) (hp:af),r=[(1,[],.sl 1 none (bR.map eD)),(2,[],.int .i64 a),(4,[],v),(5,[],.ai (aZ H)),(8,[],.ai (er (fG (cL H f) f p T))),(12,[],.int .i64 ((a:Int)+(T.length:Int))),(13,[],.int .i64 k),(14,[],.sl 8 none ((bk (cL H f) p u).map fun q=>er (fG (cL H f) f q (T++[u])))),(15,[],.int .i64 j)]/\h=hp/\m=(bk (cL H f) p u).length - j/\j<=(bk (cL H f) p u).length/\Row 7 bZ L3 v hp/\L3.length<=2001/\W0=(L3++(((bk (cL H f) p u).drop j).flatMap (fun q=>df (dD H a f.entry f.ending) cr q (T++[u]))++(us.drop (k+1)).flatMap fun u=>(bk (cL H f) p u).flatMap fun q=>df (dD H a f.entry f.ending) cr q (T++[u]))).take 2001) ?_ ?_
  ·(conv=>whnf);exact ⟨_,_,ah.refl _ _,_,0,L2,_,_,rfl,rfl,rfl,by omega,mD,oK,iT⟩
  clear mD oK iT;rintro m r h' ⟨j,L3,v,hp,rfl,rfl,rfl,hj,rC,tX,kd⟩;have rD:=rC;rcases rC with ⟨rE,rfl,rfl⟩|⟨rE,l3,rfl,rfl⟩
  all_goals
   (conv=>whnf);skip;refine ⟨fun eI=>?_,fun eI=>?_⟩<;>simp at eI
   ·obtain ⟨q,hq⟩:=aF (l:=bk (cL H f) p u) (i:=j) (by omega);have oL:=cz q (List.mem_of_getElem? hq);rw [drop_cons hq,List.flatMap_cons,List.append_assoc] at kd;have ke:L3.length<=2000:=(by first|omega|(rw [rE];simp));(conv=>whnf);repeat ((first|refine ix (by assumption) ?_|refine And.intro (by show aJ (aH Tryz.f89 _) _=true;decide +kernel) ?_);conv=>whnf)
    refine aw.mono ?_ (IH q (T++[u]) L3 _ _ ⟨pre++[us],by rw [hA,hr];simp,by simp [cM]⟩ oL rD ke);intro v1 h1 hR;(conv=>whnf);repeat (refine ⟨ag ⟨by omega,by omega⟩,?_⟩;conv=>whnf)
    exact ⟨_,_,ah.refl _ _,_,(by omega),j+1,_,v1,h1,rfl,rfl,rfl,by omega,hR,by rw [List.length_take];omega,by rw [kd,BW,List.append_assoc]⟩
   have BX:W0=(L3++(us.drop (k+1)).flatMap fun u=>(bk (cL H f) p u).flatMap fun q=>df (dD H a f.entry f.ending) cr q (T++[u])).take 2001:=by
    by_cases gb:j<(bk (cL H f) p u).length
    ·have ke:2001<=L3.length:=(by first|omega|(exact absurd gb (by omega)));rw [kd,List.take_append_of_le_length ke,List.take_append_of_le_length ke]
    rw [kd,drop_nil (by omega),List.flatMap_nil,List.nil_append]
   (conv=>whnf);repeat (refine ⟨ag ⟨by omega,by omega⟩,?_⟩;conv=>whnf)
   exact ⟨_,_,ah.refl _ _,_,(by omega),k+1,L3,_,_,rfl,rfl,rfl,by omega,rD,tX,BX⟩
 rw [drop_nil aG,List.flatMap_nil,List.append_nil,List.take_of_length_le oK] at iT;(conv=>whnf);skip;rw [iT];exact mD
theorem Nj (H:aD) (bR:List (List az)) (a:Nat) (f:br) (hE:BT H bR a f):∀ rest,HZ H bR a f rest
 | []=>Ni H bR a f hE [] (fun us r h=>by cases h)
 | us::r=>Ni H bR a f hE (us::r) (fun BY r' h=>by cases h;exact Nj H bR a f hE r)
end Go.Abs.Wall
namespace Go.Abs.Wall
open Go Go.Abs Go.Proofs
theorem Nk {E:Env} (hs:lW E.s):∀ (rest:List (List az)) (p:bU) (T:List az),kL E.s p->(∀ us∈rest,∀ u∈us,kK u)->∀ e∈fU E rest p T,e.word.form.entry=E.entry/\e.word.form.ending=E.ending/\∀ c∈e.word.form.ao,0<=c/\c<E.s.H.lex.ao.length
 | [],_,_,_,_,e,he=>by cases he
 | us::r,p,T,hp,hu,e,he=>by
   unfold fU at he;rw [List.mem_flatMap] at he;obtain ⟨u,wB,he⟩:=he;rw [List.mem_flatMap] at he;obtain ⟨q,hq,he⟩:=he;have oL:=wC hs hp (hu us (by simp) u wB) q hq;rcases List.mem_append.1 he with he|he
   ·unfold mC at he;split at he
    ·cases List.mem_singleton.1 he
     exact ⟨rfl,rfl,oL.eh⟩
    cases he
   exact Nk hs r q (T++[u]) oL (fun BY h'=>hu BY (by simp [h'])) e he
theorem Un {H:aD} (hH:kc H) {bV:List (List az)} (hf:bV.length<=12) (hu:∀ us∈bV,us.length<=1048576/\∀ u∈us,kK u) {at_:Nat}:∀ e∈mE H bV at_,BZ e.word:=by
 intro e he;have cK:=EV hH hf hu e he;have hm:=hH.lex.many;unfold mE at he;rw [List.mem_flatMap] at he;obtain ⟨i,hi,he⟩:=he;unfold ny at he;rw [List.mem_flatMap] at he;obtain ⟨k,hk,he⟩:=he;rw [List.mem_range] at hi hk;unfold ic at he;split at he
 ·cases he
 unfold df at he;rw [Ca,List.nil_append] at he;have mA:lW (dD H at_ i ((k:Int) - 1)).s:=BU hH (by omega) (by omega) (by omega);obtain ⟨h1,h2,h3⟩:=Nk mA bV jj [] (Cb _) (fun us h=>(hu us h).2) e he;have h1:e.word.form.entry=(i:Int):=h1;have h2:e.word.form.ending=(k:Int) - 1:=h2;refine ⟨⟨by omega,by omega,fun c hc=>?_,by have:=cK.cl;omega⟩,by have:=cK.bB;omega⟩;have h4:=h3 c hc;have h5:c<H.lex.ao.length:=h4.2;omega
def Al (H:aD) (bR:List (List az)) (a:Nat):List ar:=(mE H ((bR.drop a).take 12) a).take 2001
def qt (H:aD) (bR:List (List az)) (a:Nat):List ar:=if (Al H bR a).length<=2000 then lB (Al H bR a) else Al H bR a
def nz (a b:ar):Bool:=decide (Cc a b<0)
theorem yq:∀ e:ar,(bZ e).length=7:=fun _=>rfl
structure yr (H:aD) (bR:List (List az)) (a:Nat):Prop where
 ka:kc H
 fit:dx H
 ay:∀ us∈bR,us.length<=1048576/\∀ u∈us,kK u
 len:bR.length<=1048576
 at_:a<=bR.length
theorem yr.ok {H:aD} {bR:List (List az)} {a:Nat} (h:yr H bR a) {e n:Int} (he:0<=e/\e<H.lex.entries.length) (hn:-1<=n/\n<H.lex.bM.length):BT H bR a ⟨e,n,[]⟩:=⟨h.ka,h.fit,he,hn,h.ay,h.len,h.at_⟩
theorem yr.all {H:aD} {bR:List (List az)} {a:Nat} (h:yr H bR a):((bR.drop a).take 12).length<=12/\∀ us∈(bR.drop a).take 12,us.length<=1048576/\∀ u∈us,kK u:=
 ⟨by rw [List.length_take];omega,fun us bd=>h.ay us (List.mem_of_mem_drop (List.mem_of_mem_take bd))⟩
theorem Am {α:Type} {k:Nat} {enc:α->List AV} {P:Program} {t:TypeId} {b o i d:Nat} {h:af} {L:List α} {x:α} {K:AV->Prop} (hk:∀ a,(enc a).length=k) (hd:d<=k) (hm:(b,Ob.vec (L.map enc).flatten)∈h) (ho:o=i*k+d) (hx:L[i]?=some x)
  (hl:gv P t ((enc x).drop d++((L.drop (i+1)).map enc).flatten) K):∃ cs l,(b,Ob.vec cs)∈h/\iR o cs=some l/\gv P t l K:=by
 obtain ⟨hi,iU⟩:=List.getElem?_eq_some_iff.1 hx;have hle:(i+1)*k<=L.length*k:=Nat.mul_le_mul_right k hi;rw [Nat.succ_mul] at hle;refine ⟨_,_,hm,Cd ?_,?_⟩
 ·rw [nC hk,ho];omega
 rw [ho,<- List.drop_drop,yu hk,List.drop_eq_getElem_cons hi,iU,List.map_cons,List.flatten_cons,List.drop_append,hk,Nat.sub_eq_zero_of_le hd,List.drop_zero];exact hl
theorem Uo (Wl:List ar) (i:Nat) (hi:i<=Wl.length):((Wl.take i).foldl (fx nz) []).length=i:=by have:=(EW (less:=nz) (l:=Wl.take i) (acc:=[])).length_eq;rw [this,List.append_nil,List.length_take,Nat.min_eq_left hi]
theorem Up (Wl:List ar) (i:Nat) (u:ar) (hu:Wl[i]?=some u):(Wl.take (i+1)).foldl (fx nz) []=fx nz ((Wl.take i).foldl (fx nz) []) u:=by rw [cN hu,List.foldl_append];rfl
def c48:av:=⟨[0,1,2,3,6,7,8,9,10,11,17,30,51,70,89],[],[],[],[(8,[0,1,2,3,4,5,6,7,8,9,10,11,12,13,14,15,16,17,18],[]),(9,[0,1,2,3,4,5,6,7,8,9,10],[]),(14,[0,1,2,3,4,5,6,7,8,9,10,11,12,13,14,15],[]),(16,[0,1,2,3,4,5,6,7,8,9,10,11,12,13,14,15,16,17],[])],[61]⟩
set_option maxHeartbeats 2000000 in
theorem Uq (H:aD) (bR:List (List az)) (a:Nat) (hE:yr H bR a) :
  aw Tryz.prog 48 [.agg (aZ H),.sl 1 none (bR.map eD),.int .i64 a] [] (fun v h'=>∃ hp Z,Row 7 bZ (qt H bR a) v hp/\h'=hp++Z):=by
 obtain ⟨vc,vd⟩:=hE.all;obtain ⟨bV,An⟩:∃ A,A=(bR.drop a).take 12:=⟨_,rfl⟩;have hm:=hE.ka.lex.many;rw [<- An] at vc vd;refine aA (F:=Tryz.f48) c48 rfl rfl rfl mixed rfl fun X=>?_;(conv=>whnf);skip;refine bD rfl mixed [1,2,3,7,8] [] (fun m r h=>∃ (i:Nat) (v:AV) (hp:af),r=[(1,[],.sl 1 none (bR.map eD)),(2,[],.int .i64 a),(3,[],.ai (aZ H)),(7,[],v),(8,[],.int .i64 i)]/\h=hp/\m=H.lex.entries.length - i/\i<=H.lex.entries.length/\Row 7 bZ (((List.range i).flatMap (ny H bV a)).take 2001) v hp) ?_ ?_
 ·(conv=>whnf);exact ⟨_,_,ah.nD (.cons (aa.refl _) (.cons (aa.refl _) (.cons (aa.refl _) (.cons wD (gT.refl _))))),_,0,.gu,[],rfl,rfl,rfl,by omega,.inl ⟨by simp,rfl,rfl⟩⟩
 rintro m r h' ⟨i,v,hp,rfl,rfl,rfl,hi,hr⟩;(conv=>whnf);skip;refine ⟨fun aG=>?_,fun aG=>?_⟩<;>simp at aG
 ·(conv=>whnf);skip;refine bD rfl mixed [1,2,3,7,8,9] [] (fun m r h=>∃ (k:Nat) (c:Int) (v:AV) (hp:af),r=[(1,[],.sl 1 none (bR.map eD)),(2,[],.int .i64 a),(3,[],.ai (aZ H)),(7,[],v),(8,[],.int .i64 i),(9,[],.int .i64 c)]/\h=hp/\m=H.lex.bM.length+1 - k/\c=(k:Int) - 1/\k<=H.lex.bM.length+1/\Row 7 bZ (((List.range i).flatMap (ny H bV a)++(List.range k).flatMap (ic H bV a i)).take 2001) v hp) ?_ ?_
  ·(conv=>whnf);exact ⟨_,_,ah.refl _ _,_,0,-1,_,_,rfl,rfl,rfl,rfl,by omega,by simpa using hr⟩
  clear hr;rintro m r h' ⟨k,c,v,hp,rfl,rfl,rfl,hc,hk,hr⟩;have bf:(List.range (k+1)).flatMap (ic H bV a i)=(List.range k).flatMap (ic H bV a i)++ic H bV a i k:=(by rw [List.range_succ,List.flatMap_append,List.flatMap_singleton]);obtain ⟨L,hL⟩:∃ L,L=((List.range i).flatMap (ny H bV a)++(List.range k).flatMap (ic H bV a i)).take 2001:=⟨_,rfl⟩;rw [<- hL] at hr;have qw:=hr;have lX:L.length<=2001:=by rw [hL,List.length_take];omega
  rcases hr with ⟨fg,rfl,rfl⟩|⟨fg,lb,rfl,rfl⟩
  all_goals
   (conv=>whnf);skip;refine ⟨fun dg=>?_,fun dg=>?_⟩<;>simp at dg
   ·have ga:c<H.lex.bM.length:=(by first|exact dg.1|exact dg);have yo:L.length<=2000:=(by first|omega|(rw [fg];simp));(conv=>whnf);repeat ((first|(refine rG (⟨0,[],[],0⟩:lC) ?_ ?_;(focus (conv=>whnf;skip));(focus (intro g0;have g0:=of_decide_eq_true g0;show 0<=_/\_<_;omega)))|(refine rG (⟨[],0,[],0⟩:kM) ?_ ?_;(focus (conv=>whnf;skip));(focus (intro g0;show 0<=_/\_<_;omega)))|refine And.intro (by show aJ (aH Tryz.f48 _) _=true;decide +kernel) ?_);conv=>whnf)
    refine ⟨fun hs=>?_,fun hs=>?_⟩
    ·have hs:wE H.lex i c=true:=hs;have yv:ic H bV a i k=[]:=by unfold ic;rw [<- hc,if_pos hs]
     rw [yv,List.append_nil] at bf;(conv=>whnf);repeat (refine ⟨ag ⟨by omega,by omega⟩,?_⟩;conv=>whnf)
     exact ⟨_,_,ah.refl _ _,_,(by omega),k+1,_,_,_,rfl,rfl,rfl,by omega,by omega,by rw [bf,<- hL];exact qw⟩
    have hs:wE H.lex i c=false:=hs;have yv:ic H bV a i k=df (dD H a i c) bV jj []:=by unfold ic;rw [<- hc,if_neg (by rw [hs];decide)]
    (conv=>whnf);repeat ((first|refine aY (Ur H ⟨i,c,[]⟩ hE.ka.lex ⟨by show (0:Int)<=i;omega,by show (i:Int)<H.lex.entries.length;omega⟩ ga trivial) ?_|refine And.intro (by show aJ (aH Tryz.f48 _) _=true;decide +kernel) ?_);conv=>whnf)
    refine aw.mono ?_ (Nj H bR a ⟨i,c,[]⟩ (hE.ok ⟨by omega,by omega⟩ ⟨by omega,ga⟩) bV jj [] L _ _ ⟨[],by rw [An];rfl,rfl⟩ (yw _) qw yo);intro v1 h1 hR;(conv=>whnf);repeat (refine ⟨ag ⟨by omega,by omega⟩,?_⟩;conv=>whnf)
    have hR:Row 7 bZ ((L++df (dD H a i c) bV jj []).take 2001) v1 h1:=hR;rw [hL,BW,<- yv,List.append_assoc,<- bf] at hR;exact ⟨_,_,ah.refl _ _,_,(by omega),k+1,_,_,_,rfl,rfl,rfl,(by show c+1=_;omega),by omega,hR⟩
   have dZ:((List.range (i+1)).flatMap (ny H bV a)).take 2001=L:=by
    rw [List.range_succ,List.flatMap_append,List.flatMap_singleton];have mA:ny H bV a i=(List.range k).flatMap (ic H bV a i)++((List.range (H.lex.bM.length+1)).drop k).flatMap (ic H bV a i):=by unfold ny;rw [<- List.flatMap_append];congr 1;have h1:List.range k=(List.range (H.lex.bM.length+1)).take k:=(by rw [List.take_range,Nat.min_eq_left hk]);rw [h1,List.take_append_drop]
    by_cases ea:k<H.lex.bM.length+1
    ·have ke:2001<=L.length:=(by first|omega|(rw [fg] at dg;simp at dg;omega));rw [mA,<- List.append_assoc,List.take_append_of_le_length (by rw [hL,List.length_take] at ke;omega),hL]
    rw [mA,List.drop_eq_nil_of_le (by simp;omega),List.flatMap_nil,List.append_nil,hL]
   (conv=>whnf);repeat (refine ⟨ag ⟨by omega,by omega⟩,?_⟩;conv=>whnf)
   exact ⟨_,_,ah.refl _ _,_,(by omega),i+1,_,_,rfl,rfl,rfl,by omega,by rw [dZ];exact qw⟩
 have bw:i=H.lex.entries.length:=(by omega);obtain ⟨Wl,EX⟩:∃ W,W=Al H bR a:=⟨_,rfl⟩;have EY:((List.range i).flatMap (ny H bV a)).take 2001=Wl:=by rw [EX,bw,An];rfl
 rw [EY] at hr;have Q1:Wl.length<=2001:=by rw [<- EY,List.length_take];omega
 have ve:∀ e∈Wl,BZ e.word:=fun e he=>Un hE.ka vc vd e (by rw [<- EY,bw] at he;exact List.mem_of_mem_take he);have yx:∀ e∈Wl,wF H a e:=fun e he=>EV hE.ka vc vd e (by rw [<- EY,bw] at he;exact List.mem_of_mem_take he);have Us:Wl.foldl (fx nz) []=lB Wl:=Nl Nn (fun x hx y hy h1 h2=>Np (yx x hx) (yx y hy) (zW.c.yy _ _ h1 h2));rcases hr with ⟨aM,rfl,rfl⟩|⟨aM,b,rfl,rfl⟩
 ·have Ao:qt H bR a=[]:=by unfold qt;rw [<- EX,aM];simp [lB,pz]
  rw [Ao];(conv=>whnf);skip;refine yz 60 rfl mixed ?_;(conv=>whnf);refine .inr ?_;(conv=>whnf);skip;refine cF rfl ?_;(conv=>whnf);skip;exact ⟨[],[],.inl ⟨rfl,rfl,rfl⟩,rfl⟩
 by_cases Ig:Wl.length<=2000
 ·have Ao:qt H bR a=lB Wl:=by unfold qt;rw [<- EX,if_pos Ig]
  rw [Ao];have eb:0<Wl.length:=List.length_pos_iff.2 aM;(conv=>whnf);skip;refine bS rfl mixed [7,10] [] (fun m r h=>∃ (i:Nat) (R:List ar),r=[(7,[],.aQ b 0 Wl.length 7),(10,[],.int .i64 i)]/\h=[(b,.vec (R.map bZ).flatten)]/\m=Wl.length - i/\1<=i/\i<=Wl.length/\R=(Wl.take i).foldl (fx nz) []++Wl.drop i) ?_ ?_
  ·(conv=>whnf);refine ⟨_,1,Wl,rfl,rfl,rfl,by omega,by omega,?_⟩;cases bT:Wl with
   | nil=>exact absurd bT aM
   | cons w t=>rfl
  rintro m r h ⟨i,R,rfl,rfl,rfl,Q2,hi,hR⟩;(conv=>whnf);skip;refine ⟨fun Nq=>?_,fun Nq=>?_⟩<;>simp at Nq
  ·obtain ⟨u,hu⟩:=aF (l:=Wl) (i:=i) (by omega);obtain ⟨S,hS⟩:∃ S,S=(Wl.take i).foldl (fx nz) []:=⟨_,rfl⟩;obtain ⟨tl,gf⟩:∃ t,t=Wl.drop (i+1):=⟨_,rfl⟩;have EZ:S.length=i:=by rw [hS];exact Uo Wl i hi
   have cz:(Wl.take (i+1)).foldl (fx nz) []=fx nz S u:=by rw [hS];exact Up Wl i u hu
   rw [<- hS,drop_cons hu,<- gf] at hR
   have Ut:∀ x,x∈S++u::tl->x∈Wl:=by
    intro x hx;have hp:=(EW (less:=nz) (l:=Wl.take i) (acc:=[]));rw [<- hS,List.append_nil] at hp;rcases List.mem_append.1 hx with hx|hx
    ·exact List.mem_of_mem_take (hp.mem_iff.1 hx)
    rcases List.mem_cons.1 hx with rfl|hx
    ·exact List.mem_of_getElem? hu
    rw [gf] at hx;exact List.mem_of_mem_drop hx
   (conv=>whnf);skip;refine bS rfl mixed [7,10,11] [] (fun m r h=>∃ (k:Nat) (R:List ar),r=[(7,[],.aQ b 0 Wl.length 7),(10,[],.int .i64 i),(11,[],.int .i64 k)]/\h=[(b,.vec (R.map bZ).flatten)]/\m=k/\k<=i/\R=S.take k++u::(S.drop k++tl)/\fx nz S u=fx nz (S.take k) u++S.drop k) ?_ ?_
   ·(conv=>whnf);exact ⟨_,i,R,rfl,rfl,rfl,by omega,by rw [hR,<- EZ];simp,by rw [<- EZ];simp⟩
   clear hR;rintro m r h ⟨k,R,rfl,rfl,rfl,hk,hR,hb⟩;have wG:R.length=Wl.length:=by rw [hR,gf];simp;omega
   have vf:R[m]?=some u:=by rw [hR];exact Ih (by rw [List.length_take];omega)
   obtain ⟨pv,kf⟩:=aF (l:=R) (i:=((m:Int) - 1).toNat) (by omega)
   have Nr:∀ x∈R,x∈Wl:=fun x hx=>Ut x (by
    rw [hR] at hx;rw [List.mem_append,List.mem_cons,List.mem_append] at hx;rw [List.mem_append,List.mem_cons];rcases hx with hx|hx|hx|hx
    ·exact .inl (List.mem_of_mem_take hx)
    ·exact .inr (.inl hx)
    ·exact .inl (List.mem_of_mem_drop hx)
    exact .inr (.inr hx))
   have Fa:=ve u (Nr u (List.mem_of_getElem? vf));have mA:=ve pv (Nr pv (List.mem_of_getElem? kf));(conv=>whnf);repeat ((first|refine ⟨ag ⟨by omega,by omega⟩,?_⟩|(refine fy (i:=m) (by omega) ?_)|(refine yA ?_ ?_;(focus (conv=>whnf;skip));(focus (intro g0;simp at g0;show 0<=_/\_<_;omega)))|(refine Am (d:=3) yq (by decide) (.head _) (congrArg (fun x=>x+3) (Nat.zero_add (m*7))) vf ?_)|(refine Am (d:=3) yq (by decide) (.head _) (congrArg (fun x=>x+3) (Nat.zero_add (((m:Int) - 1).toNat*7))) kf ?_)|refine aY (Uu u.word pv.word Fa mA) ?_|refine And.intro (by show aJ (aH Tryz.f48 _) _=true;decide +kernel) ?_);conv=>whnf)
   refine ⟨fun hq=>?_,fun hq=>?_⟩
   ·have hq:(decide (0<(m:Int))&&nz u pv)=true:=hq;rw [Bool.and_eq_true,decide_eq_true_eq] at hq;obtain ⟨c,hc,h1,h2⟩:=Ap (L:=S) (m:=m) (by omega) (by omega);have kN:pv=c:=by rw [show ((m:Int) - 1).toNat=m - 1 by omega,hR,h1,List.append_assoc,List.getElem?_append_right (by rw [List.length_take];omega),List.length_take,show m - 1 - min (m - 1) S.length=0 by omega] at kf;exact (Option.some.inj kf).symm
    subst kN;have Ce:R[m - 1]?=some pv:=(by rw [<- kf,show ((m:Int) - 1).toNat=m - 1 by omega]);have Cf:(R.set m pv).set (m - 1) u=S.take (m - 1)++u::(S.drop (m - 1)++tl):=by rw [hR,h1,h2];exact Ii (by rw [List.length_take];omega) (by omega)
    (conv=>whnf);repeat ((first|refine ⟨ag ⟨by omega,by omega⟩,?_⟩|(refine fy (i:=m) (by omega) ?_)|(refine ⟨m - 1,ag ⟨by omega,by omega⟩,?_⟩)|(refine fI yq (.head _) (Nat.zero_add _) vf ?_)|(refine fI yq (.head _) (Nat.zero_add _) Ce ?_)|(refine qx pv (by decide) yq (i:=m) (by omega) (Nat.zero_add _) rfl (.here _) ?_)|(refine qx u (by decide) yq (i:=m - 1) (by simp;omega) (Nat.zero_add _) rfl (.here _) ?_)|refine And.intro (by show aJ (aH Tryz.f48 _) _=true;decide +kernel) ?_);conv=>whnf)
    exact ⟨m - 1,by omega,m - 1,_,by rw [show (m:Int) - 1=((m - 1:Nat):Int) by omega],rfl,rfl,by omega,Cf,by rw [hb,h1,Ij hq.2,h2]⟩
   have hq:(decide (0<(m:Int))&&nz u pv)=false:=hq
   have dZ:R=fx nz S u++tl:=by
    rw [hb,hR];by_cases h0:m=0
    ·subst h0;rfl
    obtain ⟨c,hc,h1,h2⟩:=Ap (L:=S) (m:=m) (by omega) (by omega);have kN:pv=c:=by rw [show ((m:Int) - 1).toNat=m - 1 by omega,hR,h1,List.append_assoc,List.getElem?_append_right (by rw [List.length_take];omega),List.length_take,show m - 1 - min (m - 1) S.length=0 by omega] at kf;exact (Option.some.inj kf).symm
    subst kN;rw [h1,Ik (by rw [Bool.and_eq_false_iff,decide_eq_false_iff_not] at hq;rcases hq with hq|hq;omega;exact hq)];simp
   (conv=>whnf);repeat (refine ⟨ag ⟨by omega,by omega⟩,?_⟩;conv=>whnf)
   exact ⟨_,by omega,i+1,R,rfl,rfl,rfl,by omega,by omega,by rw [cz,dZ,gf]⟩
  have Uv:i=Wl.length:=(by omega);rw [Uv,List.take_length,List.drop_length,List.append_nil,Us] at hR;(conv=>whnf);skip;refine ⟨_,[],.inr ⟨?_,b,?_,rfl⟩,by rw [hR,List.append_nil]⟩
  ·intro h;have:=congrArg List.length h;rw [lB,sJ] at this;exact aM (List.eq_nil_of_length_eq_zero this)
  rw [lB,sJ]
 have Ao:qt H bR a=Wl:=by unfold qt;rw [<- EX,if_neg Ig]
 rw [Ao];(conv=>whnf);skip;refine yz 60 rfl mixed ?_;(conv=>whnf);refine .inr ?_;(conv=>whnf);skip;refine cF (by simp;omega) ?_;(conv=>whnf);skip;exact ⟨_,[],.inr ⟨aM,b,rfl,rfl⟩,(List.append_nil _).symm⟩
end Go.Abs.Wall
namespace Go.Abs.Wall
open Go Go.Abs Go.Proofs
def c47:av:=⟨[0,1,2,4,5,6,10],[],[],[],[(5,[0,1,2,3,4,5,6,7,8,9],[])],[]⟩
def c18:av:=⟨[0,1,2,3,6,7,8,9,14,20,27],[],[],[],[],[]⟩
def c12:av:=⟨[0,1,2,4,5,41],[],[5],[],[],[]⟩
def c92:av:=⟨[0,1,2,3,4],[],[],[],[],[]⟩
def c52:av:=⟨[0,1,2,3,4],[],[],[],[],[]⟩
theorem Uw (H:aD) (bR:List (List az)) (a:Nat) (hE:yr H bR a):ab Tryz.prog 48 [.agg (aZ H),.sl 1 none (bR.map eD),.int .i64 a] [] (.sl 7 none ((qt H bR a).map bZ)):=Row.ok (by decide) yq (Uq H bR a hE)
theorem Ux (H:aD) (line:List Int) (iE:dx H) (hL:Aq H line):ab Tryz.prog 47 [.agg (aZ H),.sl 1 none (ints line)] [] (.sl 1 none ((line.map (gM H)).map eD)):=by
 have dG:=hL.bB;refine ab.of (aA (F:=Tryz.f47) c47 rfl rfl rfl mixed rfl fun X=>?_);(conv=>whnf);skip;refine bD rfl mixed [1,2,5,6] [] (fun m r h=>∃ (i:Nat) (v:AV) (hp:af),r=[(1,[],.sl 1 none (ints line)),(2,[],.ai (aZ H)),(5,[],v),(6,[],.int .i64 i)]/\h=hp/\m=line.length - i/\i<=line.length/\Out 1 eD ((line.take i).map (gM H)) v hp) ?_ ?_
 ·(conv=>whnf);exact ⟨_,_,ah.refl _ _,_,0,_,_,rfl,rfl,rfl,by omega,.inl ⟨rfl,rfl,rfl⟩⟩
 rintro m r h' ⟨i,v,hp,rfl,rfl,rfl,hi,ho⟩;(conv=>whnf);skip;refine ⟨fun aG=>?_,fun aG=>?_⟩<;>simp at aG
 ·obtain ⟨n,hn⟩:=aF aG;have Cg:=hL.aK n (List.mem_of_getElem? hn);have cd:=cN hn;have lV:=Ns H n iE hL.ka Cg.1 Cg.2;rcases ho with ⟨he,rfl,rfl⟩|⟨q,rfl,rfl⟩
  all_goals
   (conv=>whnf);repeat ((first|refine ⟨ag ⟨by omega,by omega⟩,?_⟩|refine ix (by assumption) ?_|refine aY (lV) ?_|(refine ⟨Nat.le_of_ble_eq_true rfl,fun q'=>?_⟩)|(refine ⟨(by simp;unfold aN;omega),fun q'=>⟨_,.here _,?_⟩⟩)|refine And.intro (by show aJ (aH Tryz.f47 _) _=true;decide +kernel) ?_);conv=>whnf)
   refine ⟨_,_,ah.refl _ _,_,(by omega),i+1,_,_,rfl,rfl,rfl,by omega,.inr ⟨q',?_,rfl⟩⟩;rw [cd,List.map_append,List.map_append];first|done|rfl|(rw [he];done)|(rw [he];rfl)
 rw [List.take_of_length_le aG] at ho;(conv=>whnf);skip;exact ho.le (by decide)
theorem Uy {H:aD} {line:List Int} (iE:dx H) (hL:Aq H line) {a:Nat} (ha:a<=line.length):yr H (line.map (gM H)) a:=by have dG:=hL.bB;refine ⟨hL.ka,iE,fun us bd=>?_,by rw [List.length_map];omega,by rw [List.length_map];exact ha⟩;obtain ⟨n,hn,rfl⟩:=List.mem_map.1 bd;have Cg:=hL.aK n hn;have aV:=Fb (p:=H.period) ((sK hL.ka.qy).each _ (List.mem_of_getElem? (yB Cg.1 Cg.2)));exact ⟨by unfold gM;omega,aV.2⟩
theorem Nt (H:aD) (line:List Int) (a:Nat):Al H (line.map (gM H)) a=(mE H (oM H line a) a).take 2001:=by unfold Al oM;rw [List.map_take,List.map_drop]
def sL (H:aD) (line:List Int) (a:Int):Int:=
 if gN H line≠0 then gN H line else if bL a 0 line.length=false then 1 else if 2000<(ei H line a.toNat).length then 2 else 0
def yC (H:aD) (line:List Int) (a:Int):List ar:=if sL H line a=0 then ei H line a.toNat else []
theorem Nu (H:aD) (line:List Int) (a:Nat):(ei H line a).length=(mE H (oM H line a) a).length:=by unfold ei lB;rw [sJ]
theorem Uz {H:aD} {line:List Int} {a:Nat} (h:(ei H line a).length<=2000):qt H (line.map (gM H)) a=ei H line a:=by unfold qt;rw [Nt];rw [Nu] at h;rw [List.take_of_length_le (by omega),if_pos h];rfl
theorem UA {H:aD} {line:List Int} {a:Nat} (h:2000<(ei H line a).length):(qt H (line.map (gM H)) a).length=2001:=by
 unfold qt;rw [Nt];rw [Nu] at h;have:((mE H (oM H line a) a).take 2001).length=2001:=by rw [List.length_take];omega
 rw [if_neg (by omega),this]
theorem UB (H:aD) (line:List Int) (a:Int) (hf:dx H) (hl:line.length<=1048576) :
  ab Tryz.prog 18 [.agg (aZ H),.sl 1 none (ints line),.int .i64 a] [] (.aB [.sl 7 none ((yC H line a).map bZ),.int .i64 (sL H line a)]):=by
 refine ab.of ?_;refine aA (F:=Tryz.f18) c18 rfl rfl rfl mixed rfl fun X=>?_;(conv=>whnf);repeat (refine ab.k0 (Nv H line hf (by unfold aq;omega)) ?_;conv=>whnf)
 refine ⟨fun h1=>?_,fun h1=>?_⟩<;>simp at h1
 ·have he:sL H line a=gN H line:=(by rw [sL,if_pos h1]);(conv=>whnf);skip;rw [yC,he,if_neg h1];exact aa.aB (.cons (aa.nil (by decide)) (.cons (aa.refl _) .nil))
 have hL:=Ar h1;(conv=>whnf);repeat (refine ab.k0 (within _ _ _) ?_;conv=>whnf)
 refine ⟨fun h2=>?_,fun h2=>?_⟩
 ·have h2:(!bL a 0 ((ints line).length:Int))=true:=h2;rw [cO,Bool.not_eq_true'] at h2;have he:sL H line a=1:=(by rw [sL,if_neg (by omega),if_pos h2]);(conv=>whnf);skip;rw [yC,he,if_neg (by decide)];exact aa.aB (.cons (aa.nil (by decide)) (.cons (aa.refl _) .nil))
 have h2:(!bL a 0 ((ints line).length:Int))=false:=h2;rw [cO,Bool.not_eq_false',dL] at h2;obtain ⟨n,rfl⟩:∃ n:Nat,a=(n:Int):=⟨a.toNat,by omega⟩;have Fc:sL H line n=if 2000<(ei H line n).length then 2 else 0:=by rw [sL,if_neg (by omega),if_neg (by rw [Bool.not_eq_false,dL];omega)];rfl
 (conv=>whnf);repeat (refine ab.k0 (Nw H line n 2000 hL.ka hf hL.aK hl (by omega) (by decide)) ?_;conv=>whnf)
 by_cases hb:(ei H line n).length<=2000
 ·rw [if_neg (by omega)] at Fc;rw [Nx hb];refine cF (by simp;omega) ?_;(conv=>whnf);skip;rw [yC,Fc,if_pos rfl];exact aa.refl _
 rw [if_pos (by omega)] at Fc;have Il:=Ny (H:=H) (line:=line) (at_:=n) (most:=2000) (by omega);refine cT (by rw [List.length_map,Il];decide) ?_;(conv=>whnf);skip;rw [yC,Fc,if_neg (by decide)];exact aa.aB (.cons (aa.nil (by decide)) (.cons (aa.refl _) .nil))
end Go.Abs.Wall
namespace Go.Abs.Wall
open Go Go.Abs Go.Proofs
def Ch (H:aD) (line:List Int):Bool:=
 if ((decide (60<(H.lex.entries.length:Int))&&decide ((H.lex.entries.length:Int)<=200))||(decide (12<(H.lex.bM.length:Int))&&decide ((H.lex.bM.length:Int)<=40))||(decide (6<(H.lex.ao.length:Int))&&decide ((H.lex.ao.length:Int)<=10)))=true then true
 else decide (16<(line.length:Int))&&decide ((line.length:Int)<=60)
theorem UC (H:aD) (line:List Int):ab Tryz.prog 12 [.agg (aZ H),.sl 1 none (ints line)] [] (.bool (Ch H line)):=by
 obtain ⟨b,hb⟩:∃ b,b=Ch H line:=⟨_,rfl⟩;rw [<- hb];unfold Ch at hb;rw [<- List.length_map (f:=fi),<- List.length_map (f:=iV),<- List.length_map (f:=gU),<- cO] at hb;refine aA (F:=Tryz.f12) c12 rfl rfl rfl mixed rfl fun X=>?_;(conv=>whnf);intro b5;(conv=>whnf);repeat (refine ⟨_,_,bj.here _,⟨Nat.le_of_ble_eq_true rfl,rfl⟩,?_⟩;conv=>whnf)
 refine ⟨fun hq=>?_,fun hq=>?_⟩
 ·rw [if_pos hq] at hb;(conv=>whnf);exact ⟨by rw [hb],rfl⟩
 rw [if_neg (by rw [show _=false from hq];decide)] at hb;(conv=>whnf);skip;exact ⟨by rw [hb],rfl⟩
theorem UD (a b:br) (ha:a.ao.length<=aq) (hb:b.ao.length<=aq):ab Tryz.prog 92 [.agg (dt a),.agg (dt b)] [] (.bool (decide (a=b))):=by
 refine aA (F:=Tryz.f92) c92 rfl rfl rfl mixed rfl fun X=>?_;(conv=>whnf);repeat (refine aY (Im a.ao b.ao ha hb) ?_;conv=>whnf)
 refine ⟨congrArg AV.bool ?_,rfl⟩;rw [Bool.eq_iff_iff];obtain ⟨a1,a2,a3⟩:=a;obtain ⟨b1,b2,b3⟩:=b;simp [and_assoc]
theorem UE (a b:eJ) (ha:nE a) (hb:nE b):ab Tryz.prog 52 [.agg (cG a),.agg (cG b)] [] (.bool (decide (a=b))):=by
 have h1:=ha.cl;have h2:=ha.us;have h3:=hb.cl;have h4:=hb.us;refine aA (F:=Tryz.f52) c52 rfl rfl rfl mixed rfl fun X=>?_;(conv=>whnf);repeat ((first|refine ab.k0 (UD a.form b.form (by unfold aq;omega) (by unfold aq;omega)) ?_|refine aY (UF a.ay b.ay (by unfold aq;omega) (by unfold aq;omega)) ?_);conv=>whnf)
 refine ⟨congrArg AV.bool ?_,rfl⟩;rw [Bool.eq_iff_iff];obtain ⟨a1,a2⟩:=a;obtain ⟨b1,b2⟩:=b;simp
end Go.Abs.Wall
