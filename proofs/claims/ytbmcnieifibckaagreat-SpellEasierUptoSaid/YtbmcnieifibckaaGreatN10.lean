/- What is proved: small laws for the walks of this seat, and contracts of its functions. No condition but those each theorem names. -/
import Derived.Test.YtbmcnieifibckaaGreatN9
import Derived.Test.YtbmcnieifibckaaGreatN8
set_option maxRecDepth 100000
set_option maxHeartbeats 2000000
set_option linter.unusedVariables false
set_option linter.unusedSimpArgs false
namespace Go.Abs.Wall
open Go Go.Abs Go.Proofs
structure TabOK (H:Hou) (tbl:List (List Use)) (a:Nat) (f:Frm):Prop where
 hou:HouOK H
 fit:HouFit H
 entry:0≤f.entry∧f.entry<H.lex.entries.length
 ending:-1≤f.ending∧f.ending<H.lex.endings.length
 uses:∀ us∈tbl,us.length≤1048576∧∀ u∈us,UseOK u
 len:tbl.length≤1048576
 at_:a≤tbl.length
def CollC (H:Hou) (tbl:List (List Use)) (a:Nat) (f:Frm) (rest:List (List Use)):Prop:=
 ∀ (p:Prg) (T:List Use) (L:List Edg) (v:AV) (hp:Heap),(∃ pre,(tbl.drop a).take 12=pre++rest∧pre.length=T.length)→HOK (spOf H f) p T→Row 7 encEdg L v hp→L.length≤2000 →
  ACalls Tryz.prog 211 [.agg (encHou H),.sl 1 none (tbl.map encUses),.int .i64 a,.agg (encHlf (hfOf (spOf H f) f p T)),v] hp
   (fun v' h'=>Row 7 encEdg ((L++wordsF (envAt H a f.entry f.ending) rest p T).take 2001) v' h')
def c211:Cfg:=⟨[0,1,2,3,4,5,8,10,11,12,13,14,15,17,51,59,81],[],[11],[],[(3,[0,1,2,3,4,5,6,7,8,9,10,11,12,13,14],[]),(10,[0,1,2,3,4,5,6,7,8,9,10,11],[]),(14,[0,1,2,3,4,5,6,7,8,9],[])],[92]⟩
theorem TabOK.sp {H:Hou} {tbl:List (List Use)} {a:Nat} {f:Frm} (h:TabOK H tbl a f):SpOK (spOf H f):=spAt (at_:=0) h.hou h.entry.1 h.entry.2 h.ending.2
set_option maxHeartbeats 2000000 in
theorem collectOne (H:Hou) (tbl:List (List Use)) (a:Nat) (f:Frm) (hE:TabOK H tbl a f) (rest:List (List Use)) (IH:∀ us r,rest=us::r→CollC H tbl a f r):CollC H tbl a f rest:=by
 intro p T L v hp hpre hp' hL hLm
 obtain ⟨pre,hA,hpl⟩:=hpre
 have hAl:=congrArg List.length hA
 rw [List.length_append,List.length_take,List.length_drop] at hAl
 have hs:=hE.sp
 have hTl:=hp'.few
 have hpf:=hp'.ok.few
 have htl:=hE.len
 have hat:=hE.at_
 have hu2:(((hfOf (spOf H f) f p T).uses.map encUse).length:Int)=(T.length:Int):=by rw [List.length_map];rfl
 obtain ⟨W0,hW0⟩:∃ W0,W0=(L++wordsF (envAt H a f.entry f.ending) rest p T).take 2001:=⟨_,rfl⟩
 rw [← hW0]
 have hwh:=wholeA (spOf H f) f p T hp'
 refine fcalls (F:=Tryz.f211) c211 rfl rfl rfl mixed rfl fun X=>?_
 conv=>whnf
 repeat (refine QCall.k0 (hwh) ?_;conv=>whnf)
 refine ⟨fun hq=>?_,fun hq=>?_⟩
 ·have hq:(endsM (spOf H f) p&&decide (0<(T.length:Int)))=true:=hq
  have hh:headW (envAt H a f.entry f.ending) p T=[mkEdge (envAt H a f.entry f.ending) p T]:=by unfold headW;rw [Bool.and_comm] at hq;exact if_pos hq
  obtain ⟨L1,hLe⟩:∃ L1,L1=L++[mkEdge (envAt H a f.entry f.ending) p T]:=⟨_,rfl⟩
  have hL1m:L1.length≤2001:=by rw [hLe,List.length_append,List.length_singleton];omega
  have hW:W0=(L1++wordsR (envAt H a f.entry f.ending) rest p T).take 2001:=by
   rw [hW0]
   unfold wordsF
   rw [hh,hLe,List.append_assoc]
  have hco:=refCost H ⟨⟨f.entry,f.ending,p.cl⟩,T⟩ hE.fit.lex hE.hou (by show p.cl.length≤LMAX;unfold LMAX;omega) hE.entry (by show T.length≤1048576;omega)
  rcases hL with ⟨hLn,rfl,rfl⟩|⟨hLn,lb,rfl,rfl⟩
  ·conv=>whnf
   repeat ((first|refine ⟨gP_of ⟨by omega,by omega⟩,?_⟩|(intro (b11:Nat))|refine gcall (hco) ?_|(refine ⟨⟨Nat.le_of_ble_eq_true rfl,Nat.le_of_ble_eq_true rfl⟩,fun b4=>?_⟩)|refine ⟨_,_,Rem.here _,⟨Nat.le_of_ble_eq_true rfl,rfl⟩,?_⟩|refine And.intro (by show drawOK (opsAt Tryz.f211 _) _=true;decide +kernel) ?_);conv=>whnf)
   rw [hu2]
   have hL1:Row 7 encEdg L1 (.osl b4 0 1 7) [(b4,.vec (encEdg (mkEdge (envAt H a f.entry f.ending) p T)++[]))]:=by
    rw [hLe,hLn]
    exact .inr ⟨by simp,b4,rfl,by simp⟩
   refine ⟨fun hz=>?_,fun hz=>?_⟩
   ·have hz:(decide (((a:Int)+(T.length:Int))=((tbl.map encUses).length:Int))||decide ((T.length:Int)=12))=true:=hz
    rw [List.length_map] at hz
    simp only [Bool.or_eq_true,decide_eq_true_eq] at hz
    have hr:rest=[]:=List.eq_nil_of_length_eq_zero (by omega)
    rw [hr,show wordsR (envAt H a f.entry f.ending) [] p T=[] from rfl,List.append_nil,List.take_of_length_le hL1m] at hW
    conv=>whnf
    skip
    rw [hW]
    exact hL1
   ·have hz:(decide (((a:Int)+(T.length:Int))=((tbl.map encUses).length:Int))||decide ((T.length:Int)=12))=false:=hz
    rw [List.length_map] at hz
    simp only [Bool.or_eq_false_iff,decide_eq_false_iff_not] at hz
    obtain ⟨us,rest',hr⟩:∃ us r,rest=us::r:=by
     cases rest with
     | nil=>simp at hAl;omega
     | cons us r=>exact ⟨us,r,rfl⟩
    have hus:tbl[a+T.length]?=some us:=by
     have h1:((tbl.drop a).take 12)[T.length]?=some us:=by rw [hA,hr,← hpl];simp
     rw [List.getElem?_take] at h1
     split at h1
     ·rwa [List.getElem?_drop] at h1
     ·cases h1
    obtain ⟨hub,huo⟩:=hE.uses us (List.mem_of_getElem? hus)
    have hT12:T.length<12:=by rw [hr,List.length_cons] at hAl;omega
    have IH:=IH us rest' hr
    have hwr:wordsR (envAt H a f.entry f.ending) rest p T=us.flatMap fun u=>(nextM (spOf H f) p u).flatMap fun q=>wordsF (envAt H a f.entry f.ending) rest' q (T++[u]):=by rw [hr];rfl
    rw [hwr] at hW
    conv=>whnf
    skip
    refine tloop rfl mixed [1,2,4,5,8,12,13] [] (fun m r h=>∃ (k:Nat) (L2:List Edg) (v:AV) (hp:Heap),r=[(1,[],.sl 1 none (tbl.map encUses)),(2,[],.int .i64 a),(4,[],v),(5,[],.iptr (encHou H)),(8,[],.iptr (encHlf (hfOf (spOf H f) f p T))),(12,[],.int .i64 ((a:Int)+(T.length:Int))),(13,[],.int .i64 k)]∧h=hp∧m=us.length - k∧k≤us.length∧Row 7 encEdg L2 v hp∧L2.length≤2001∧W0=(L2++(us.drop k).flatMap fun u=>(nextM (spOf H f) p u).flatMap fun q=>wordsF (envAt H a f.entry f.ending) rest' q (T++[u])).take 2001) ?_ ?_
    ·conv=>whnf
     exact ⟨_,_,Turn.refl _ _,_,0,L1,_,_,rfl,rfl,rfl,by omega,hL1,hL1m,by rw [List.drop_zero];exact hW⟩
    ·clear hL1 hL1m hW
     rintro m r h' ⟨k,L2,v,hp,rfl,rfl,rfl,hk,hL2,hL2m,hW2⟩
     conv=>whnf
     repeat (refine ix (by assumption) ?_;conv=>whnf)
     refine ⟨fun hi2=>?_,fun hi2=>?_⟩<;>simp at hi2
     ·obtain ⟨u,hu⟩:=get_lt hi2
      have huk:=huo u (List.mem_of_getElem? hu)
      rw [drop_cons hu,List.flatMap_cons] at hW2
      have hnx:=nextM_hok hs hp' huk hT12
      have hnl:=nextM_len hs p u
      have hfo:=followA (spOf H f) f p T u hs hp' huk rfl hE.entry
      conv=>whnf
      repeat ((first|refine ix (by assumption) ?_|refine gcall (hfo) ?_|refine And.intro (by show drawOK (opsAt Tryz.f211 _) _=true;decide +kernel) ?_);conv=>whnf)
      refine tloop rfl mixed [1,2,4,5,8,12,13,14,15] [] (fun m r h=>∃ (j:Nat) (L3:List Edg) (v:AV) (hp:Heap),r=[(1,[],.sl 1 none (tbl.map encUses)),(2,[],.int .i64 a),(4,[],v),(5,[],.iptr (encHou H)),(8,[],.iptr (encHlf (hfOf (spOf H f) f p T))),(12,[],.int .i64 ((a:Int)+(T.length:Int))),(13,[],.int .i64 k),(14,[],.sl 8 none ((nextM (spOf H f) p u).map fun q=>encHlf (hfOf (spOf H f) f q (T++[u])))),(15,[],.int .i64 j)]∧h=hp∧m=(nextM (spOf H f) p u).length - j∧j≤(nextM (spOf H f) p u).length∧Row 7 encEdg L3 v hp∧L3.length≤2001∧W0=(L3++(((nextM (spOf H f) p u).drop j).flatMap (fun q=>wordsF (envAt H a f.entry f.ending) rest' q (T++[u]))++(us.drop (k+1)).flatMap fun u=>(nextM (spOf H f) p u).flatMap fun q=>wordsF (envAt H a f.entry f.ending) rest' q (T++[u]))).take 2001) ?_ ?_
      ·conv=>whnf
       exact ⟨_,_,Turn.refl _ _,_,0,L2,_,_,rfl,rfl,rfl,by omega,hL2,hL2m,hW2⟩
      ·clear hL2 hL2m hW2
       rintro m r h' ⟨j,L3,v,hp,rfl,rfl,rfl,hj,hL3,hL3m,hW3⟩
       have hL3':=hL3
       rcases hL3 with ⟨hLe3,rfl,rfl⟩|⟨hLe3,l3,rfl,rfl⟩
       all_goals
        conv=>whnf
        skip
        refine ⟨fun hj2=>?_,fun hj2=>?_⟩<;>simp at hj2
        ·obtain ⟨q,hq⟩:=get_lt (l:=nextM (spOf H f) p u) (i:=j) (by omega)
         have hqo:=hnx q (List.mem_of_getElem? hq)
         rw [drop_cons hq,List.flatMap_cons,List.append_assoc] at hW3
         have hL3l:L3.length≤2000:=by first|omega|(rw [hLe3];simp)
         conv=>whnf
         repeat ((first|refine ix (by assumption) ?_|refine And.intro (by show drawOK (opsAt Tryz.f211 _) _=true;decide +kernel) ?_);conv=>whnf)
         refine ACalls.mono ?_ (IH q (T++[u]) L3 _ _ ⟨pre++[us],by rw [hA,hr];simp,by simp [hpl]⟩ hqo hL3' hL3l)
         intro v1 h1 hR
         conv=>whnf
         repeat (refine ⟨gP_of ⟨by omega,by omega⟩,?_⟩;conv=>whnf)
         exact ⟨_,_,Turn.refl _ _,_,(by omega),j+1,_,v1,h1,rfl,rfl,rfl,by omega,hR,by rw [List.length_take];omega,by rw [hW3,take_app1,List.append_assoc]⟩
        ·have hW4:W0=(L3++(us.drop (k+1)).flatMap fun u=>(nextM (spOf H f) p u).flatMap fun q=>wordsF (envAt H a f.entry f.ending) rest' q (T++[u])).take 2001:=by
          by_cases hjl:j<(nextM (spOf H f) p u).length
          ·have hL3l:2001≤L3.length:=by first|omega|(exact absurd hjl (by omega))
           rw [hW3,List.take_append_of_le_length hL3l,List.take_append_of_le_length hL3l]
          ·rw [hW3,drop_nil (by omega),List.flatMap_nil,List.nil_append]
         conv=>whnf
         repeat (refine ⟨gP_of ⟨by omega,by omega⟩,?_⟩;conv=>whnf)
         exact ⟨_,_,Turn.refl _ _,_,(by omega),k+1,L3,_,_,rfl,rfl,rfl,by omega,hL3',hL3m,hW4⟩
     ·rw [drop_nil hi2,List.flatMap_nil,List.append_nil,List.take_of_length_le hL2m] at hW2
      conv=>whnf
      skip
      rw [hW2]
      exact hL2
  ·have hLb:L.length+1≤AMAX:=by unfold AMAX;omega
   conv=>whnf
   repeat ((first|refine ⟨gP_of ⟨by omega,by omega⟩,?_⟩|(intro (b11:Nat))|refine gcall (hco) ?_|(refine ⟨_,.head _,⟨enc_len (fun _=>rfl),hLb⟩,fun b4=>⟨_,.here _,?_⟩⟩)|refine ⟨_,_,Rem.here _,⟨Nat.le_of_ble_eq_true rfl,rfl⟩,?_⟩|refine And.intro (by show drawOK (opsAt Tryz.f211 _) _=true;decide +kernel) ?_);conv=>whnf)
   rw [hu2]
   have hL1:Row 7 encEdg L1 (.osl b4 0 (L.length+1) 7) [(b4,.vec ((L.map encEdg).flatten++(encEdg (mkEdge (envAt H a f.entry f.ending) p T)++[])))]:=by
    rw [hLe]
    exact .inr ⟨by simp,b4,by rw [List.length_append];rfl,by rw [List.map_append,List.flatten_append];rfl⟩
   refine ⟨fun hz=>?_,fun hz=>?_⟩
   ·have hz:(decide (((a:Int)+(T.length:Int))=((tbl.map encUses).length:Int))||decide ((T.length:Int)=12))=true:=hz
    rw [List.length_map] at hz
    simp only [Bool.or_eq_true,decide_eq_true_eq] at hz
    have hr:rest=[]:=List.eq_nil_of_length_eq_zero (by omega)
    rw [hr,show wordsR (envAt H a f.entry f.ending) [] p T=[] from rfl,List.append_nil,List.take_of_length_le hL1m] at hW
    conv=>whnf
    skip
    rw [hW]
    exact hL1
   ·have hz:(decide (((a:Int)+(T.length:Int))=((tbl.map encUses).length:Int))||decide ((T.length:Int)=12))=false:=hz
    rw [List.length_map] at hz
    simp only [Bool.or_eq_false_iff,decide_eq_false_iff_not] at hz
    obtain ⟨us,rest',hr⟩:∃ us r,rest=us::r:=by
     cases rest with
     | nil=>simp at hAl;omega
     | cons us r=>exact ⟨us,r,rfl⟩
    have hus:tbl[a+T.length]?=some us:=by
     have h1:((tbl.drop a).take 12)[T.length]?=some us:=by rw [hA,hr,← hpl];simp
     rw [List.getElem?_take] at h1
     split at h1
     ·rwa [List.getElem?_drop] at h1
     ·cases h1
    obtain ⟨hub,huo⟩:=hE.uses us (List.mem_of_getElem? hus)
    have hT12:T.length<12:=by rw [hr,List.length_cons] at hAl;omega
    have IH:=IH us rest' hr
    have hwr:wordsR (envAt H a f.entry f.ending) rest p T=us.flatMap fun u=>(nextM (spOf H f) p u).flatMap fun q=>wordsF (envAt H a f.entry f.ending) rest' q (T++[u]):=by rw [hr];rfl
    rw [hwr] at hW
    conv=>whnf
    skip
    refine tloop rfl mixed [1,2,4,5,8,12,13] [] (fun m r h=>∃ (k:Nat) (L2:List Edg) (v:AV) (hp:Heap),r=[(1,[],.sl 1 none (tbl.map encUses)),(2,[],.int .i64 a),(4,[],v),(5,[],.iptr (encHou H)),(8,[],.iptr (encHlf (hfOf (spOf H f) f p T))),(12,[],.int .i64 ((a:Int)+(T.length:Int))),(13,[],.int .i64 k)]∧h=hp∧m=us.length - k∧k≤us.length∧Row 7 encEdg L2 v hp∧L2.length≤2001∧W0=(L2++(us.drop k).flatMap fun u=>(nextM (spOf H f) p u).flatMap fun q=>wordsF (envAt H a f.entry f.ending) rest' q (T++[u])).take 2001) ?_ ?_
    ·conv=>whnf
     exact ⟨_,_,Turn.refl _ _,_,0,L1,_,_,rfl,rfl,rfl,by omega,hL1,hL1m,by rw [List.drop_zero];exact hW⟩
    ·clear hL1 hL1m hW
     rintro m r h' ⟨k,L2,v,hp,rfl,rfl,rfl,hk,hL2,hL2m,hW2⟩
     conv=>whnf
     repeat (refine ix (by assumption) ?_;conv=>whnf)
     refine ⟨fun hi2=>?_,fun hi2=>?_⟩<;>simp at hi2
     ·obtain ⟨u,hu⟩:=get_lt hi2
      have huk:=huo u (List.mem_of_getElem? hu)
      rw [drop_cons hu,List.flatMap_cons] at hW2
      have hnx:=nextM_hok hs hp' huk hT12
      have hnl:=nextM_len hs p u
      have hfo:=followA (spOf H f) f p T u hs hp' huk rfl hE.entry
      conv=>whnf
      repeat ((first|refine ix (by assumption) ?_|refine gcall (hfo) ?_|refine And.intro (by show drawOK (opsAt Tryz.f211 _) _=true;decide +kernel) ?_);conv=>whnf)
      refine tloop rfl mixed [1,2,4,5,8,12,13,14,15] [] (fun m r h=>∃ (j:Nat) (L3:List Edg) (v:AV) (hp:Heap),r=[(1,[],.sl 1 none (tbl.map encUses)),(2,[],.int .i64 a),(4,[],v),(5,[],.iptr (encHou H)),(8,[],.iptr (encHlf (hfOf (spOf H f) f p T))),(12,[],.int .i64 ((a:Int)+(T.length:Int))),(13,[],.int .i64 k),(14,[],.sl 8 none ((nextM (spOf H f) p u).map fun q=>encHlf (hfOf (spOf H f) f q (T++[u])))),(15,[],.int .i64 j)]∧h=hp∧m=(nextM (spOf H f) p u).length - j∧j≤(nextM (spOf H f) p u).length∧Row 7 encEdg L3 v hp∧L3.length≤2001∧W0=(L3++(((nextM (spOf H f) p u).drop j).flatMap (fun q=>wordsF (envAt H a f.entry f.ending) rest' q (T++[u]))++(us.drop (k+1)).flatMap fun u=>(nextM (spOf H f) p u).flatMap fun q=>wordsF (envAt H a f.entry f.ending) rest' q (T++[u]))).take 2001) ?_ ?_
      ·conv=>whnf
       exact ⟨_,_,Turn.refl _ _,_,0,L2,_,_,rfl,rfl,rfl,by omega,hL2,hL2m,hW2⟩
      ·clear hL2 hL2m hW2
       rintro m r h' ⟨j,L3,v,hp,rfl,rfl,rfl,hj,hL3,hL3m,hW3⟩
       have hL3':=hL3
       rcases hL3 with ⟨hLe3,rfl,rfl⟩|⟨hLe3,l3,rfl,rfl⟩
       all_goals
        conv=>whnf
        skip
        refine ⟨fun hj2=>?_,fun hj2=>?_⟩<;>simp at hj2
        ·obtain ⟨q,hq⟩:=get_lt (l:=nextM (spOf H f) p u) (i:=j) (by omega)
         have hqo:=hnx q (List.mem_of_getElem? hq)
         rw [drop_cons hq,List.flatMap_cons,List.append_assoc] at hW3
         have hL3l:L3.length≤2000:=by first|omega|(rw [hLe3];simp)
         conv=>whnf
         repeat ((first|refine ix (by assumption) ?_|refine And.intro (by show drawOK (opsAt Tryz.f211 _) _=true;decide +kernel) ?_);conv=>whnf)
         refine ACalls.mono ?_ (IH q (T++[u]) L3 _ _ ⟨pre++[us],by rw [hA,hr];simp,by simp [hpl]⟩ hqo hL3' hL3l)
         intro v1 h1 hR
         conv=>whnf
         repeat (refine ⟨gP_of ⟨by omega,by omega⟩,?_⟩;conv=>whnf)
         exact ⟨_,_,Turn.refl _ _,_,(by omega),j+1,_,v1,h1,rfl,rfl,rfl,by omega,hR,by rw [List.length_take];omega,by rw [hW3,take_app1,List.append_assoc]⟩
        ·have hW4:W0=(L3++(us.drop (k+1)).flatMap fun u=>(nextM (spOf H f) p u).flatMap fun q=>wordsF (envAt H a f.entry f.ending) rest' q (T++[u])).take 2001:=by
          by_cases hjl:j<(nextM (spOf H f) p u).length
          ·have hL3l:2001≤L3.length:=by first|omega|(exact absurd hjl (by omega))
           rw [hW3,List.take_append_of_le_length hL3l,List.take_append_of_le_length hL3l]
          ·rw [hW3,drop_nil (by omega),List.flatMap_nil,List.nil_append]
         conv=>whnf
         repeat (refine ⟨gP_of ⟨by omega,by omega⟩,?_⟩;conv=>whnf)
         exact ⟨_,_,Turn.refl _ _,_,(by omega),k+1,L3,_,_,rfl,rfl,rfl,by omega,hL3',hL3m,hW4⟩
     ·rw [drop_nil hi2,List.flatMap_nil,List.append_nil,List.take_of_length_le hL2m] at hW2
      conv=>whnf
      skip
      rw [hW2]
      exact hL2
 ·have hq:(endsM (spOf H f) p&&decide (0<(T.length:Int)))=false:=hq
  have hh:headW (envAt H a f.entry f.ending) p T=[]:=by unfold headW;rw [Bool.and_comm] at hq;exact if_neg (by rw [show (decide (0<(T.length:Int))&&endsM (envAt H a f.entry f.ending).s p)=false from hq];decide)
  obtain ⟨L1,hLe⟩:∃ L1,L1=L:=⟨_,rfl⟩
  have hL1:=hL
  have hL1m:L1.length≤2001:=by rw [hLe];omega
  rw [← hLe] at hL1
  have hW:W0=(L1++wordsR (envAt H a f.entry f.ending) rest p T).take 2001:=by
   rw [hW0]
   unfold wordsF
   rw [hh,hLe,List.nil_append]
  conv=>whnf
  repeat (refine ⟨gP_of ⟨by omega,by omega⟩,?_⟩;conv=>whnf)
  rw [hu2]
  clear hL
  refine ⟨fun hz=>?_,fun hz=>?_⟩
  ·have hz:(decide (((a:Int)+(T.length:Int))=((tbl.map encUses).length:Int))||decide ((T.length:Int)=12))=true:=hz
   rw [List.length_map] at hz
   simp only [Bool.or_eq_true,decide_eq_true_eq] at hz
   have hr:rest=[]:=List.eq_nil_of_length_eq_zero (by omega)
   rw [hr,show wordsR (envAt H a f.entry f.ending) [] p T=[] from rfl,List.append_nil,List.take_of_length_le hL1m] at hW
   conv=>whnf
   skip
   rw [hW]
   exact hL1
  ·have hz:(decide (((a:Int)+(T.length:Int))=((tbl.map encUses).length:Int))||decide ((T.length:Int)=12))=false:=hz
   rw [List.length_map] at hz
   simp only [Bool.or_eq_false_iff,decide_eq_false_iff_not] at hz
   obtain ⟨us,rest',hr⟩:∃ us r,rest=us::r:=by
    cases rest with
    | nil=>simp at hAl;omega
    | cons us r=>exact ⟨us,r,rfl⟩
   have hus:tbl[a+T.length]?=some us:=by
    have h1:((tbl.drop a).take 12)[T.length]?=some us:=by rw [hA,hr,← hpl];simp
    rw [List.getElem?_take] at h1
    split at h1
    ·rwa [List.getElem?_drop] at h1
    ·cases h1
   obtain ⟨hub,huo⟩:=hE.uses us (List.mem_of_getElem? hus)
   have hT12:T.length<12:=by rw [hr,List.length_cons] at hAl;omega
   have IH:=IH us rest' hr
   have hwr:wordsR (envAt H a f.entry f.ending) rest p T=us.flatMap fun u=>(nextM (spOf H f) p u).flatMap fun q=>wordsF (envAt H a f.entry f.ending) rest' q (T++[u]):=by rw [hr];rfl
   rw [hwr] at hW
   conv=>whnf
   skip
   refine tloop rfl mixed [1,2,4,5,8,12,13] [] (fun m r h=>∃ (k:Nat) (L2:List Edg) (v:AV) (hp:Heap),r=[(1,[],.sl 1 none (tbl.map encUses)),(2,[],.int .i64 a),(4,[],v),(5,[],.iptr (encHou H)),(8,[],.iptr (encHlf (hfOf (spOf H f) f p T))),(12,[],.int .i64 ((a:Int)+(T.length:Int))),(13,[],.int .i64 k)]∧h=hp∧m=us.length - k∧k≤us.length∧Row 7 encEdg L2 v hp∧L2.length≤2001∧W0=(L2++(us.drop k).flatMap fun u=>(nextM (spOf H f) p u).flatMap fun q=>wordsF (envAt H a f.entry f.ending) rest' q (T++[u])).take 2001) ?_ ?_
   ·conv=>whnf
    exact ⟨_,_,Turn.refl _ _,_,0,L1,_,_,rfl,rfl,rfl,by omega,hL1,hL1m,by rw [List.drop_zero];exact hW⟩
   ·clear hL1 hL1m hW
    rintro m r h' ⟨k,L2,v,hp,rfl,rfl,rfl,hk,hL2,hL2m,hW2⟩
    conv=>whnf
    repeat (refine ix (by assumption) ?_;conv=>whnf)
    refine ⟨fun hi2=>?_,fun hi2=>?_⟩<;>simp at hi2
    ·obtain ⟨u,hu⟩:=get_lt hi2
     have huk:=huo u (List.mem_of_getElem? hu)
     rw [drop_cons hu,List.flatMap_cons] at hW2
     have hnx:=nextM_hok hs hp' huk hT12
     have hnl:=nextM_len hs p u
     have hfo:=followA (spOf H f) f p T u hs hp' huk rfl hE.entry
     conv=>whnf
     repeat ((first|refine ix (by assumption) ?_|refine gcall (hfo) ?_|refine And.intro (by show drawOK (opsAt Tryz.f211 _) _=true;decide +kernel) ?_);conv=>whnf)
     refine tloop rfl mixed [1,2,4,5,8,12,13,14,15] [] (fun m r h=>∃ (j:Nat) (L3:List Edg) (v:AV) (hp:Heap),r=[(1,[],.sl 1 none (tbl.map encUses)),(2,[],.int .i64 a),(4,[],v),(5,[],.iptr (encHou H)),(8,[],.iptr (encHlf (hfOf (spOf H f) f p T))),(12,[],.int .i64 ((a:Int)+(T.length:Int))),(13,[],.int .i64 k),(14,[],.sl 8 none ((nextM (spOf H f) p u).map fun q=>encHlf (hfOf (spOf H f) f q (T++[u])))),(15,[],.int .i64 j)]∧h=hp∧m=(nextM (spOf H f) p u).length - j∧j≤(nextM (spOf H f) p u).length∧Row 7 encEdg L3 v hp∧L3.length≤2001∧W0=(L3++(((nextM (spOf H f) p u).drop j).flatMap (fun q=>wordsF (envAt H a f.entry f.ending) rest' q (T++[u]))++(us.drop (k+1)).flatMap fun u=>(nextM (spOf H f) p u).flatMap fun q=>wordsF (envAt H a f.entry f.ending) rest' q (T++[u]))).take 2001) ?_ ?_
     ·conv=>whnf
      exact ⟨_,_,Turn.refl _ _,_,0,L2,_,_,rfl,rfl,rfl,by omega,hL2,hL2m,hW2⟩
     ·clear hL2 hL2m hW2
      rintro m r h' ⟨j,L3,v,hp,rfl,rfl,rfl,hj,hL3,hL3m,hW3⟩
      have hL3':=hL3
      rcases hL3 with ⟨hLe3,rfl,rfl⟩|⟨hLe3,l3,rfl,rfl⟩
      all_goals
       conv=>whnf
       skip
       refine ⟨fun hj2=>?_,fun hj2=>?_⟩<;>simp at hj2
       ·obtain ⟨q,hq⟩:=get_lt (l:=nextM (spOf H f) p u) (i:=j) (by omega)
        have hqo:=hnx q (List.mem_of_getElem? hq)
        rw [drop_cons hq,List.flatMap_cons,List.append_assoc] at hW3
        have hL3l:L3.length≤2000:=by first|omega|(rw [hLe3];simp)
        conv=>whnf
        repeat ((first|refine ix (by assumption) ?_|refine And.intro (by show drawOK (opsAt Tryz.f211 _) _=true;decide +kernel) ?_);conv=>whnf)
        refine ACalls.mono ?_ (IH q (T++[u]) L3 _ _ ⟨pre++[us],by rw [hA,hr];simp,by simp [hpl]⟩ hqo hL3' hL3l)
        intro v1 h1 hR
        conv=>whnf
        repeat (refine ⟨gP_of ⟨by omega,by omega⟩,?_⟩;conv=>whnf)
        exact ⟨_,_,Turn.refl _ _,_,(by omega),j+1,_,v1,h1,rfl,rfl,rfl,by omega,hR,by rw [List.length_take];omega,by rw [hW3,take_app1,List.append_assoc]⟩
       ·have hW4:W0=(L3++(us.drop (k+1)).flatMap fun u=>(nextM (spOf H f) p u).flatMap fun q=>wordsF (envAt H a f.entry f.ending) rest' q (T++[u])).take 2001:=by
         by_cases hjl:j<(nextM (spOf H f) p u).length
         ·have hL3l:2001≤L3.length:=by first|omega|(exact absurd hjl (by omega))
          rw [hW3,List.take_append_of_le_length hL3l,List.take_append_of_le_length hL3l]
         ·rw [hW3,drop_nil (by omega),List.flatMap_nil,List.nil_append]
        conv=>whnf
        repeat (refine ⟨gP_of ⟨by omega,by omega⟩,?_⟩;conv=>whnf)
        exact ⟨_,_,Turn.refl _ _,_,(by omega),k+1,L3,_,_,rfl,rfl,rfl,by omega,hL3',hL3m,hW4⟩
    ·rw [drop_nil hi2,List.flatMap_nil,List.append_nil,List.take_of_length_le hL2m] at hW2
     conv=>whnf
     skip
     rw [hW2]
     exact hL2
theorem collectA (H:Hou) (tbl:List (List Use)) (a:Nat) (f:Frm) (hE:TabOK H tbl a f):∀ rest,CollC H tbl a f rest
 | []=>collectOne H tbl a f hE [] (fun us r h=>by cases h)
 | us::r=>collectOne H tbl a f hE (us::r) (fun us' r' h=>by cases h;exact collectA H tbl a f hE r)
end Go.Abs.Wall
namespace Go.Abs.Wall
open Go Go.Abs Go.Proofs
theorem wordsR_form {E:Env} (hs:SpOK E.s):∀ (rest:List (List Use)) (p:Prg) (T:List Use),PrgOK E.s p→(∀ us∈rest,∀ u∈us,UseOK u)→∀ e∈wordsR E rest p T,e.word.form.entry=E.entry∧e.word.form.ending=E.ending∧∀ c∈e.word.form.clitics,0≤c∧c<E.s.H.lex.clitics.length
 | [],_,_,_,_,e,he=>by cases he
 | us::r,p,T,hp,hu,e,he=>by
   unfold wordsR at he
   rw [List.mem_flatMap] at he
   obtain ⟨u,hum,he⟩:=he
   rw [List.mem_flatMap] at he
   obtain ⟨q,hq,he⟩:=he
   have hqo:=nextM_ok hs hp (hu us (by simp) u hum) q hq
   rcases List.mem_append.1 he with he|he
   ·unfold headW at he
    split at he
    ·cases List.mem_singleton.1 he
     exact ⟨rfl,rfl,hqo.cli⟩
    ·cases he
   ·exact wordsR_form hs r q (T++[u]) hqo (fun us' h'=>hu us' (by simp [h'])) e he
theorem wordsAll_small {H:Hou} (hH:HouOK H) {All:List (List Use)} (hf:All.length≤12) (hu:∀ us∈All,us.length≤1048576∧∀ u∈us,UseOK u) {at_:Nat}:∀ e∈wordsAll H All at_,WrdSmall e.word:=by
 intro e he
 have hat:=wordsAll_at hH hf hu e he
 have hm:=hH.lex.many
 unfold wordsAll at he
 rw [List.mem_flatMap] at he
 obtain ⟨i,hi,he⟩:=he
 unfold wordsEnt at he
 rw [List.mem_flatMap] at he
 obtain ⟨k,hk,he⟩:=he
 rw [List.mem_range] at hi hk
 unfold wordsOf at he
 split at he
 ·cases he
 ·unfold wordsF at he
  rw [headW_nil,List.nil_append] at he
  have hsp:SpOK (envAt H at_ i ((k:Int) - 1)).s:=spAt hH (by omega) (by omega) (by omega)
  obtain ⟨h1,h2,h3⟩:=wordsR_form hsp All prg0 [] (prg0_ok _) (fun us h=>(hu us h).2) e he
  have h1:e.word.form.entry=(i:Int):=h1
  have h2:e.word.form.ending=(k:Int) - 1:=h2
  refine ⟨⟨by omega,by omega,fun c hc=>?_,by have:=hat.cl;omega⟩,by have:=hat.few;omega⟩
  have h4:=h3 c hc
  have h5:c<H.lex.clitics.length:=h4.2
  omega
def refWl (H:Hou) (tbl:List (List Use)) (a:Nat):List Edg:=(wordsAll H ((tbl.drop a).take 12) a).take 2001
def refWords (H:Hou) (tbl:List (List Use)) (a:Nat):List Edg:=if (refWl H tbl a).length≤2000 then sortE (refWl H tbl a) else refWl H tbl a
def lessE (a b:Edg):Bool:=decide (edgCmp a b<0)
theorem encE_len:∀ e:Edg,(encEdg e).length=7:=fun _=>rfl
structure TabW (H:Hou) (tbl:List (List Use)) (a:Nat):Prop where
 hou:HouOK H
 fit:HouFit H
 uses:∀ us∈tbl,us.length≤1048576∧∀ u∈us,UseOK u
 len:tbl.length≤1048576
 at_:a≤tbl.length
theorem TabW.ok {H:Hou} {tbl:List (List Use)} {a:Nat} (h:TabW H tbl a) {e n:Int} (he:0≤e∧e<H.lex.entries.length) (hn:-1≤n∧n<H.lex.endings.length):TabOK H tbl a ⟨e,n,[]⟩:=⟨h.hou,h.fit,he,hn,h.uses,h.len,h.at_⟩
theorem TabW.all {H:Hou} {tbl:List (List Use)} {a:Nat} (h:TabW H tbl a):((tbl.drop a).take 12).length≤12∧∀ us∈(tbl.drop a).take 12,us.length≤1048576∧∀ u∈us,UseOK u:=
 ⟨by rw [List.length_take];omega,fun us hus=>h.uses us (List.mem_of_mem_drop (List.mem_of_mem_take hus))⟩
theorem ldEd {α:Type} {k:Nat} {enc:α→List AV} {P:Program} {t:TypeId} {b o i d:Nat} {h:Heap} {L:List α} {x:α} {K:AV→Prop} (hk:∀ a,(enc a).length=k) (hd:d≤k) (hm:(b,Ob.vec (L.map enc).flatten)∈h) (ho:o=i*k+d) (hx:L[i]?=some x)
  (hl:loadI P t ((enc x).drop d++((L.drop (i+1)).map enc).flatten) K):∃ cs l,(b,Ob.vec cs)∈h∧dropN o cs=some l∧loadI P t l K:=by
 obtain ⟨hi,hx'⟩:=List.getElem?_eq_some_iff.1 hx
 have hle:(i+1)*k≤L.length*k:=Nat.mul_le_mul_right k hi
 rw [Nat.succ_mul] at hle
 refine ⟨_,_,hm,dropN_some ?_,?_⟩
 ·rw [flat_len hk,ho];omega
 ·rw [ho,← List.drop_drop,flat_drop hk,List.drop_eq_getElem_cons hi,hx',List.map_cons,List.flatten_cons,List.drop_append,hk,Nat.sub_eq_zero_of_le hd,List.drop_zero]
  exact hl
theorem foldl_len (Wl:List Edg) (i:Nat) (hi:i≤Wl.length):((Wl.take i).foldl (bub lessE) []).length=i:=by
 have:=(foldl_bub_perm (less:=lessE) (l:=Wl.take i) (acc:=[])).length_eq
 rw [this,List.append_nil,List.length_take,Nat.min_eq_left hi]
theorem foldl_snoc (Wl:List Edg) (i:Nat) (u:Edg) (hu:Wl[i]?=some u):(Wl.take (i+1)).foldl (bub lessE) []=bub lessE ((Wl.take i).foldl (bub lessE) []) u:=by
 rw [take_snoc hu,List.foldl_append];rfl
def c139:Cfg:=⟨[0,1,2,3,6,7,8,9,10,11,17,30,51,70,89],[],[],[],[(8,[0,1,2,3,4,5,6,7,8,9,10,11,12,13,14,15,16,17,18],[]),(9,[0,1,2,3,4,5,6,7,8,9,10],[]),(14,[0,1,2,3,4,5,6,7,8,9,10,11,12,13,14,15],[]),(16,[0,1,2,3,4,5,6,7,8,9,10,11,12,13,14,15,16,17],[])],[61]⟩
set_option maxHeartbeats 2000000 in
theorem refWordsA (H:Hou) (tbl:List (List Use)) (a:Nat) (hE:TabW H tbl a) :
  ACalls Tryz.prog 139 [.agg (encHou H),.sl 1 none (tbl.map encUses),.int .i64 a] [] (fun v h'=>∃ hp Z,Row 7 encEdg (refWords H tbl a) v hp∧h'=hp++Z):=by
 obtain ⟨hAf,hAu⟩:=hE.all
 obtain ⟨All,hAe⟩:∃ A,A=(tbl.drop a).take 12:=⟨_,rfl⟩
 have hm:=hE.hou.lex.many
 rw [← hAe] at hAf hAu
 refine fcalls (F:=Tryz.f139) c139 rfl rfl rfl mixed rfl fun X=>?_
 conv=>whnf
 skip
 refine tloop rfl mixed [1,2,3,7,8] [] (fun m r h=>∃ (i:Nat) (v:AV) (hp:Heap),r=[(1,[],.sl 1 none (tbl.map encUses)),(2,[],.int .i64 a),(3,[],.iptr (encHou H)),(7,[],v),(8,[],.int .i64 i)]∧h=hp∧m=H.lex.entries.length - i∧i≤H.lex.entries.length∧Row 7 encEdg (((List.range i).flatMap (wordsEnt H All a)).take 2001) v hp) ?_ ?_
 ·conv=>whnf
  exact ⟨_,_,Turn.weak (.cons (VLe.refl _) (.cons (VLe.refl _) (.cons (VLe.refl _) (.cons nil_le_nilO (RLe.refl _))))),_,0,.nilO,[],rfl,rfl,rfl,by omega,.inl ⟨by simp,rfl,rfl⟩⟩
 ·rintro m r h' ⟨i,v,hp,rfl,rfl,rfl,hi,hr⟩
  conv=>whnf
  skip
  refine ⟨fun hi2=>?_,fun hi2=>?_⟩<;>simp at hi2
  ·conv=>whnf
   skip
   refine tloop rfl mixed [1,2,3,7,8,9] [] (fun m r h=>∃ (k:Nat) (c:Int) (v:AV) (hp:Heap),r=[(1,[],.sl 1 none (tbl.map encUses)),(2,[],.int .i64 a),(3,[],.iptr (encHou H)),(7,[],v),(8,[],.int .i64 i),(9,[],.int .i64 c)]∧h=hp∧m=H.lex.endings.length+1 - k∧c=(k:Int) - 1∧k≤H.lex.endings.length+1∧Row 7 encEdg (((List.range i).flatMap (wordsEnt H All a)++(List.range k).flatMap (wordsOf H All a i)).take 2001) v hp) ?_ ?_
   ·conv=>whnf
    exact ⟨_,_,Turn.refl _ _,_,0,-1,_,_,rfl,rfl,rfl,rfl,by omega,by simpa using hr⟩
   ·clear hr
    rintro m r h' ⟨k,c,v,hp,rfl,rfl,rfl,hc,hk,hr⟩
    have hrs:(List.range (k+1)).flatMap (wordsOf H All a i)=(List.range k).flatMap (wordsOf H All a i)++wordsOf H All a i k:=by rw [List.range_succ,List.flatMap_append,List.flatMap_singleton]
    obtain ⟨L,hL⟩:∃ L,L=((List.range i).flatMap (wordsEnt H All a)++(List.range k).flatMap (wordsOf H All a i)).take 2001:=⟨_,rfl⟩
    rw [← hL] at hr
    have hr':=hr
    have hLl:L.length≤2001:=by rw [hL,List.length_take];omega
    rcases hr with ⟨hLe,rfl,rfl⟩|⟨hLe,lb,rfl,rfl⟩
    all_goals
     conv=>whnf
     skip
     refine ⟨fun hi3=>?_,fun hi3=>?_⟩<;>simp at hi3
     ·have hck:c<H.lex.endings.length:=by first|exact hi3.1|exact hi3
      have hLm:L.length≤2000:=by first|omega|(rw [hLe];simp)
      conv=>whnf
      repeat ((first|(refine ixg (⟨0,[],[],0⟩:Edn) ?_ ?_;(focus (conv=>whnf;skip));(focus (intro g0;have g0:=of_decide_eq_true g0;show 0≤_∧_<_;omega)))|(refine ixg (⟨[],0,[],0⟩:Ent) ?_ ?_;(focus (conv=>whnf;skip));(focus (intro g0;show 0≤_∧_<_;omega)))|refine And.intro (by show drawOK (opsAt Tryz.f139 _) _=true;decide +kernel) ?_);conv=>whnf)
      refine ⟨fun hs=>?_,fun hs=>?_⟩
      ·have hs:skipE H.lex i c=true:=hs
       have hwo:wordsOf H All a i k=[]:=by unfold wordsOf;rw [← hc,if_pos hs]
       rw [hwo,List.append_nil] at hrs
       conv=>whnf
       repeat (refine ⟨gP_of ⟨by omega,by omega⟩,?_⟩;conv=>whnf)
       exact ⟨_,_,Turn.refl _ _,_,(by omega),k+1,_,_,_,rfl,rfl,rfl,by omega,by omega,by rw [hrs,← hL];exact hr'⟩
      ·have hs:skipE H.lex i c=false:=hs
       have hwo:wordsOf H All a i k=wordsF (envAt H a i c) All prg0 []:=by unfold wordsOf;rw [← hc,if_neg (by rw [hs];decide)]
       conv=>whnf
       repeat ((first|refine gcall (beginA H ⟨i,c,[]⟩ hE.hou.lex ⟨by show (0:Int)≤i;omega,by show (i:Int)<H.lex.entries.length;omega⟩ hck trivial) ?_|refine And.intro (by show drawOK (opsAt Tryz.f139 _) _=true;decide +kernel) ?_);conv=>whnf)
       refine ACalls.mono ?_ (collectA H tbl a ⟨i,c,[]⟩ (hE.ok ⟨by omega,by omega⟩ ⟨by omega,hck⟩) All prg0 [] L _ _ ⟨[],by rw [hAe];rfl,rfl⟩ (hok0 _) hr' hLm)
       intro v1 h1 hR
       conv=>whnf
       repeat (refine ⟨gP_of ⟨by omega,by omega⟩,?_⟩;conv=>whnf)
       have hR:Row 7 encEdg ((L++wordsF (envAt H a i c) All prg0 []).take 2001) v1 h1:=hR
       rw [hL,take_app1,← hwo,List.append_assoc,← hrs] at hR
       exact ⟨_,_,Turn.refl _ _,_,(by omega),k+1,_,_,_,rfl,rfl,rfl,(by show c+1=_;omega),by omega,hR⟩
     ·have hfin:((List.range (i+1)).flatMap (wordsEnt H All a)).take 2001=L:=by
       rw [List.range_succ,List.flatMap_append,List.flatMap_singleton]
       have hsp:wordsEnt H All a i=(List.range k).flatMap (wordsOf H All a i)++((List.range (H.lex.endings.length+1)).drop k).flatMap (wordsOf H All a i):=by
        unfold wordsEnt
        rw [← List.flatMap_append]
        congr 1
        have h1:List.range k=(List.range (H.lex.endings.length+1)).take k:=by rw [List.take_range,Nat.min_eq_left hk]
        rw [h1,List.take_append_drop]
       by_cases hkl:k<H.lex.endings.length+1
       ·have hL3l:2001≤L.length:=by first|omega|(rw [hLe] at hi3;simp at hi3;omega)
        rw [hsp,← List.append_assoc,List.take_append_of_le_length (by rw [hL,List.length_take] at hL3l;omega),hL]
       ·rw [hsp,List.drop_eq_nil_of_le (by simp;omega),List.flatMap_nil,List.append_nil,hL]
      conv=>whnf
      repeat (refine ⟨gP_of ⟨by omega,by omega⟩,?_⟩;conv=>whnf)
      exact ⟨_,_,Turn.refl _ _,_,(by omega),i+1,_,_,rfl,rfl,rfl,by omega,by rw [hfin];exact hr'⟩
  ·have hie:i=H.lex.entries.length:=by omega
   obtain ⟨Wl,hWl⟩:∃ W,W=refWl H tbl a:=⟨_,rfl⟩
   have hWe:((List.range i).flatMap (wordsEnt H All a)).take 2001=Wl:=by rw [hWl,hie,hAe];rfl
   rw [hWe] at hr
   have hWm:Wl.length≤2001:=by rw [← hWe,List.length_take];omega
   have hsm:∀ e∈Wl,WrdSmall e.word:=fun e he=>wordsAll_small hE.hou hAf hAu e (by rw [← hWe,hie] at he;exact List.mem_of_mem_take he)
   have hat':∀ e∈Wl,EdgAt H a e:=fun e he=>wordsAll_at hE.hou hAf hAu e (by rw [← hWe,hie] at he;exact List.mem_of_mem_take he)
   have hfold:Wl.foldl (bub lessE) []=sortE Wl:=foldl_bub edgW (fun x hx y hy h1 h2=>edgAt_eq (hat' x hx) (hat' y hy) (zW.c.anti _ _ h1 h2))
   rcases hr with ⟨hne,rfl,rfl⟩|⟨hne,b,rfl,rfl⟩
   ·have hrw:refWords H tbl a=[]:=by unfold refWords;rw [← hWl,hne];simp [sortE,sortL]
    rw [hrw]
    conv=>whnf
    skip
    refine uloop 60 rfl mixed ?_
    conv=>whnf
    refine .inr ?_
    conv=>whnf
    skip
    refine cF rfl ?_
    conv=>whnf
    skip
    exact ⟨[],[],.inl ⟨rfl,rfl,rfl⟩,rfl⟩
   ·by_cases hbig:Wl.length≤2000
    ·have hrw:refWords H tbl a=sortE Wl:=by unfold refWords;rw [← hWl,if_pos hbig]
     rw [hrw]
     have hpos:0<Wl.length:=List.length_pos_iff.2 hne
     conv=>whnf
     skip
     refine sloop rfl mixed [7,10] [] (fun m r h=>∃ (i:Nat) (R:List Edg),r=[(7,[],.osl b 0 Wl.length 7),(10,[],.int .i64 i)]∧h=[(b,.vec (R.map encEdg).flatten)]∧m=Wl.length - i∧1≤i∧i≤Wl.length∧R=(Wl.take i).foldl (bub lessE) []++Wl.drop i) ?_ ?_
     ·conv=>whnf
      refine ⟨_,1,Wl,rfl,rfl,rfl,by omega,by omega,?_⟩
      cases hcs:Wl with
      | nil=>exact absurd hcs hne
      | cons w t=>rfl
     ·rintro m r h ⟨i,R,rfl,rfl,rfl,hi1,hi,hR⟩
      conv=>whnf
      skip
      refine ⟨fun hi4=>?_,fun hi4=>?_⟩<;>simp at hi4
      ·obtain ⟨u,hu⟩:=get_lt (l:=Wl) (i:=i) (by omega)
       obtain ⟨S,hS⟩:∃ S,S=(Wl.take i).foldl (bub lessE) []:=⟨_,rfl⟩
       obtain ⟨tl,htl⟩:∃ t,t=Wl.drop (i+1):=⟨_,rfl⟩
       have hSl:S.length=i:=by rw [hS];exact foldl_len Wl i hi
       have hnx:(Wl.take (i+1)).foldl (bub lessE) []=bub lessE S u:=by rw [hS];exact foldl_snoc Wl i u hu
       rw [← hS,drop_cons hu,← htl] at hR
       have hmemR:∀ x,x∈S++u::tl→x∈Wl:=by
        intro x hx
        have hp:=(foldl_bub_perm (less:=lessE) (l:=Wl.take i) (acc:=[]))
        rw [← hS,List.append_nil] at hp
        rcases List.mem_append.1 hx with hx|hx
        ·exact List.mem_of_mem_take (hp.mem_iff.1 hx)
        ·rcases List.mem_cons.1 hx with rfl|hx
         ·exact List.mem_of_getElem? hu
         ·rw [htl] at hx;exact List.mem_of_mem_drop hx
       conv=>whnf
       skip
       refine sloop rfl mixed [7,10,11] [] (fun m r h=>∃ (k:Nat) (R:List Edg),r=[(7,[],.osl b 0 Wl.length 7),(10,[],.int .i64 i),(11,[],.int .i64 k)]∧h=[(b,.vec (R.map encEdg).flatten)]∧m=k∧k≤i∧R=S.take k++u::(S.drop k++tl)∧bub lessE S u=bub lessE (S.take k) u++S.drop k) ?_ ?_
       ·conv=>whnf
        exact ⟨_,i,R,rfl,rfl,rfl,by omega,by rw [hR,← hSl];simp,by rw [← hSl];simp⟩
       ·clear hR
        rintro m r h ⟨k,R,rfl,rfl,rfl,hk,hR,hb⟩
        have hRl:R.length=Wl.length:=by
         rw [hR,htl];simp;omega
        have hRi:R[m]?=some u:=by rw [hR];exact mid_get (by rw [List.length_take];omega)
        obtain ⟨pv,hpv⟩:=get_lt (l:=R) (i:=((m:Int) - 1).toNat) (by omega)
        have hmR:∀ x∈R,x∈Wl:=fun x hx=>hmemR x (by
         rw [hR] at hx
         rw [List.mem_append,List.mem_cons,List.mem_append] at hx
         rw [List.mem_append,List.mem_cons]
         rcases hx with hx|hx|hx|hx
         ·exact .inl (List.mem_of_mem_take hx)
         ·exact .inr (.inl hx)
         ·exact .inl (List.mem_of_mem_drop hx)
         ·exact .inr (.inr hx))
        have hsu:=hsm u (hmR u (List.mem_of_getElem? hRi))
        have hsp:=hsm pv (hmR pv (List.mem_of_getElem? hpv))
        conv=>whnf
        repeat ((first|refine ⟨gP_of ⟨by omega,by omega⟩,?_⟩|(refine ixo (i:=m) (by omega) ?_)|(refine ixog ?_ ?_;(focus (conv=>whnf;skip));(focus (intro g0;simp at g0;show 0≤_∧_<_;omega)))|(refine ldEd (d:=3) encE_len (by decide) (.head _) (congrArg (fun x=>x+3) (Nat.zero_add (m*7))) hRi ?_)|(refine ldEd (d:=3) encE_len (by decide) (.head _) (congrArg (fun x=>x+3) (Nat.zero_add (((m:Int) - 1).toNat*7))) hpv ?_)|refine gcall (refLess u.word pv.word hsu hsp) ?_|refine And.intro (by show drawOK (opsAt Tryz.f139 _) _=true;decide +kernel) ?_);conv=>whnf)
        refine ⟨fun hq=>?_,fun hq=>?_⟩
        ·have hq:(decide (0<(m:Int))&&lessE u pv)=true:=hq
         rw [Bool.and_eq_true,decide_eq_true_eq] at hq
         obtain ⟨c,hc,h1,h2⟩:=split_at (L:=S) (m:=m) (by omega) (by omega)
         have hpc:pv=c:=by
          rw [show ((m:Int) - 1).toNat=m - 1 by omega,hR,h1,List.append_assoc,List.getElem?_append_right (by rw [List.length_take];omega),List.length_take,show m - 1 - min (m - 1) S.length=0 by omega] at hpv
          exact (Option.some.inj hpv).symm
         subst hpc
         have hpv':R[m - 1]?=some pv:=by rw [← hpv,show ((m:Int) - 1).toNat=m - 1 by omega]
         have hRs:(R.set m pv).set (m - 1) u=S.take (m - 1)++u::(S.drop (m - 1)++tl):=by
          rw [hR,h1,h2]
          exact swap_mid (by rw [List.length_take];omega) (by omega)
         conv=>whnf
         repeat ((first|refine ⟨gP_of ⟨by omega,by omega⟩,?_⟩|(refine ixo (i:=m) (by omega) ?_)|(refine ⟨m - 1,gP_of ⟨by omega,by omega⟩,?_⟩)|(refine ldE encE_len (.head _) (Nat.zero_add _) hRi ?_)|(refine ldE encE_len (.head _) (Nat.zero_add _) hpv' ?_)|(refine stE pv (by decide) encE_len (i:=m) (by omega) (Nat.zero_add _) rfl (.here _) ?_)|(refine stE u (by decide) encE_len (i:=m - 1) (by simp;omega) (Nat.zero_add _) rfl (.here _) ?_)|refine And.intro (by show drawOK (opsAt Tryz.f139 _) _=true;decide +kernel) ?_);conv=>whnf)
         exact ⟨m - 1,by omega,m - 1,_,by rw [show (m:Int) - 1=((m - 1:Nat):Int) by omega],rfl,rfl,by omega,hRs,by rw [hb,h1,bub_pass hq.2,h2]⟩
        ·have hq:(decide (0<(m:Int))&&lessE u pv)=false:=hq
         have hfin:R=bub lessE S u++tl:=by
          rw [hb,hR]
          by_cases h0:m=0
          ·subst h0;rfl
          ·obtain ⟨c,hc,h1,h2⟩:=split_at (L:=S) (m:=m) (by omega) (by omega)
           have hpc:pv=c:=by
            rw [show ((m:Int) - 1).toNat=m - 1 by omega,hR,h1,List.append_assoc,List.getElem?_append_right (by rw [List.length_take];omega),List.length_take,show m - 1 - min (m - 1) S.length=0 by omega] at hpv
            exact (Option.some.inj hpv).symm
           subst hpc
           rw [h1,bub_stop (by rw [Bool.and_eq_false_iff,decide_eq_false_iff_not] at hq;rcases hq with hq|hq;omega;exact hq)]
           simp
         conv=>whnf
         repeat (refine ⟨gP_of ⟨by omega,by omega⟩,?_⟩;conv=>whnf)
         exact ⟨_,by omega,i+1,R,rfl,rfl,rfl,by omega,by omega,by rw [hnx,hfin,htl]⟩
      ·have hie2:i=Wl.length:=by omega
       rw [hie2,List.take_length,List.drop_length,List.append_nil,hfold] at hR
       conv=>whnf
       skip
       refine ⟨_,[],.inr ⟨?_,b,?_,rfl⟩,by rw [hR,List.append_nil]⟩
       ·intro h
        have:=congrArg List.length h
        rw [sortE,sortL_length] at this
        exact hne (List.eq_nil_of_length_eq_zero this)
       ·rw [sortE,sortL_length]
    ·have hrw:refWords H tbl a=Wl:=by unfold refWords;rw [← hWl,if_neg hbig]
     rw [hrw]
     conv=>whnf
     skip
     refine uloop 60 rfl mixed ?_
     conv=>whnf
     refine .inr ?_
     conv=>whnf
     skip
     refine cF (by simp;omega) ?_
     conv=>whnf
     skip
     exact ⟨_,[],.inr ⟨hne,b,rfl,rfl⟩,(List.append_nil _).symm⟩
end Go.Abs.Wall
namespace Go.Abs.Wall
open Go Go.Abs Go.Proofs
def c140:Cfg:=⟨[0,1,2,4,5,6,10],[],[],[],[(5,[0,1,2,3,4,5,6,7,8,9],[])],[]⟩
def c37:Cfg:=⟨[0,1,2,4,5,41],[],[5],[],[],[]⟩
theorem refWordsQ (H:Hou) (tbl:List (List Use)) (a:Nat) (hE:TabW H tbl a):QCall Tryz.prog 139 [.agg (encHou H),.sl 1 none (tbl.map encUses),.int .i64 a] [] (.sl 7 none ((refWords H tbl a).map encEdg)):=Row.ok (by decide) encE_len (refWordsA H tbl a hE)
theorem refTable (H:Hou) (line:List Int) (hfit:HouFit H) (hL:LineOK H line):QCall Tryz.prog 140 [.agg (encHou H),.sl 1 none (ints line)] [] (.sl 1 none ((line.map (usesAt H)).map encUses)):=by
 have hfew:=hL.few
 refine QCall.of (fcalls (F:=Tryz.f140) c140 rfl rfl rfl mixed rfl fun X=>?_)
 conv=>whnf
 skip
 refine tloop rfl mixed [1,2,5,6] [] (fun m r h=>∃ (i:Nat) (v:AV) (hp:Heap),r=[(1,[],.sl 1 none (ints line)),(2,[],.iptr (encHou H)),(5,[],v),(6,[],.int .i64 i)]∧h=hp∧m=line.length - i∧i≤line.length∧Out 1 encUses ((line.take i).map (usesAt H)) v hp) ?_ ?_
 ·conv=>whnf
  exact ⟨_,_,Turn.refl _ _,_,0,_,_,rfl,rfl,rfl,by omega,.inl ⟨rfl,rfl,rfl⟩⟩
 ·rintro m r h' ⟨i,v,hp,rfl,rfl,rfl,hi,ho⟩
  conv=>whnf
  skip
  refine ⟨fun hi2=>?_,fun hi2=>?_⟩<;>simp at hi2
  ·obtain ⟨n,hn⟩:=get_lt hi2
   have hnb:=hL.signs n (List.mem_of_getElem? hn)
   have htk:=take_snoc hn
   have hru:=refUsesW H n hfit hL.hou hnb.1 hnb.2
   rcases ho with ⟨he,rfl,rfl⟩|⟨q,rfl,rfl⟩
   all_goals
    conv=>whnf
    repeat ((first|refine ⟨gP_of ⟨by omega,by omega⟩,?_⟩|refine ix (by assumption) ?_|refine gcall (hru) ?_|(refine ⟨Nat.le_of_ble_eq_true rfl,fun q'=>?_⟩)|(refine ⟨(by simp;unfold AMAX;omega),fun q'=>⟨_,.here _,?_⟩⟩)|refine And.intro (by show drawOK (opsAt Tryz.f140 _) _=true;decide +kernel) ?_);conv=>whnf)
    refine ⟨_,_,Turn.refl _ _,_,(by omega),i+1,_,_,rfl,rfl,rfl,by omega,.inr ⟨q',?_,rfl⟩⟩
    rw [htk,List.map_append,List.map_append]
    first|done|rfl|(rw [he];done)|(rw [he];rfl)
  ·rw [List.take_of_length_le hi2] at ho
   conv=>whnf
   skip
   exact ho.le (by decide)
theorem tabW_line {H:Hou} {line:List Int} (hfit:HouFit H) (hL:LineOK H line) {a:Nat} (ha:a≤line.length):TabW H (line.map (usesAt H)) a:=by
 have hfew:=hL.few
 refine ⟨hL.hou,hfit,fun us hus=>?_,by rw [List.length_map];omega,by rw [List.length_map];exact ha⟩
 obtain ⟨n,hn,rfl⟩:=List.mem_map.1 hus
 have hnb:=hL.signs n hn
 have hok:=usesM_ok (p:=H.period) ((lstOK hL.hou.lst).each _ (List.mem_of_getElem? (sgnAt_get hnb.1 hnb.2)))
 exact ⟨by unfold usesAt;omega,hok.2⟩
theorem refWl_line (H:Hou) (line:List Int) (a:Nat):refWl H (line.map (usesAt H)) a=(wordsAll H (allAt H line a) a).take 2001:=by
 unfold refWl allAt
 rw [List.map_take,List.map_drop]
theorem edgsAt_len (H:Hou) (line:List Int) (a:Nat):(edgsAt H line a).length=(wordsAll H (allAt H line a) a).length:=by unfold edgsAt sortE;rw [sortL_length]
theorem refWords_fits {H:Hou} {line:List Int} {a:Nat} (h:(edgsAt H line a).length≤2000):refWords H (line.map (usesAt H)) a=edgsAt H line a:=by
 unfold refWords
 rw [refWl_line]
 rw [edgsAt_len] at h
 rw [List.take_of_length_le (by omega),if_pos h]
 rfl
theorem refWords_long {H:Hou} {line:List Int} {a:Nat} (h:2000<(edgsAt H line a).length):(refWords H (line.map (usesAt H)) a).length=2001:=by
 unfold refWords
 rw [refWl_line]
 rw [edgsAt_len] at h
 have:((wordsAll H (allAt H line a) a).take 2001).length=2001:=by rw [List.length_take];omega
 rw [if_neg (by omega),this]
end Go.Abs.Wall
namespace Go.Abs.Wall
open Go Go.Abs Go.Proofs
def largeM (H:Hou) (line:List Int):Bool:=
 if ((decide (60<(H.lex.entries.length:Int))&&decide ((H.lex.entries.length:Int)≤200))||(decide (12<(H.lex.endings.length:Int))&&decide ((H.lex.endings.length:Int)≤40))||(decide (6<(H.lex.clitics.length:Int))&&decide ((H.lex.clitics.length:Int)≤10)))=true then true
 else decide (16<(line.length:Int))&&decide ((line.length:Int)≤60)
theorem largeW (H:Hou) (line:List Int):QCall Tryz.prog 37 [.agg (encHou H),.sl 1 none (ints line)] [] (.bool (largeM H line)):=by
 obtain ⟨b,hb⟩:∃ b,b=largeM H line:=⟨_,rfl⟩
 rw [← hb]
 unfold largeM at hb
 rw [← List.length_map (f:=encEnt),← List.length_map (f:=encEdn),← List.length_map (f:=encCli),← ints_length] at hb
 refine fcalls (F:=Tryz.f37) c37 rfl rfl rfl mixed rfl fun X=>?_
 conv=>whnf
 intro b5
 conv=>whnf
 repeat (refine ⟨_,_,Rem.here _,⟨Nat.le_of_ble_eq_true rfl,rfl⟩,?_⟩;conv=>whnf)
 refine ⟨fun hq=>?_,fun hq=>?_⟩
 ·rw [if_pos hq] at hb
  conv=>whnf
  exact ⟨by rw [hb],rfl⟩
 ·rw [if_neg (by rw [show _=false from hq];decide)] at hb
  conv=>whnf
  skip
  exact ⟨by rw [hb],rfl⟩
end Go.Abs.Wall
