/- What is proved: small laws for the walks of this seat, and contracts of its functions. No condition but those each theorem names. -/
import Derived.Test.YtbmcnieifibckaaGreatN31
import Derived.Test.YtbmcnieifibckaaGreatN23
set_option maxRecDepth 100000
set_option maxHeartbeats 2000000
set_option linter.unusedVariables false
set_option linter.unusedSimpArgs false
namespace Go.Abs.Wall.Spl
open Go Go.Abs Go.Proofs Go.Abs.Wall Go.Proofs.YtbmcnieifibckaaGreat.Br
open Go.Abs.Wall.Lst (ACalls.re)
def CbOK (E:Env) (P:List (List UInt8)) (n:Nat) (l:List RS) (Cb:List Int):Prop:=∀ (i:Nat) s c,l[i]?=some s→Cb[i]?=some c→c=cntS E (toS P n s)
theorem CbOK.snoc {E:Env} {P:List (List UInt8)} {n:Nat} {l:List RS} {Cb:List Int} (h:CbOK E P n l Cb) {s:RS} (hs:l[Cb.length]?=some s) {c:Int} (hr:c=cntS E (toS P n s)):CbOK E P n l (Cb++[c]):=by
 intro j s2 row2 h1 h2
 by_cases hj:j<Cb.length
 ·rw [List.getElem?_append_left hj] at h2
  exact h j s2 row2 h1 h2
 ·by_cases e:j=Cb.length
  ·subst e
   rw [List.getElem?_append_right (Nat.le_refl _),Nat.sub_self] at h2
   cases h2
   rw [hs] at h1
   cases h1
   exact hr
  ·rw [List.getElem?_eq_none (by rw [List.length_append,List.length_singleton];omega)] at h2
   cases h2
def c27:Cfg:=⟨[0,1,2,3,4,5,6,7,8,9,10,11,12,13,14,15,16,17,23,35,44,59,73],[],[],[],[],[]⟩
set_option maxHeartbeats 4000000 in
theorem r7Count (H:Hou) (B:Hab) (f:Frm) (hh:HouFit H) (hB:HabFit B) (hfl:f.clitics.length≤LMAX) :
  QCall Tryz.prog 27 [.agg (encHou H),.agg (encHab B),.agg (encFrm f)] [] (.tup [.int .i64 (cntV H B f),.int .i64 (begErr H B f)]):=by
 refine QCall.of ?_
 refine fcalls (F:=Tryz.f27) c27 rfl rfl rfl mixed rfl fun X=>?_
 conv=>whnf
 repeat (refine QCall.k0 (r7Form H B f hh hB hfl) ?_;conv=>whnf)
 refine ⟨fun hz0=>?_,fun hz0=>?_⟩<;>simp at hz0
 ·conv=>whnf
  skip
  unfold cntV
  rw [if_neg hz0]
  exact VLe.refl _
 obtain ⟨h0,hr,hfe⟩:=beg_ok hz0
 have hcv:cntV H B f=cntS (envM H B f) st0:=by unfold cntV;rw [if_pos hz0]
 rw [hcv,hz0]
 have hf:=frmOK hfe
 have hfew:=hf.few
 obtain ⟨E,hEe⟩:∃ E,E=envM H B f:=⟨_,rfl⟩
 obtain ⟨P,hPe⟩:∃ P,P=partsM H.lex f:=⟨_,rfl⟩
 have hE:EOK E:=by rw [hEe];exact env_ok h0 hr hf
 have hP:EnvP E P:=by rw [hEe,hPe];exact env_parts h0 hf
 have hPl:P.length≤1000:=by rw [hPe];unfold partsM;rw [List.length_cons,List.length_map];omega
 have hkd:∀ us∈E.uses,∀ u∈us,1≤u.kind∧u.kind≤4:=by
  rw [hEe]
  intro us hus u hu
  have:=(rowsM_ok (houOK h0) hus).2 u hu
  exact ⟨this.1,this.2.1⟩
 have hbg:=r7Begin H B f hh h0 hf
 rw [← hEe,← hPe] at hbg
 rw [← hEe]
 have hlv:=levelsW E P hE hP hPl hkd
 conv=>whnf
 repeat ((first|refine QCall.k0 (hbg) ?_|(refine ACalls.mono ?_ hlv));conv=>whnf)
 rintro v h' ⟨S,T,hL,rfl,rfl⟩
 have hSl:=hL.ls
 have hTl:=hL.lt
 conv=>whnf
 skip
 refine tloop rfl mixed [9,10,11,12,13] [] (fun m r h=>∃ (a:Nat) (c:Int) (Cb:List Int),r=[(9,[],.iptr (wkC E P)),(10,[],.sl 1 none (S.map encRSs)),(11,[],.sl 1 none (T.map encSpr)),(12,[],.sl 1 none (ints Cb)),(13,[],.int .i64 c)]∧h=[]∧m=a∧c=(a:Int) - 1∧a≤13∧∀ l,S[a]?=some l→Cb.length=l.length∧CbOK E P a l Cb) ?_ ?_
 ·conv=>whnf
  refine ⟨_,_,Turn.weak (.cons (VLe.refl _) (.cons (VLe.refl _) (.cons (VLe.refl _) (.cons (VLe.nil (by decide)) (RLe.refl _))))),_,13,12,[],rfl,rfl,rfl,rfl,by omega,fun l hl=>?_⟩
  have:=(List.getElem?_eq_some_iff.1 hl).1
  omega
 ·rintro a r h' ⟨a',c,Cb,rfl,rfl,rfl,hca,ha,hCb⟩
  conv=>whnf
  refine ⟨fun hz=>?_,fun hz=>?_⟩<;>simp at hz
  ·obtain ⟨d,rfl⟩:∃ d,a=d+1:=⟨a - 1,by omega⟩
   have hcd:c=(d:Int):=by omega
   subst hcd
   obtain ⟨l,hl⟩:=get_lt (l:=S) (i:=d) (by omega)
   have hlev:=hL.lev d l hl
   have hlfew:=hlev.few hE hP (by omega)
   conv=>whnf
   skip
   refine tloop rfl mixed [9,10,11,12,13,14,15] [(14,1)] (fun m r h=>∃ (i:Nat) (Ch:List Int) (q14:Nat),r=[(9,[],.iptr (wkC E P)),(10,[],.sl 1 none (S.map encRSs)),(11,[],.sl 1 none (T.map encSpr)),(12,[],.sl 1 none (ints Cb)),(13,[],.int .i64 d),(14,[],.sl 1 (some q14) (ints Ch)),(15,[],.int .i64 i)]∧h=(q14,.tok)::[]∧m=l.length - i∧i≤l.length∧Ch.length=i∧CbOK E P d l Ch) ?_ ?_
   ·conv=>whnf
    refine ⟨by decide,fun q14=>?_⟩
    conv=>whnf
    exact ⟨_,_,Turn.refl _ _,_,0,[],q14,rfl,rfl,rfl,by omega,rfl,fun i s rs h1 h2=>(by cases h2)⟩
   ·rintro m r h' ⟨i,Ch,q14,rfl,rfl,rfl,hi,hCl,hCh⟩
    conv=>whnf
    repeat (refine ix (by assumption) ?_;conv=>whnf)
    refine ⟨fun hz1=>?_,fun hz1=>?_⟩<;>simp at hz1
    ·obtain ⟨s,hs⟩:=get_lt hz1
     have hsm:=List.mem_of_getElem? hs
     have hcan:=hlev.can s hsm
     have hlast:=hlev.last s hsm
     have hx:=toS_ok hP (n:=d) (by omega) hcan hlast
     have hend:=r7End E P s hcan hPl
     obtain ⟨x,hxe⟩:∃ x,x=toS P d s:=⟨_,rfl⟩
     rw [← hxe] at hx
     have hxn:x.n=d:=by rw [hxe];rfl
     have hcs:=cntS_eq hE hx
     have hob:=oneC_in E x
     have hlt:(lastM E x).2=(decide (0<(d:Int))&&endM E P s):=by
      by_cases hd0:d=0
      ·subst hd0
       rw [hxe]
       unfold lastM
       rw [if_pos (by show (decide (((0:Nat):Int)=0)||_)=true;rfl)]
       rfl
      ·obtain ⟨e1,e2⟩:=end_last hP (n:=d) (by omega) hcan
       rw [← hxe] at e1
       rw [e1,decide_eq_true (by omega),Bool.true_and]
     conv=>whnf
     repeat ((first|refine ix (by assumption) ?_|refine gcall (hend) ?_);conv=>whnf)
     refine ⟨fun hq=>?_,fun hq=>?_⟩
     ·have hq:(decide (0<(d:Int))&&endM E P s)=true:=hq
      have h2:oneC E x=1:=by unfold oneC;rw [hlt,if_pos hq]
      conv=>whnf
      skip
      by_cases hd:d<12
      ·obtain ⟨l',hl'⟩:=get_lt (l:=S) (i:=d+1) (by omega)
       obtain ⟨rows,hrows⟩:=get_lt (l:=T) (i:=d) (by omega)
       obtain ⟨hrl,hrs0⟩:=hL.step d l l' rows hl hl' hrows
       obtain ⟨row,hrow⟩:=get_lt (l:=rows) (i:=i) (by omega)
       have hst:=hrs0 i s row hs hrow
       rw [← hxe] at hst
       obtain ⟨hBl,hBo⟩:=hCb l' hl'
       have hrowl:=hst.len
       have hml:=moves_len (x:=x) hE
       refine tloop rfl mixed [9,10,11,12,13,14,15,16,17] [] (fun m r h=>∃ (k:Nat) (n:Int),r=[(9,[],.iptr (wkC E P)),(10,[],.sl 1 none (S.map encRSs)),(11,[],.sl 1 none (T.map encSpr)),(12,[],.sl 1 none (ints Cb)),(13,[],.int .i64 d),(14,[],.sl 1 (some q14) (ints Ch)),(15,[],.int .i64 i),(16,[],.int .i64 n),(17,[],.int .i64 k)]∧h=(q14,.tok)::[]∧m=row.length - k∧k≤row.length∧(0≤n∧n≤CM)∧cntS E x=((movesM E x).drop k).foldl (fun n m=>addC n (cntS E m.to)) n) ?_ ?_
       ·conv=>whnf
        exact ⟨_,_,Turn.refl _ _,_,0,1,rfl,rfl,rfl,by omega,by have h:=hob;rw [h2] at h;exact h,by rw [hcs,h2];rfl⟩
       ·rintro m r h' ⟨k,n,rfl,rfl,rfl,hk,hn,hg⟩
        conv=>whnf
        repeat (refine ix (by assumption) ?_;conv=>whnf)
        refine ⟨fun hz2=>?_,fun hz2=>?_⟩
        ·have hz2:(decide ((d:Int)<12)&&decide ((k:Int)<((row.map encStp).length:Int)))=true:=hz2
         rw [List.length_map,Bool.and_eq_true,decide_eq_true_eq,decide_eq_true_eq] at hz2
         obtain ⟨t,ht⟩:=get_lt (l:=row) (i:=k) (by omega)
         obtain ⟨mv,hmv⟩:=get_lt (l:=movesM E x) (i:=k) (by omega)
         have hsr:=hst.get ht hmv
         obtain ⟨r1,g1,g2⟩:=hsr.to
         obtain ⟨c1,hc1⟩:=get_lt (l:=Cb) (i:=t.to) (by have:=(List.getElem?_eq_some_iff.1 g1).1;omega)
         have hok:=hBo _ _ _ g1 hc1
         have hn1:((d+1:Nat):Int)=(d:Int)+1:=by push_cast;rfl
         rw [hn1,g2] at hok
         have hkb:=cntS_in E mv.to
         have hab:=addC_in hn hkb.1
         have hCM:CM=1099511627776:=rfl
         rw [← hok] at hkb hab
         rw [drop_cons hmv,List.foldl_cons,← hok] at hg
         conv=>whnf
         repeat ((first|refine ⟨gP_of ⟨by omega,by omega⟩,?_⟩|refine ix (by assumption) ?_);conv=>whnf)
         exact ⟨_,_,Turn.refl _ _,_,(by omega),k+1,addC n c1,rfl,rfl,rfl,by omega,hab,hg⟩
        ·have hz2:(decide ((d:Int)<12)&&decide ((k:Int)<((row.map encStp).length:Int)))=false:=hz2
         rw [List.length_map,decide_eq_true (by omega),Bool.true_and,decide_eq_false_iff_not] at hz2
         rw [drop_nil (by omega)] at hg
         have hcx:cntS E x=n:=hg
         conv=>whnf
         repeat ((first|refine ⟨gP_of ⟨by omega,by omega⟩,?_⟩|(refine ⟨(by rw [List.length_append,List.length_singleton,ints_length];unfold AMAX;omega),fun q'=>⟨_,.here _,?_⟩⟩));conv=>whnf)
         exact ⟨_,_,Turn.refl _ _,_,(by omega),i+1,Ch++[n],q',by unfold ints;rw [List.map_append];rfl,rfl,rfl,by omega,by rw [List.length_append,List.length_singleton];omega,hCh.snoc (by rw [hCl];exact hs) (by rw [← hxe];exact hcx.symm)⟩
      ·have hmz:movesM E x=[]:=by unfold movesM;rw [if_pos (by omega)]
       refine tloop rfl mixed [9,10,11,12,13,14,15,16,17] [] (fun m r h=>∃ (k:Nat) (n:Int),r=[(9,[],.iptr (wkC E P)),(10,[],.sl 1 none (S.map encRSs)),(11,[],.sl 1 none (T.map encSpr)),(12,[],.sl 1 none (ints Cb)),(13,[],.int .i64 d),(14,[],.sl 1 (some q14) (ints Ch)),(15,[],.int .i64 i),(16,[],.int .i64 n),(17,[],.int .i64 k)]∧h=(q14,.tok)::[]∧m=0∧k=0∧(0≤n∧n≤CM)∧cntS E x=n) ?_ ?_
       ·conv=>whnf
        exact ⟨_,_,Turn.refl _ _,_,0,1,rfl,rfl,rfl,rfl,by have h:=hob;rw [h2] at h;exact h,by rw [hcs,h2,hmz];rfl⟩
       ·rintro m r h' ⟨k,n,rfl,rfl,rfl,rfl,hn,hg⟩
        conv=>whnf
        repeat ((refine ⟨0,encSpr [[]],?_,?_⟩;(focus (conv=>whnf;skip));(focus (intro hq1;exact absurd (of_decide_eq_true hq1) (by omega))));conv=>whnf)
        refine cF (by rw [decide_eq_false (show ¬ ((d:Int)<12) by omega)];rfl) ?_
        have hcx:cntS E x=n:=hg
        conv=>whnf
        repeat ((first|refine ⟨gP_of ⟨by omega,by omega⟩,?_⟩|(refine ⟨(by rw [List.length_append,List.length_singleton,ints_length];unfold AMAX;omega),fun q'=>⟨_,.here _,?_⟩⟩));conv=>whnf)
        exact ⟨_,_,Turn.refl _ _,_,(by omega),i+1,Ch++[n],q',by unfold ints;rw [List.map_append];rfl,rfl,rfl,by omega,by rw [List.length_append,List.length_singleton];omega,hCh.snoc (by rw [hCl];exact hs) (by rw [← hxe];exact hcx.symm)⟩
     ·have hq:(decide (0<(d:Int))&&endM E P s)=false:=hq
      have h2:oneC E x=0:=by unfold oneC;rw [hlt,if_neg (by rw [hq];decide)]
      conv=>whnf
      skip
      by_cases hd:d<12
      ·obtain ⟨l',hl'⟩:=get_lt (l:=S) (i:=d+1) (by omega)
       obtain ⟨rows,hrows⟩:=get_lt (l:=T) (i:=d) (by omega)
       obtain ⟨hrl,hrs0⟩:=hL.step d l l' rows hl hl' hrows
       obtain ⟨row,hrow⟩:=get_lt (l:=rows) (i:=i) (by omega)
       have hst:=hrs0 i s row hs hrow
       rw [← hxe] at hst
       obtain ⟨hBl,hBo⟩:=hCb l' hl'
       have hrowl:=hst.len
       have hml:=moves_len (x:=x) hE
       refine tloop rfl mixed [9,10,11,12,13,14,15,16,17] [] (fun m r h=>∃ (k:Nat) (n:Int),r=[(9,[],.iptr (wkC E P)),(10,[],.sl 1 none (S.map encRSs)),(11,[],.sl 1 none (T.map encSpr)),(12,[],.sl 1 none (ints Cb)),(13,[],.int .i64 d),(14,[],.sl 1 (some q14) (ints Ch)),(15,[],.int .i64 i),(16,[],.int .i64 n),(17,[],.int .i64 k)]∧h=(q14,.tok)::[]∧m=row.length - k∧k≤row.length∧(0≤n∧n≤CM)∧cntS E x=((movesM E x).drop k).foldl (fun n m=>addC n (cntS E m.to)) n) ?_ ?_
       ·conv=>whnf
        exact ⟨_,_,Turn.refl _ _,_,0,0,rfl,rfl,rfl,by omega,by have h:=hob;rw [h2] at h;exact h,by rw [hcs,h2];rfl⟩
       ·rintro m r h' ⟨k,n,rfl,rfl,rfl,hk,hn,hg⟩
        conv=>whnf
        repeat (refine ix (by assumption) ?_;conv=>whnf)
        refine ⟨fun hz2=>?_,fun hz2=>?_⟩
        ·have hz2:(decide ((d:Int)<12)&&decide ((k:Int)<((row.map encStp).length:Int)))=true:=hz2
         rw [List.length_map,Bool.and_eq_true,decide_eq_true_eq,decide_eq_true_eq] at hz2
         obtain ⟨t,ht⟩:=get_lt (l:=row) (i:=k) (by omega)
         obtain ⟨mv,hmv⟩:=get_lt (l:=movesM E x) (i:=k) (by omega)
         have hsr:=hst.get ht hmv
         obtain ⟨r1,g1,g2⟩:=hsr.to
         obtain ⟨c1,hc1⟩:=get_lt (l:=Cb) (i:=t.to) (by have:=(List.getElem?_eq_some_iff.1 g1).1;omega)
         have hok:=hBo _ _ _ g1 hc1
         have hn1:((d+1:Nat):Int)=(d:Int)+1:=by push_cast;rfl
         rw [hn1,g2] at hok
         have hkb:=cntS_in E mv.to
         have hab:=addC_in hn hkb.1
         have hCM:CM=1099511627776:=rfl
         rw [← hok] at hkb hab
         rw [drop_cons hmv,List.foldl_cons,← hok] at hg
         conv=>whnf
         repeat ((first|refine ⟨gP_of ⟨by omega,by omega⟩,?_⟩|refine ix (by assumption) ?_);conv=>whnf)
         exact ⟨_,_,Turn.refl _ _,_,(by omega),k+1,addC n c1,rfl,rfl,rfl,by omega,hab,hg⟩
        ·have hz2:(decide ((d:Int)<12)&&decide ((k:Int)<((row.map encStp).length:Int)))=false:=hz2
         rw [List.length_map,decide_eq_true (by omega),Bool.true_and,decide_eq_false_iff_not] at hz2
         rw [drop_nil (by omega)] at hg
         have hcx:cntS E x=n:=hg
         conv=>whnf
         repeat ((first|refine ⟨gP_of ⟨by omega,by omega⟩,?_⟩|(refine ⟨(by rw [List.length_append,List.length_singleton,ints_length];unfold AMAX;omega),fun q'=>⟨_,.here _,?_⟩⟩));conv=>whnf)
         exact ⟨_,_,Turn.refl _ _,_,(by omega),i+1,Ch++[n],q',by unfold ints;rw [List.map_append];rfl,rfl,rfl,by omega,by rw [List.length_append,List.length_singleton];omega,hCh.snoc (by rw [hCl];exact hs) (by rw [← hxe];exact hcx.symm)⟩
      ·have hmz:movesM E x=[]:=by unfold movesM;rw [if_pos (by omega)]
       refine tloop rfl mixed [9,10,11,12,13,14,15,16,17] [] (fun m r h=>∃ (k:Nat) (n:Int),r=[(9,[],.iptr (wkC E P)),(10,[],.sl 1 none (S.map encRSs)),(11,[],.sl 1 none (T.map encSpr)),(12,[],.sl 1 none (ints Cb)),(13,[],.int .i64 d),(14,[],.sl 1 (some q14) (ints Ch)),(15,[],.int .i64 i),(16,[],.int .i64 n),(17,[],.int .i64 k)]∧h=(q14,.tok)::[]∧m=0∧k=0∧(0≤n∧n≤CM)∧cntS E x=n) ?_ ?_
       ·conv=>whnf
        exact ⟨_,_,Turn.refl _ _,_,0,0,rfl,rfl,rfl,rfl,by have h:=hob;rw [h2] at h;exact h,by rw [hcs,h2,hmz];rfl⟩
       ·rintro m r h' ⟨k,n,rfl,rfl,rfl,rfl,hn,hg⟩
        conv=>whnf
        repeat ((refine ⟨0,encSpr [[]],?_,?_⟩;(focus (conv=>whnf;skip));(focus (intro hq1;exact absurd (of_decide_eq_true hq1) (by omega))));conv=>whnf)
        refine cF (by rw [decide_eq_false (show ¬ ((d:Int)<12) by omega)];rfl) ?_
        have hcx:cntS E x=n:=hg
        conv=>whnf
        repeat ((first|refine ⟨gP_of ⟨by omega,by omega⟩,?_⟩|(refine ⟨(by rw [List.length_append,List.length_singleton,ints_length];unfold AMAX;omega),fun q'=>⟨_,.here _,?_⟩⟩));conv=>whnf)
        exact ⟨_,_,Turn.refl _ _,_,(by omega),i+1,Ch++[n],q',by unfold ints;rw [List.map_append];rfl,rfl,rfl,by omega,by rw [List.length_append,List.length_singleton];omega,hCh.snoc (by rw [hCl];exact hs) (by rw [← hxe];exact hcx.symm)⟩
    ·have hie:i=l.length:=by omega
     conv=>whnf
     repeat (refine ⟨gP_of ⟨by omega,by omega⟩,?_⟩;conv=>whnf)
     exact ⟨_,_,Turn.trans (Turn.weak (.cons (VLe.refl _) (.cons (VLe.refl _) (.cons (VLe.refl _) (.cons VLe.sl (RLe.refl _)))))) (Turn.drop (.here _)),_,(by omega),d,_,Ch,rfl,rfl,rfl,by omega,by omega,fun l2 hl2=>by rw [hl] at hl2;cases hl2;exact ⟨by omega,hCh⟩⟩
  ·obtain rfl:a=0:=by omega
   obtain ⟨hB1,hB2⟩:=hCb [rs0] hL.first
   obtain ⟨c0,hc0⟩:=get_lt (l:=Cb) (i:=0) (by rw [hB1];decide)
   have hok:=hB2 0 rs0 c0 rfl hc0
   rw [show toS P ((0:Nat):Int) rs0=st0 from rfl] at hok
   conv=>whnf
   repeat (refine ix (by assumption) ?_;conv=>whnf)
   rw [hok]
   exact VLe.refl _
theorem gen_len {cls:List (List Int)}:∀ (n:Nat) (rs:Nat→Nat),n=remGo rs cls 0→(gen cls n rs).length=n
 | 0,_,_=>rfl
 | n+1,rs,h=>by
   unfold gen
   cases hb:best cls rs with
   | none=>
     have hz:∀ (l:List (List Int)) (k:Nat),(∀ (j:Nat) m,l[j]?=some m→m[rs (k+j)]?=none)→remGo rs l k=0:=by
      intro l
      induction l with
      | nil=>intro k _;rfl
      | cons m t ih=>
        intro k hm
        unfold remGo
        have h1:=hm 0 m rfl
        rw [Nat.add_zero,List.getElem?_eq_none_iff] at h1
        rw [ih (k+1) fun j m' hj=>by have:=hm (j+1) m' (by simpa using hj);rwa [show k+1+j=k+(j+1) by omega]]
        omega
     have:=hz cls 0 (fun j m hj=>bestGo_none (show bestGo rs cls 0=none from hb) j m hj)
     omega
   | some x=>
     obtain ⟨⟨h1,l,h2,h3⟩,_⟩:=best_some hb
     have hl:=(List.getElem?_eq_some_iff.1 h3).1
     have:=remGo_up (rs:=rs) (e:=x.edge) (ls:=cls) (k:=0) (l:=l) (Nat.zero_le _) (by simpa using h2) (by omega)
     show (x::gen cls n (up rs x.edge)).length=n+1
     rw [List.length_cons,gen_len n (up rs x.edge) (by omega)]
theorem rem_zro:∀ (cls:List (List Int)) (k:Nat),remGo zro cls k=(cls.map List.length).sum
 | [],_=>rfl
 | l::t,k=>by
   unfold remGo
   rw [rem_zro t (k+1),List.map_cons,List.sum_cons]
   rfl
theorem mgW_len (cls:List (List Int)):(mgW cls).length=(cls.map List.length).sum:=by
 unfold mgW
 rw [gen_len _ _ rfl,rem_zro]
theorem foldC_min {α:Type} {f:α→Int} {g:α→Nat}:∀ {l:List α} {n m:Nat},(∀ a∈l,f a=min (g a:Int) CM)→(min (n:Int) CM)=(min (m:Int) CM)→l.foldl (fun n a=>addC n (f a)) (min (n:Int) CM)=min ((m+(l.map g).sum:Nat):Int) CM
 | [],n,m,_,h=>by
   rw [List.foldl_nil,h]
   simp
 | a::l,n,m,hf,h=>by
   have e:addC (min (n:Int) CM) (f a)=min ((m+g a:Nat):Int) CM:=by
    rw [hf a (List.mem_cons_self ..),h]
    unfold addC CM
    push_cast
    omega
   rw [List.foldl_cons,e,foldC_min (n:=m+g a) (m:=m+g a) (fun b hb=>hf b (List.mem_cons_of_mem _ hb)) rfl,List.map_cons,List.sum_cons]
   congr 2
   omega
theorem cnt_len {E:Env} (hE:EOK E):∀ (d:Nat) (x:Sta),StOK E x→(12 - x.n).toNat=d→cntS E x=min ((wayS E x).length:Int) CM:=by
 have step:∀ x,StOK E x→(∀ m∈movesM E x,cntS E m.to=min ((wayS E m.to).length:Int) CM)→cntS E x=min ((wayS E x).length:Int) CM:=by
  intro x hx hm
  have h1:oneC E x=min ((lastL E x).length:Int) CM:=by
   unfold oneC lastL CM
   split<;>rfl
  rw [cntS_eq hE hx,h1,foldC_min (g:=fun m=>(wayS E m.to).length) hm rfl,wayS_eq hE hx,mgW_len]
  have h2:(clsX E x).map List.length=(lastL E x).length::(movesM E x).map fun m=>(wayS E m.to).length:=by
   unfold clsX clsS
   rw [List.map_cons,List.map_map]
   congr 1
   refine List.map_congr_left fun m _=>?_
   show ((wayS E m.to).map _).length=_
   rw [List.length_map]
  rw [h2,List.sum_cons]
 intro d
 induction d with
 | zero=>
   intro x hx hd
   refine step x hx fun m hm=>?_
   have h1:=hx.n
   have h2:=(moves_ok hE hx hm).next
   have h3:=(moves_ok hE hx hm).to.n
   omega
 | succ d ih=>
   intro x hx hd
   refine step x hx fun m hm=>?_
   have h1:=hx.n
   have h2:=(moves_ok hE hx hm).next
   exact ih m.to (moves_ok hE hx hm).to (by omega)
def c5:Cfg:=⟨[0,1,2,3,4,5,6,7,8,9,10,11,12,14,37,47,62],[],[],[],[],[]⟩
theorem cnt_list {H:Hou} {B:Hab} {f:Frm} (hb:begErr H B f=0) (h1:0<cntV H B f) (h2:cntV H B f≤64):listE H B f 64=0∧((listS H B f 64).length:Int)=cntV H B f:=by
 obtain ⟨h3,h4,h5⟩:=beg_ok hb
 have hE:=env_ok h3 h4 (frmOK h5)
 have hc:=cnt_len hE _ st0 st0_ok rfl
 have hv:cntV H B f=cntS (envM H B f) st0:=by unfold cntV;rw [if_pos hb]
 rw [hv,hc] at h1 h2 ⊢
 have hCM:CM=1099511627776:=rfl
 have hne:wayS (envM H B f) st0≠[]:=by
  intro h
  rw [h] at h1
  simp at h1
  omega
 have hl:listE H B f 64=0:=by
  unfold listE
  rw [if_neg (by omega),if_pos (by decide),if_neg hne]
 refine ⟨hl,?_⟩
 unfold listS splsOf
 rw [if_pos hl,List.length_map,List.length_take]
 have:(64:Int).toNat=64:=rfl
 rw [this]
 omega
theorem spellCountsL (H:Hou) (B:Hab) (f:Frm) (hf:HouFit H) (hB:HabFit B) (hc:f.clitics.length≤1048576):QCall Tryz.prog 5 [.agg (encHou H),.agg (encHab B),.agg (encFrm f)] [] (.bool true):=by
 have hfl:f.clitics.length≤LMAX:=by unfold LMAX;omega
 refine fcalls (F:=Tryz.f5) c5 rfl rfl rfl mixed rfl fun X=>?_
 conv=>whnf
 repeat (refine QCall.k0 (heavyNil H) ?_;conv=>whnf)
 refine ⟨fun h0=>?_,fun h0=>?_⟩
 ·conv=>whnf
  repeat (refine QCall.k0 (spWorks) ?_;conv=>whnf)
  exact ⟨rfl,rfl⟩
 conv=>whnf
 repeat ((first|refine QCall.k0 (spCountW H B f hf hB hfl) ?_|refine QCall.k0 (r7Count H B f hf hB hfl) ?_);conv=>whnf)
 refine cF (by simp) ?_
 conv=>whnf
 skip
 refine ⟨fun h1=>?_,fun h1=>?_⟩
 ·have h1:((decide (begErr H B f=0)&&decide (0<cntV H B f))&&decide (cntV H B f≤64))=true:=h1
  simp only [Bool.and_eq_true,decide_eq_true_eq] at h1
  obtain ⟨g1,g2⟩:=cnt_list h1.1.1 h1.1.2 h1.2
  have hl:=spListW H B f 64 hf hB hfl
  rw [g1] at hl
  have he:((((listS H B f 64).map encSpl).length:Nat):Int)=cntV H B f:=by rw [List.length_map];exact g2
  conv=>whnf
  repeat (refine QCall.k0 (hl) ?_;conv=>whnf)
  refine cF (by rw [he];simp) ?_
  conv=>whnf
  repeat (refine QCall.k0 (spWorks) ?_;conv=>whnf)
  exact ⟨rfl,rfl⟩
 ·conv=>whnf
  repeat (refine QCall.k0 (spWorks) ?_;conv=>whnf)
  exact ⟨rfl,rfl⟩
end Go.Abs.Wall.Spl
