/- Small laws for the walks and contracts of functions; each theorem names its conditions. -/
import Derived.Test.YtdjdbggpgmddnaaGreatN20
import Derived.Test.YtdjdbggpgmddnaaGreatN25
import Derived.Test.YtdjdbggpgmddnaaGreatN16
set_option maxRecDepth 100000
set_option maxHeartbeats 2000000
set_option linter.unusedVariables false
set_option linter.unusedSimpArgs false
namespace Go.Abs.Wall.Dic
open Go Go.Abs Go.Proofs Go.Abs.Wall
open Go.Abs.Wall.Lst
theorem byRes {A:Prop} {P:List Nod->Int->Int->Prop} (h1:(∀ ns a e,NodB ns->P ns a e)->A) (h2:∀ ns a e,NodB ns->P ns a e):A:=h1 h2
def encTx (s:List UInt8):List AV:=[.str s]
def c3:Cfg:=⟨[0,1,2,4,5,6,7,8,10,11,12,13,14,15,16,18,19,20,21,22,23,24,25,27,28,29,37,44,52,66,80,93,109,113,126,130,148,153,158,170,178,196,207],[],[5,8,12,17,22,26],[],[(25,[0,1,2,3,4,5,6,7,8,9,10,11],[17]),(48,[0,1,2,3,4,5,6,7,8,9,10,11],[26]),(15,[],[]),(20,[],[]),(39,[],[])],[61]⟩
theorem topDictionaryL (H:Hou) (texts:List (List UInt8)) (hf:HouFit H) (htl:texts.length<=1048576):QCall Tryz.prog 3 [.agg (encHou H),.sl 1 none (texts.map encTx)] [] (.bool true):=by
 refine QCall.of' ?_;refine fcalls (F:=Tryz.f3) c3 rfl rfl rfl mixed rfl fun X=>?_;(conv=>whnf);repeat (refine QCall.k0 (topHomely H hf) ?_;conv=>whnf)
 refine ⟨fun hz=>?_,fun hz=>?_⟩
 ·(conv=>whnf);repeat (refine QCall.k0 (topReads) ?_;conv=>whnf)
 rw [Bool.or_eq_false_iff] at hz;obtain ⟨hh,hn⟩:=hz;unfold homeM at hh;simp only [Bool.not_eq_false',Bool.and_eq_true,decide_eq_true_eq] at hh;obtain ⟨⟨⟨⟨⟨hh1,hh2⟩,hh3⟩,hh4⟩,hh5⟩,hh6⟩:=hh;have hn5:texts.length<=5:=by have:=of_decide_eq_false hn;rw [List.length_map] at this;omega
 (conv=>whnf);repeat ((first|refine QCall.k0 (topCopied H hh2 hh6) ?_|refine ⟨_,_,Rem.here _,⟨Nat.le_of_ble_eq_true rfl,rfl⟩,?_⟩|intro (nb:Nat));conv=>whnf)
 refine sloop rfl mixed [1,2,5,6,7] [] (fun m r h=>∃ (i:Nat) (ls:List (List Int)) (ov:AV) (oh:Heap),r=[(1,[],.sl 1 none (texts.map encTx)),(2,[],.iptr (encHou H)),(5,[],.iptr (encHou H)),(6,[],ov),(7,[],.int .i64 i)]/\h=oh/\m=texts.length - i/\i<=texts.length/\ls.length<=i/\(∀ l∈ls,l.length<=10)/\Out 1 encIs ls ov oh) ?_ ?_
 ·(conv=>whnf);exact ⟨_,0,[],.nilS,[],rfl,rfl,rfl,by omega,Nat.le_refl _,by simp,.inl ⟨rfl,rfl,rfl⟩⟩
 rintro m r h ⟨i,ls,ov,oh,rfl,rfl,rfl,hi,hll,hl10,hO⟩;(conv=>whnf);skip;refine ⟨fun c1=>?_,fun c1=>?_⟩
 ·have hil:i<texts.length:=by have:=of_decide_eq_true c1;rw [List.length_map] at this;omega
  obtain ⟨s,hs⟩:∃ s,texts[i]?=some s:=⟨_,List.getElem?_eq_getElem hil⟩;(conv=>whnf);repeat (refine ix (by assumption) ?_;conv=>whnf)
  refine ⟨fun c2=>?_,fun c2=>?_⟩
  ·(conv=>whnf);repeat (refine QCall.k0 (topReads) ?_;conv=>whnf)
  have hs80:s.length<=80:=by have:=of_decide_eq_false c2;omega
  (conv=>whnf);refine make_region rfl mixed [0,1,2,3,4,5] [6,11] [7,8,9,10,12,13,14] [8] (by show drawOK (opsAt Tryz.f3 _) _=true;decide +kernel) ?_;(conv=>whnf);repeat (refine ix (by assumption) ?_;conv=>whnf)
  apply byRes
  ·intro key;refine ⟨by first|decide +kernel|rfl,?_,?_,trivial⟩
   ·(conv=>whnf);refine ⟨by first|decide +kernel|rfl,?_⟩;(conv=>whnf);refine ACalls.mono ?_ ((ReadC H.list hf.list (by omega) s (by omega)).frame _);rintro v h' ⟨h1,⟨ns,a,e,rfl,hN,rfl⟩,hE⟩;rw [show h'=h from hE];(conv=>whnf);skip;refine ⟨by first|decide +kernel|rfl,⟨by first|decide +kernel|rfl,?_⟩,trivial⟩;(conv=>whnf);intro n1;(conv=>whnf);repeat ((first|(refine ⟨_,_,.here _,⟨Nat.le_of_ble_eq_true rfl,Nat.le_of_ble_eq_true rfl⟩,?_⟩)|refine ⟨_,_,Rem.here _,?_⟩);conv=>whnf)
    exact key ns a e hN
   (conv=>whnf);refine ⟨by first|decide +kernel|rfl,?_⟩;(conv=>whnf);intro n1;(conv=>whnf);refine ⟨by first|decide +kernel|rfl,⟨by first|decide +kernel|rfl,?_⟩,trivial⟩;(conv=>whnf);refine ACalls.mono ?_ ((ReadC H.list hf.list (by omega) s (by omega)).frame _);rintro v h' ⟨h1,⟨ns,a,e,rfl,hN,rfl⟩,hE⟩;rw [show h'=(n1,Ob.vec [.nilS])::h from hE];(conv=>whnf);repeat ((first|(refine ⟨_,_,.here _,⟨Nat.le_of_ble_eq_true rfl,Nat.le_of_ble_eq_true rfl⟩,?_⟩)|refine ⟨_,_,Rem.here _,?_⟩);conv=>whnf)
   exact key ns a e hN
  intro ns a e hN;refine ⟨_,_,Turn.refl _ _,?_⟩;(conv=>whnf);skip;refine ⟨fun c3=>?_,fun c3=>?_⟩
  ·(conv=>whnf);repeat (refine ⟨gP_of ⟨by omega,by omega⟩,?_⟩;conv=>whnf)
   exact ⟨texts.length - (i+1),by omega,i+1,ls,ov,h,rfl,rfl,rfl,by omega,by omega,hl10,hO⟩
  (conv=>whnf);repeat ((refine ACalls.mono ?_ ((OrderC H.list hf.list ns hN.1 (by unfold LMAX;omega) hN.2).frame _));conv=>whnf)
  rintro v h' ⟨h1,⟨e2,xs,rfl,rfl⟩,hE⟩;rw [show h'=h from hE];(conv=>whnf);skip;refine ⟨fun c4=>?_,fun c4=>?_⟩
  ·have hx10:xs.length<=10:=by
    rw [Bool.and_eq_true] at c4;have:=of_decide_eq_true c4.2;rw [show (ints xs).length=xs.length from List.length_map _] at this;omega
   have hl11:∀ l∈ls++[xs],l.length<=10:=by
    intro l hl;rcases List.mem_append.1 hl with hl|hl
    ·exact hl10 l hl
    simp at hl;rw [hl];exact hx10
   rcases hO with ⟨rfl,rfl,rfl⟩|⟨q,rfl,rfl⟩
   ·(conv=>whnf);repeat ((first|refine ⟨gP_of ⟨by omega,by omega⟩,?_⟩|(refine ⟨Nat.le_of_ble_eq_true rfl,fun q=>?_⟩));conv=>whnf)
    exact ⟨texts.length - (i+1),by omega,i+1,[xs],_,_,rfl,rfl,rfl,by omega,by simp,hl11,.inr ⟨q,rfl,rfl⟩⟩
   (conv=>whnf);repeat ((first|refine ⟨gP_of ⟨by omega,by omega⟩,?_⟩|(refine ⟨by simp;unfold AMAX;omega,fun q'=>⟨_,.here _,?_⟩⟩));conv=>whnf)
   exact ⟨texts.length - (i+1),by omega,i+1,ls++[xs],_,_,rfl,rfl,rfl,by omega,by simp;omega,hl11,.inr ⟨q',by rw [List.map_append];rfl,rfl⟩⟩
  (conv=>whnf);repeat (refine ⟨gP_of ⟨by omega,by omega⟩,?_⟩;conv=>whnf)
  exact ⟨texts.length - (i+1),by omega,i+1,ls,ov,h,rfl,rfl,rfl,by omega,by omega,hl10,hO⟩
 have hfc:CorFit H ls:=⟨hf,fun l hl=>by have:=hl10 l hl;omega,by omega⟩;have hDA:=DictA H ls hfc;have hlV:VLe ov (.sl 1 none (ls.map encIs)):=hO.le (by omega);(conv=>whnf);skip;refine region_turn rfl mixed (Turn.trans (Turn.weak (.cons (VLe.refl _) (.cons (VLe.refl _) (.cons (VLe.refl _) (.cons hlV (RLe.refl _)))))) (Turn.sublist (List.nil_sublist _))) ?_;rw [DicP] at hDA;(conv=>whnf);repeat ((first|refine QCall.k0 (hDA) ?_|refine ⟨_,_,Rem.here _,⟨Nat.le_of_ble_eq_true rfl,rfl⟩,?_⟩|intro (nb:Nat));conv=>whnf)
 refine ⟨fun c2=>?_,fun c2=>?_⟩
 ·have h0:indErr H ls≠0:=(by simpa using c2);have hz:(dicL H ls).length=0:=by unfold dicL;rw [indR_none h0];rfl
  (conv=>whnf);repeat (refine gcall (topReads) ?_;conv=>whnf)
  rw [List.length_map,hz];rfl
 have h0:indErr H ls=0:=(by simpa using c2);have hX:dicX H ls=onlyX H.lex (dicK H ls):=by unfold dicX;rw [if_pos h0]
 have hkl:(dicK H ls).length=(indR H ls).length:=(by rw [dicK,ntr_len]);have hil:=(indR_fit hfc).1;have hLl:(dicL H ls).length=(indR H ls).length:=by unfold dicL;exact ren_len _ _
 have hDf:HouFit (onlyH H (dicK H ls)):=only_houfit hf (by omega) (dicK_ok (lines:=ls)).2;have hDc:CorFit (onlyH H (dicK H ls)) ls:=⟨hDf,hfc.line,hfc.lines⟩;(conv=>whnf);repeat ((first|refine QCall.k0 (topCopied H hh2 hh6) ?_|refine ⟨_,_,.here _,leOK,?_⟩|intro (nb:Nat));conv=>whnf)
 rw [hX];refine region_turn rfl mixed (Turn.freeze (b:=nb) (.here _) (FzH.refl _) (.cons (.refl _) (.cons (.refl _) (.cons (.refl _) (.cons (.refl _) (.cons (.refl _) (.cons (.refl _) (.cons (.refl _) (.cons (.refl _) (.cons (.ptr (l:=encHou (onlyH H (dicK H ls))) rfl) (FzR.refl _))))))))))) ?_;(conv=>whnf);skip;refine cF ?_ ?_
 ·rw [List.length_map,List.length_map,hLl,show (onlyX H.lex (dicK H ls)).entries.length=(dicK H ls).length from List.length_map _,hkl];simp
 (conv=>whnf);skip;refine sloop rfl mixed [6,12,13,15,16] [] (fun m r h=>∃ (j:Nat),r=[(6,[],.sl 1 none (ls.map encIs)),(12,[],.iptr (encLex (onlyX H.lex (dicK H ls)))),(13,[],.sl 2 none ((dicL H ls).map encNd)),(15,[],.iptr (encHou (onlyH H (dicK H ls)))),(16,[],.int .i64 j)]/\h=[]/\m=ls.length - j/\j<=ls.length) ?_ ?_
 ·(conv=>whnf);exact ⟨_,0,rfl,rfl,rfl,by omega⟩
 rintro m r h ⟨j,rfl,rfl,rfl,hj⟩;(conv=>whnf);skip;refine ⟨fun c3=>?_,fun c3=>?_⟩
 ·have hjl:j<ls.length:=by have:=of_decide_eq_true c3;rw [List.length_map] at this;omega
  obtain ⟨l,hlj⟩:∃ l,ls[j]?=some l:=⟨_,List.getElem?_eq_getElem hjl⟩;have hlm:=List.mem_of_getElem? hlj;have hb:=bestW (onlyH H (dicK H ls)) l hDf (by have:=hl10 l hlm;omega);rw [dic_all h0 hlm] at hb;(conv=>whnf);repeat ((first|refine ix (by assumption) ?_|refine gcall (hb) ?_|refine ⟨_,_,Rem.here _,?_⟩|refine ⟨_,_,.here _,leOK,?_⟩|refine And.intro (by show drawOK (opsAt Tryz.f3 _) _=true;decide +kernel) ?_|intro (nb:Nat));conv=>whnf)
  refine cF rfl ?_;(conv=>whnf);repeat (refine ⟨gP_of ⟨by omega,by omega⟩,?_⟩;conv=>whnf)
  exact ⟨ls.length - (j+1),by omega,j+1,rfl,rfl,rfl,by omega⟩
 (conv=>whnf);skip;refine sloop rfl mixed [6,12,13,15,19] [] (fun m r h=>∃ (j:Nat),r=[(6,[],.sl 1 none (ls.map encIs)),(12,[],.iptr (encLex (onlyX H.lex (dicK H ls)))),(13,[],.sl 2 none ((dicL H ls).map encNd)),(15,[],.iptr (encHou (onlyH H (dicK H ls)))),(19,[],.int .i64 j)]/\h=[]/\m=(dicL H ls).length - j/\j<=(dicL H ls).length) ?_ ?_
 ·(conv=>whnf);exact ⟨_,0,rfl,rfl,rfl,by omega⟩
 rintro m r h ⟨j,rfl,rfl,rfl,hj⟩;(conv=>whnf);skip;refine ⟨fun c4=>?_,fun c4=>?_⟩
 ·have hjl:j<(dicL H ls).length:=by have:=of_decide_eq_true c4;rw [List.length_map] at this;omega
  obtain ⟨x,hx⟩:∃ x,(indR H ls)[j]?=some x:=⟨_,List.getElem?_eq_getElem (by omega)⟩;have hxl:=((indR_fit hfc).2 x (List.mem_of_getElem? hx)).lines;have hLj:(dicL H ls)[j]?=some ⟨(j:Int),x.lines⟩:=by unfold dicL;rw [ren_get,hx,Nat.zero_add];rfl
  have hxn:(ints x.lines).length≠0:=by have:=dic_named h0 hx;rw [show (ints x.lines).length=x.lines.length from List.length_map _];exact fun h=>this (List.eq_nil_of_length_eq_zero h)
  (conv=>whnf);repeat (refine ix (by assumption) ?_;conv=>whnf)
  refine cF ?_ ?_
  ·rw [decide_eq_true rfl,decide_eq_false (fun h=>hxn (Int.ofNat_eq_zero.1 h))];rfl
  (conv=>whnf);skip;refine sloop rfl mixed [6,12,13,15,19,20,21] [] (fun m r h=>∃ (k:Nat) (kv:AV) (oh:Heap),r=[(6,[],.sl 1 none (ls.map encIs)),(12,[],.iptr (encLex (onlyX H.lex (dicK H ls)))),(13,[],.sl 2 none ((dicL H ls).map encNd)),(15,[],.iptr (encHou (onlyH H (dicK H ls)))),(19,[],.int .i64 j),(20,[],kv),(21,[],.int .i64 k)]/\h=oh/\m=(dicK H ls).length - k/\k<=(dicK H ls).length/\Out 1 (fun n=>[AV.int .i64 n]) (allBut k j) kv oh) ?_ ?_
  ·(conv=>whnf);exact ⟨_,0,.nilS,[],rfl,rfl,rfl,by omega,.inl ⟨rfl,rfl,rfl⟩⟩
  rintro m r h ⟨k,kv,oh,rfl,rfl,rfl,hk,hO3⟩;have hel:((onlyX H.lex (dicK H ls)).entries.map encEnt).length=(dicK H ls).length:=by rw [List.length_map];exact List.length_map _
  (conv=>whnf);skip;rw [hel];refine ⟨fun c5=>?_,fun c5=>?_⟩
  ·have hkl2:k<(dicK H ls).length:=by have:=of_decide_eq_true c5;omega
   have hsn:allBut (k+1) j=allBut k j++(if k≠j then [(k:Int)] else []):=by
    unfold allBut;rw [List.range_succ,List.filter_append,List.map_append];congr 1;by_cases hkj:k=j
    ·rw [if_neg (by simpa using hkj),hkj];simp
    rw [if_pos hkj,List.filter_cons,if_pos (decide_eq_true hkj)];rfl
   have hbl:(allBut k j).length<=k:=by unfold allBut;rw [List.length_map];have:=List.length_filter_le (fun a=>decide (a≠j)) (List.range k);rw [List.length_range] at this;exact this
   (conv=>whnf);skip;refine ⟨fun c7=>?_,fun c7=>?_⟩
   ·have hkj:k≠j:=by
     intro h;rw [h] at c7;simp at c7
    rw [if_pos hkj] at hsn;rcases hO3 with ⟨he3,rfl,rfl⟩|⟨q,rfl,rfl⟩
    ·(conv=>whnf);repeat ((first|refine ⟨gP_of ⟨by omega,by omega⟩,?_⟩|(refine ⟨Nat.le_of_ble_eq_true rfl,fun q=>?_⟩));conv=>whnf)
     exact ⟨(dicK H ls).length - (k+1),by omega,k+1,_,_,rfl,rfl,rfl,by omega,.inr ⟨q,by rw [hsn,he3];rfl,rfl⟩⟩
    (conv=>whnf);repeat ((first|refine ⟨gP_of ⟨by omega,by omega⟩,?_⟩|(refine ⟨by simp;unfold AMAX;omega,fun q'=>⟨_,.here _,?_⟩⟩));conv=>whnf)
    exact ⟨(dicK H ls).length - (k+1),by omega,k+1,_,_,rfl,rfl,rfl,by omega,.inr ⟨q',by rw [hsn,List.map_append];rfl,rfl⟩⟩
   have hkj:k=j:=by have:decide ((k:Int)=(j:Int))=true:=(by simpa using c7);have:=of_decide_eq_true this;omega
   rw [if_neg (by simpa using hkj),List.append_nil] at hsn;(conv=>whnf);repeat (refine ⟨gP_of ⟨by omega,by omega⟩,?_⟩;conv=>whnf)
   exact ⟨(dicK H ls).length - (k+1),by omega,k+1,kv,h,rfl,rfl,rfl,by omega,by rw [hsn];exact hO3⟩
  have hkl2:k=(dicK H ls).length:=by refine Nat.le_antisymm hk (Nat.le_of_not_lt fun h=>?_);rw [decide_eq_true (by omega)] at c5;cases c5
  rw [hkl2] at hO3;have hkV:VLe kv (.sl 1 none (ints (allBut (dicK H ls).length j))):=hO3.le (by omega)
  have hOn:=OnlyW (onlyH H (dicK H ls)) (allBut (dicK H ls).length j) hDf (by
   unfold allBut;rw [List.length_map];have:=List.length_filter_le (fun a=>decide (a≠j)) (List.range (dicK H ls).length);rw [List.length_range] at this;omega)
  obtain ⟨ho1,ho2⟩:=dic_only h0 (i:=j) (by omega);rw [ho1,ho2] at hOn;have hEf:HouFit (onlyH H ((dicK H ls).eraseIdx j)):=only_houfit hf (by rw [List.length_eraseIdx];split<;>omega) fun k hk=>(dicK_ok (lines:=ls)).2 k (List.mem_of_mem_eraseIdx hk)
  (conv=>whnf);skip;refine region_turn rfl mixed (Turn.trans (Turn.weak (.cons (VLe.refl _) (.cons (VLe.refl _) (.cons (VLe.refl _) (.cons (VLe.refl _) (.cons (VLe.refl _) (.cons hkV (RLe.refl _)))))))) (Turn.sublist (List.nil_sublist _))) ?_;(conv=>whnf);repeat ((first|refine QCall.k0 (hOn) ?_|(refine ⟨_,_,Rem.here _,⟨Nat.le_of_ble_eq_true rfl,rfl⟩,?_⟩)|intro (nb:Nat));conv=>whnf)
  refine cF rfl ?_;(conv=>whnf);skip;refine sloop rfl mixed [6,12,13,15,19,22,24] [] (fun m r h=>∃ (k:Nat),r=[(6,[],.sl 1 none (ls.map encIs)),(12,[],.iptr (encLex (onlyX H.lex (dicK H ls)))),(13,[],.sl 2 none ((dicL H ls).map encNd)),(15,[],.iptr (encHou (onlyH H (dicK H ls)))),(19,[],.int .i64 j),(22,[],.iptr (encHou (onlyH H ((dicK H ls).eraseIdx j)))),(24,[],.int .i64 k)]/\h=[]/\m=x.lines.length - k/\k<=x.lines.length) ?_ ?_
  ·(conv=>whnf);exact ⟨_,0,rfl,rfl,rfl,by omega⟩
  rintro m r h ⟨k,rfl,rfl,rfl,hk⟩;(conv=>whnf);repeat (refine ix (by assumption) ?_;conv=>whnf)
  refine ⟨fun c6=>?_,fun c6=>?_⟩
  ·have hkl2:k<x.lines.length:=by
    have:=of_decide_eq_true c6;rw [show (ints x.lines).length=x.lines.length from List.length_map _] at this;omega
   obtain ⟨n,hn⟩:∃ n,x.lines[k]?=some n:=⟨_,List.getElem?_eq_getElem hkl2⟩;obtain ⟨p,l,rfl,hlp,hb⟩:=dic_less h0 hx (List.mem_of_getElem? hn);have hpl:=(List.getElem?_eq_some_iff.1 hlp).1;have hbW:=bestW (onlyH H ((dicK H ls).eraseIdx j)) l hEf (by have:=hl10 l (List.mem_of_getElem? hlp);omega);rw [hb] at hbW;(conv=>whnf);repeat (refine ix (by assumption) ?_;conv=>whnf)
   refine cF ?_ ?_
   ·rw [List.length_map,decide_eq_false (by omega),decide_eq_false (by omega)];rfl
   (conv=>whnf);repeat ((first|refine ix (by assumption) ?_|refine gcall (hbW) ?_|refine ⟨_,_,Rem.here _,?_⟩|refine ⟨_,_,.here _,leOK,?_⟩|refine And.intro (by show drawOK (opsAt Tryz.f3 _) _=true;decide +kernel) ?_|intro (nb:Nat));conv=>whnf)
   refine cF rfl ?_;(conv=>whnf);repeat (refine ⟨gP_of ⟨by omega,by omega⟩,?_⟩;conv=>whnf)
   exact ⟨x.lines.length - (k+1),by omega,k+1,rfl,rfl,rfl,by omega⟩
  (conv=>whnf);repeat (refine ⟨gP_of ⟨by omega,by omega⟩,?_⟩;conv=>whnf)
  exact ⟨(dicL H ls).length - (j+1),by omega,j+1,rfl,rfl,rfl,by omega⟩
 obtain ⟨ha1,ha2⟩:=ind_again h0;have ha1:indErr (onlyH H (dicK H ls)) ls=0:=ha1;have ha2:indR (onlyH H (dicK H ls)) ls=renGo 0 (indR H ls):=ha2;have hI:=induceW (onlyH H (dicK H ls)) ls hDc;have hfi:=indR_fit hDc;have hC:=CheckW (onlyH H (dicK H ls)) ls (indR (onlyH H (dicK H ls)) ls) hDc ⟨hfi.1,hfi.2⟩;rw [check_ind ha1] at hC;rw [ha1] at hI;have hal:(indR (onlyH H (dicK H ls)) ls).length=(dicL H ls).length:=by rw [ha2];rfl
 (conv=>whnf);repeat ((first|refine QCall.k0 (hI) ?_|refine gcall (hC) ?_|refine gcall (topReads) ?_);conv=>whnf)
 rw [List.length_map,List.length_map,hal];simp
end Go.Abs.Wall.Dic
namespace Go.Abs.Wall.Dic
open Go Go.Abs Go.Proofs Go.Abs.Wall Go.Proofs.YtdjdbggpgmddnaaGreat.Br
theorem shTxs {xs:List AV} (h:Sh Tryz.prog B20 34 xs):∃ l:List (List UInt8),xs=[.sl 1 none (l.map encTx)]/\l.length<=B20/\∀ s∈l,s.length<=B20:=
 sh_list (enc:=encTx) h rfl fun y hy=>sh_str hy rfl
theorem argTxs {x:AV} (h:ArgSh Tryz.prog B20 34 x):∃ l:List (List UInt8),x=.sl 1 none (l.map encTx)/\l.length<=B20/\∀ s∈l,s.length<=B20:=by
 obtain ⟨xs,h,hx⟩:=h;have hx:xs=[x]:=hx;obtain ⟨l,h1,h2⟩:=shTxs h;rw [hx] at h1;cases h1
 exact ⟨l,rfl,h2⟩
end Go.Abs.Wall.Dic
