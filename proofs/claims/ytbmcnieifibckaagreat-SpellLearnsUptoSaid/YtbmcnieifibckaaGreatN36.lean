/- What is proved: small laws for the walks of this seat, and contracts of its functions. No condition but those each theorem names. -/
import Derived.Test.YtbmcnieifibckaaGreatN35
import Derived.Test.YtbmcnieifibckaaGreatN31
import Derived.Test.YtbmcnieifibckaaGreatN24
import Derived.Test.YtbmcnieifibckaaGreatN8
set_option maxRecDepth 100000
set_option maxHeartbeats 2000000
set_option linter.unusedVariables false
set_option linter.unusedSimpArgs false
namespace Go.Abs.Wall.Spl
open Go Go.Abs Go.Proofs Go.Abs.Wall Go.Proofs.YtbmcnieifibckaaGreat.Br
open Go.Abs.Wall.Lst (bestL listErr listL rdsOf pthR PathG rdV_path price_edge bestW)
def c90:Cfg:=⟨[0,1,4,5,8,12],[],[],[],[],[]⟩
def c44:Cfg:=⟨[0,1,2,4,5,6,7,8,9,10,11,12,13,14,15,16,17,18,19,20,21,22,23,27,32,42,55,64,83,100,107,116,125,143,149,168,175],[],[13,17],[],[(11,[0,1,2,3,4,5,6,7,8,9,10,11],[13])],[]⟩
def c12:Cfg:=⟨[0,1,2,4,5,6,7,8,9,17,22,30],[],[6,8],[],[(6,[0,1,2,3,4,5],[])],[]⟩
theorem r7Habit (a b:Int):QCall Tryz.prog 90 [.int .i64 b,.int .i64 a] [] (.int .i64 (custM a b)):=by
 refine fcalls (F:=Tryz.f90) c90 rfl rfl rfl mixed rfl fun X=>?_
 conv=>whnf
 skip
 refine ⟨fun h0=>?_,fun h0=>?_⟩<;>simp at h0
 ·rw [custM,if_pos h0]
  conv=>whnf
  skip
  exact ⟨rfl,rfl⟩
 rw [custM,if_neg h0]
 conv=>whnf
 skip
 refine ⟨fun h1=>?_,fun h1=>?_⟩<;>simp at h1
 ·rw [if_neg (by omega),if_pos h1]
  conv=>whnf
  skip
  exact ⟨rfl,rfl⟩
 conv=>whnf
 skip
 refine ⟨fun h2=>?_,fun h2=>?_⟩<;>simp at h2
 ·rw [if_pos h2]
  conv=>whnf
  skip
  exact ⟨rfl,rfl⟩
 ·rw [if_neg h2,if_neg h1]
  conv=>whnf
  skip
  exact ⟨rfl,rfl⟩
theorem clsC_cons (u:Use) (us:List Use):clsC (u::us)=(if u.kind=4 then (1:Int) else 0)+clsC us:=by unfold clsC;rw [List.map_cons,List.sum_cons]
theorem clsC_in:∀ us:List Use,0≤clsC us∧clsC us≤us.length
 | []=>by unfold clsC;simp
 | u::us=>by
   have h:=clsC_in us
   rw [clsC_cons,List.length_cons]
   split<;>push_cast<;>omega
set_option maxHeartbeats 4000000 in
theorem r7LearnW (H:Hou) (lines:List (List Int)) (hf:HouFit H) (hl:lines.length≤1048576) (hll:∀ l∈lines,l.length≤1048576) :
  QCall Tryz.prog 44 [.agg (encHou H),.sl 1 none (lines.map encLn)] [] (.tup [.agg (encHab (learnM H lines)),.int .i64 (learnE H lines)]):=by
 have zer:∀ e:Int,VLe (.tup [.agg [.nilS,.int .i64 0,.int .i64 0],.int .i64 e]) (.tup [.agg (encHab ⟨[],0,0⟩),.int .i64 e]):=fun e=>VLe.tup (.cons (VLe.agg (.cons (VLe.nil (by decide)) (.cons (VLe.refl _) (.cons (VLe.refl _) .nil)))) (.cons (VLe.refl _) .nil))
 refine QCall.of ?_
 refine fcalls (F:=Tryz.f44) c44 rfl rfl rfl mixed rfl fun X=>?_
 conv=>whnf
 intro rb
 conv=>whnf
 repeat (refine QCall.k0 (refHouse H hf) ?_;conv=>whnf)
 refine ⟨fun h0=>?_,fun h0=>?_⟩<;>simp at h0
 ·have he:learnE H lines=houErr H:=by unfold learnE;rw [if_pos h0]
  unfold learnM
  rw [he,if_neg h0]
  conv=>whnf
  repeat ((first|refine ⟨_,_,.head _,rfl,?_⟩|refine ⟨_,_,.here _,leOK,?_⟩);conv=>whnf)
  exact zer _
 conv=>whnf
 skip
 refine ⟨fun h1=>?_,fun h1=>?_⟩<;>simp at h1
 ·have he:learnE H lines=2:=by unfold learnE;rw [if_neg (by omega),if_pos (by omega)]
  unfold learnM
  rw [he,if_neg (by decide)]
  conv=>whnf
  repeat ((first|refine ⟨_,_,.head _,rfl,?_⟩|refine ⟨_,_,.here _,leOK,?_⟩);conv=>whnf)
  exact zer _
 have he0:learnE H lines=lrnE H lines:=by unfold learnE;rw [if_neg (by omega),if_neg (by omega)]
 have hH:=houOK h0
 have hmany:=(lstOK hH.lst).many
 have hsl:((H.list.signs.map encSgn).length:Int)=H.list.signs.length:=by rw [List.length_map]
 conv=>whnf
 repeat ((refine ⟨⟨rfl,by rw [hsl];omega,by rw [hsl];omega⟩,fun tb=>?_⟩);conv=>whnf)
 rw [show (((H.list.signs.map encSgn).length:Int)).toNat=H.list.signs.length by rw [hsl];omega,zeroRow]
 skip
 obtain ⟨Z,hZ⟩:∃ Z,Z=lines.foldl (lrnL H) (ls0 H):=⟨_,rfl⟩
 have hlm:learnM H lines=if learnE H lines=0 then habL Z else ⟨[],0,0⟩:=by unfold learnM;rw [hZ]
 refine tloop rfl mixed [1,2,4,7,8,9,10,11,12] [] (fun m r h=>∃ (i:Nat) (z:LS),r=[(1,[],.sl 1 none (lines.map encLn)),(2,[],.iptr (encHou H)),(4,[],.optr rb 0),(7,[],.osl tb 0 H.list.signs.length 1),(8,[],.int .i64 z.a),(9,[],.int .i64 z.b),(10,[],.int .i64 z.c),(11,[],.int .i64 z.d),(12,[],.int .i64 i)]∧h=(tb,.vec (z.T.map encI).flatten)::(rb,.vec [.nilS,.int .i64 0,.int .i64 0])::[]∧m=lines.length - i∧i≤lines.length∧LSOK H (60*i) (60*i) z∧lrnE H lines=lrnE H (lines.drop i)∧Z=(lines.drop i).foldl (lrnL H) z) ?_ ?_
 ·conv=>whnf
  exact ⟨_,_,Turn.refl _ _,_,0,ls0 H,rfl,rfl,rfl,by omega,ls0_ok H,rfl,hZ⟩
 ·rintro m r h' ⟨i,z,rfl,rfl,rfl,hi,hz,hE,hF⟩
  have hza:=hz.a
  have hzc:=hz.c
  conv=>whnf
  refine ⟨fun hc=>?_,fun hc=>?_⟩<;>simp at hc
  ·obtain ⟨line,hline⟩:=get_lt hc
   have hlb:=hll line (List.mem_of_getElem? hline)
   rw [drop_cons hline,lrnE] at hE
   rw [drop_cons hline,List.foldl_cons] at hF
   conv=>whnf
   repeat ((first|refine ix (by assumption) ?_|refine gcall (Lst.refBestW H line hf hlb) ?_|refine ⟨_,_,Rem.here _,?_⟩|refine ⟨_,_,.here _,leOK,?_⟩|refine And.intro (by show drawOK (opsAt Tryz.f44 _) _=true;decide +kernel) ?_|intro (nb:Nat));conv=>whnf)
   refine ⟨fun h2=>?_,fun h2=>?_⟩<;>simp at h2
   ·rw [if_pos h2] at hE
    rw [hlm,he0,hE,if_neg h2]
    conv=>whnf
    repeat ((first|(refine ⟨_,_,.there (.here _),leOK,?_⟩)|(refine ⟨_,_,.tail _ (.head _),rfl,?_⟩));conv=>whnf)
    exact zer _
   rw [if_neg (by omega)] at hE
   obtain ⟨hge,hwl,hwp⟩:=best_words h2
   have hLO:=lineOK (Lst.grow_line hge)
   have hfew:=hLO.few
   have hsg:=hLO.signs
   obtain ⟨ws,hws⟩:∃ ws,ws=(bestL H line).words:=⟨_,rfl⟩
   rw [← hws] at hwl hwp
   have hF:Z=(lines.drop (i+1)).foldl (lrnL H) (ws.foldl (lrnW H) { z with T:=line.foldl addT z.T }):=by rw [hF,hws];rfl
   conv=>whnf
   skip
   refine tloop rfl mixed [1,2,4,7,8,9,10,11,12,13,15] [] (fun m r h=>∃ (j:Nat) (T:List Int),r=[(1,[],.sl 1 none (lines.map encLn)),(2,[],.iptr (encHou H)),(4,[],.optr rb 0),(7,[],.osl tb 0 H.list.signs.length 1),(8,[],.int .i64 z.a),(9,[],.int .i64 z.b),(10,[],.int .i64 z.c),(11,[],.int .i64 z.d),(12,[],.int .i64 i),(13,[],.iptr (encRdg (bestL H line))),(15,[],.int .i64 j)]∧h=(tb,.vec (T.map encI).flatten)::(rb,.vec [.nilS,.int .i64 0,.int .i64 0])::[]∧m=line.length - j∧j≤line.length∧LSOK H (60*i+j) (60*i) { z with T:=T }∧line.foldl addT z.T=(line.drop j).foldl addT T) ?_ ?_
   ·conv=>whnf
    exact ⟨_,_,Turn.refl _ _,_,0,z.T,rfl,rfl,rfl,by omega,hz,rfl⟩
   ·rintro m r h' ⟨j,T,rfl,rfl,rfl,hj,hT,hTf⟩
    have hTl:T.length=H.list.signs.length:=hT.len
    conv=>whnf
    repeat (refine ix (by assumption) ?_;conv=>whnf)
    refine ⟨fun hc2=>?_,fun hc2=>?_⟩<;>simp [ints_length] at hc2
    ·obtain ⟨sg,hs⟩:=get_lt hc2
     have hsi:=hsg sg (List.mem_of_getElem? hs)
     obtain ⟨tv,htv⟩:=get_lt (l:=T) (i:=sg.toNat) (by omega)
     have htb:=hT.t tv (List.mem_of_getElem? htv)
     have hgd:T.getD sg.toNat 0=tv:=getD_of htv
     rw [drop_cons hs,List.foldl_cons] at hTf
     conv=>whnf
     repeat ((first|refine ⟨gP_of ⟨by omega,by omega⟩,?_⟩|refine ix (by assumption) ?_|(refine ⟨sg.toNat,gP_of ⟨by omega,by omega⟩,?_⟩)|(refine ldE encI_len (.head _) (by omega) htv ?_)|(refine stE (tv+1) (by decide) encI_len (i:=sg.toNat) (by omega) (by omega) rfl (.here _) ?_));conv=>whnf)
     refine ⟨_,_,Turn.refl _ _,_,(by omega),j+1,addT T sg,rfl,?_,rfl,by omega,(hT.line sg).more (by omega) (Nat.le_refl _),hTf⟩
     unfold addT
     rw [hgd]
    ·rw [drop_nil (by omega)] at hTf
     have hTf:line.foldl addT z.T=T:=hTf
     rw [hTf] at hF
     conv=>whnf
     skip
     refine tloop rfl mixed [1,2,4,7,8,9,10,11,12,13,16] [] (fun m r h=>∃ (k:Nat) (y:LS),r=[(1,[],.sl 1 none (lines.map encLn)),(2,[],.iptr (encHou H)),(4,[],.optr rb 0),(7,[],.osl tb 0 H.list.signs.length 1),(8,[],.int .i64 y.a),(9,[],.int .i64 y.b),(10,[],.int .i64 y.c),(11,[],.int .i64 y.d),(12,[],.int .i64 i),(13,[],.iptr (encRdg (bestL H line))),(16,[],.int .i64 k)]∧h=(tb,.vec (y.T.map encI).flatten)::(rb,.vec [.nilS,.int .i64 0,.int .i64 0])::[]∧m=ws.length - k∧k≤ws.length∧LSOK H (60*i+60) (60*i+k) y∧Z=(lines.drop (i+1)).foldl (lrnL H) ((ws.drop k).foldl (lrnW H) y)) ?_ ?_
     ·conv=>whnf
      exact ⟨_,_,Turn.refl _ _,_,0,{ z with T:=T },rfl,rfl,rfl,by omega,hT.more (by omega) (by omega),hF⟩
     ·clear hF
      rintro m r h' ⟨k,y,rfl,rfl,rfl,hk,hy,hF⟩
      have hya:=hy.a
      have hyc:=hy.c
      have hwle:(((bestL H line).words.map encWrd).length:Int)=ws.length:=by rw [← hws,List.length_map]
      conv=>whnf
      skip
      refine ⟨fun hc3=>?_,fun hc3=>?_⟩<;>simp [← hws] at hc3
      ·obtain ⟨w,hw⟩:=get_lt hc3
       have hw2:(bestL H line).words[k]?=some w:=by rw [← hws];exact hw
       obtain ⟨l2,hpr⟩:=hwp w (List.mem_of_getElem? hw)
       obtain ⟨_,hfe,hsp⟩:=price_line hpr
       have hln:=spells_len hsp
       have hfo:=frmOK hfe
       have hcu:=canU_in w.uses
       have hci:=clsC_in w.uses
       rw [drop_cons hw,List.foldl_cons] at hF
       have hcc:0≤y.c+(if clsW H w=true then (1:Int) else 0)∧y.c+(if clsW H w=true then (1:Int) else 0)≤100000:=by split<;>omega
       obtain ⟨yc,hyc2⟩:∃ c,c=y.c+(if clsW H w=true then (1:Int) else 0):=⟨_,rfl⟩
       conv=>whnf
       repeat ((first|refine ix (by assumption) ?_|(refine ixn w.form.entry.toNat (by have:=hfo.entry;omega) (entAt_get hfo.entry.1 hfo.entry.2) ?_)|refine ⟨_,_,Rem.here _,⟨Nat.le_of_ble_eq_true rfl,rfl⟩,?_⟩|intro (nb:Nat));conv=>whnf)
       refine ⟨fun q1=>?_,fun q1=>?_⟩
       ·have hcw:clsW H w=true:=q1
        have hy1:yc=y.c+1:=by rw [hyc2,if_pos hcw]
        conv=>whnf
        repeat (refine ⟨gP_of ⟨by omega,by omega⟩,?_⟩;conv=>whnf)
        rw [← hy1]
        refine tloop rfl mixed [1,2,4,7,8,9,10,11,12,13,16,17,18] [] (fun m r h=>∃ (n:Nat) (ya yb yd:Int),r=[(1,[],.sl 1 none (lines.map encLn)),(2,[],.iptr (encHou H)),(4,[],.optr rb 0),(7,[],.osl tb 0 H.list.signs.length 1),(8,[],.int .i64 ya),(9,[],.int .i64 yb),(10,[],.int .i64 yc),(11,[],.int .i64 yd),(12,[],.int .i64 i),(13,[],.iptr (encRdg (bestL H line))),(16,[],.int .i64 k),(17,[],.iptr (encWrd w)),(18,[],.int .i64 n)]∧h=(tb,.vec (y.T.map encI).flatten)::(rb,.vec [.nilS,.int .i64 0,.int .i64 0])::[]∧m=w.uses.length - n∧n≤w.uses.length∧(0≤ya∧ya≤y.a+n)∧(0≤yb∧yb≤y.b+n)∧(0≤yd∧yd≤y.d+n)∧y.a+canU w.uses=ya+canU (w.uses.drop n)∧y.b+areU w.uses=yb+areU (w.uses.drop n)∧y.d+clsC w.uses=yd+clsC (w.uses.drop n)) ?_ ?_
        ·conv=>whnf
         exact ⟨_,_,Turn.refl _ _,_,0,y.a,y.b,y.d,rfl,rfl,rfl,by omega,⟨by omega,by omega⟩,⟨by omega,by omega⟩,⟨by omega,by omega⟩,rfl,rfl,rfl⟩
        ·rintro m r h' ⟨n,ya,yb,yd,rfl,rfl,rfl,hn,hya2,hyb2,hyd2,g1,g2,g3⟩
         conv=>whnf
         skip
         refine ⟨fun hc4=>?_,fun hc4=>?_⟩<;>simp at hc4
         ·obtain ⟨u,hu⟩:=get_lt hc4
          rw [drop_cons hu] at g1 g2 g3
          rw [canU] at g1
          rw [areU] at g2
          rw [clsC_cons] at g3
          conv=>whnf
          repeat (refine ix (by assumption) ?_;conv=>whnf)
          refine ⟨fun k4=>?_,fun k4=>?_⟩<;>simp at k4
          ·rw [if_pos k4] at g3
           have hv0:hvU u=false:=by unfold hvU;rw [k4];rfl
           rw [hv0] at g1 g2
           simp only [Bool.false_and,Bool.false_eq_true,if_false,Int.add_zero] at g1 g2
           conv=>whnf
           repeat ((first|refine ⟨gP_of ⟨by omega,by omega⟩,?_⟩|refine ix (by assumption) ?_|refine QCall.k0 (r7Long u) ?_);conv=>whnf)
           refine cT (by rw [hv0];rfl) ?_
           conv=>whnf
           repeat (refine ⟨gP_of ⟨by omega,by omega⟩,?_⟩;conv=>whnf)
           exact ⟨_,_,Turn.refl _ _,_,(by omega),n+1,ya,yb,yd+1,rfl,rfl,rfl,by omega,⟨by omega,by omega⟩,⟨by omega,by omega⟩,⟨by omega,by omega⟩,g1,g2,by omega⟩
          ·rw [if_neg k4,Int.zero_add] at g3
           conv=>whnf
           repeat ((first|refine ix (by assumption) ?_|refine QCall.k0 (r7Long u) ?_);conv=>whnf)
           refine ⟨fun hq=>?_,fun hq=>?_⟩
           ·have hq:(!hvU u)=true:=hq
            rw [Bool.not_eq_true'] at hq
            rw [hq] at g1 g2
            simp only [Bool.false_and,Bool.false_eq_true,if_false,Int.add_zero] at g1 g2
            conv=>whnf
            repeat (refine ⟨gP_of ⟨by omega,by omega⟩,?_⟩;conv=>whnf)
            exact ⟨_,_,Turn.refl _ _,_,(by omega),n+1,ya,yb,yd,rfl,rfl,rfl,by omega,⟨by omega,by omega⟩,⟨by omega,by omega⟩,⟨by omega,by omega⟩,g1,g2,g3⟩
           ·have hq:(!hvU u)=false:=hq
            rw [Bool.not_eq_false'] at hq
            rw [hq] at g1 g2
            simp only [if_true,Bool.true_and] at g1 g2
            by_cases hn2:n+1<w.uses.length
            ·obtain ⟨v,hv⟩:=get_lt hn2
             have hnr:nextR (w.uses.drop (n+1))=decide (v.kind=3):=by rw [drop_cons hv];rfl
             rw [hnr] at g2
             conv=>whnf
             repeat ((first|refine ⟨gP_of ⟨by omega,by omega⟩,?_⟩|refine ix (by assumption) ?_);conv=>whnf)
             refine ⟨fun hr=>?_,fun hr=>?_⟩
             ·have hr:(decide ((n:Int)+1<((w.uses.map encUse).length:Int))&&decide (v.kind=3))=true:=hr
              rw [Bool.and_eq_true] at hr
              rw [if_pos hr.2] at g2
              conv=>whnf
              repeat (refine ⟨gP_of ⟨by omega,by omega⟩,?_⟩;conv=>whnf)
              exact ⟨_,_,Turn.refl _ _,_,(by omega),n+1,ya+1,yb+1,yd,rfl,rfl,rfl,by omega,⟨by omega,by omega⟩,⟨by omega,by omega⟩,⟨by omega,by omega⟩,by omega,by omega,g3⟩
             ·have hr:(decide ((n:Int)+1<((w.uses.map encUse).length:Int))&&decide (v.kind=3))=false:=hr
              rw [List.length_map,decide_eq_true (by omega),Bool.true_and] at hr
              rw [if_neg (by rw [hr];decide)] at g2
              conv=>whnf
              repeat (refine ⟨gP_of ⟨by omega,by omega⟩,?_⟩;conv=>whnf)
              exact ⟨_,_,Turn.refl _ _,_,(by omega),n+1,ya+1,yb,yd,rfl,rfl,rfl,by omega,⟨by omega,by omega⟩,⟨by omega,by omega⟩,⟨by omega,by omega⟩,by omega,by omega,g3⟩
            ·have hnr:nextR (w.uses.drop (n+1))=false:=by rw [List.drop_eq_nil_of_le (by omega)];rfl
             rw [hnr] at g2
             conv=>whnf
             repeat ((first|refine ⟨gP_of ⟨by omega,by omega⟩,?_⟩|(refine ⟨0,encUse u,?_,?_⟩;(focus (conv=>whnf;skip));(focus (intro hq1;exact absurd (of_decide_eq_true hq1) (by rw [List.length_map];omega)))));conv=>whnf)
             refine cF (by simp;omega) ?_
             rw [if_neg (by decide)] at g2
             conv=>whnf
             repeat (refine ⟨gP_of ⟨by omega,by omega⟩,?_⟩;conv=>whnf)
             exact ⟨_,_,Turn.refl _ _,_,(by omega),n+1,ya+1,yb,yd,rfl,rfl,rfl,by omega,⟨by omega,by omega⟩,⟨by omega,by omega⟩,⟨by omega,by omega⟩,by omega,by omega,g3⟩
         ·rw [drop_nil (by omega)] at g1 g2 g3
          have g3:y.d+clsC w.uses=yd:=by rw [g3];unfold clsC;simp
          have g1:y.a+canU w.uses=ya:=by rw [g1];unfold canU;simp
          have g2:y.b+areU w.uses=yb:=by rw [g2];unfold areU;simp
          conv=>whnf
          repeat (refine ⟨gP_of ⟨by omega,by omega⟩,?_⟩;conv=>whnf)
          exact ⟨_,_,Turn.refl _ _,_,(by omega),k+1,lrnW H y w,by unfold lrnW;rw [g1,g2,g3,← hyc2];rfl,rfl,rfl,by omega,(hy.word hpr).more (Nat.le_refl _) (by omega),hF⟩
       ·have hcw:clsW H w=false:=q1
        have hy1:yc=y.c:=by rw [hyc2,if_neg (by rw [hcw];decide)];omega
        conv=>whnf
        skip
        rw [← hy1]
        refine tloop rfl mixed [1,2,4,7,8,9,10,11,12,13,16,17,18] [] (fun m r h=>∃ (n:Nat) (ya yb yd:Int),r=[(1,[],.sl 1 none (lines.map encLn)),(2,[],.iptr (encHou H)),(4,[],.optr rb 0),(7,[],.osl tb 0 H.list.signs.length 1),(8,[],.int .i64 ya),(9,[],.int .i64 yb),(10,[],.int .i64 yc),(11,[],.int .i64 yd),(12,[],.int .i64 i),(13,[],.iptr (encRdg (bestL H line))),(16,[],.int .i64 k),(17,[],.iptr (encWrd w)),(18,[],.int .i64 n)]∧h=(tb,.vec (y.T.map encI).flatten)::(rb,.vec [.nilS,.int .i64 0,.int .i64 0])::[]∧m=w.uses.length - n∧n≤w.uses.length∧(0≤ya∧ya≤y.a+n)∧(0≤yb∧yb≤y.b+n)∧(0≤yd∧yd≤y.d+n)∧y.a+canU w.uses=ya+canU (w.uses.drop n)∧y.b+areU w.uses=yb+areU (w.uses.drop n)∧y.d+clsC w.uses=yd+clsC (w.uses.drop n)) ?_ ?_
        ·conv=>whnf
         exact ⟨_,_,Turn.refl _ _,_,0,y.a,y.b,y.d,rfl,rfl,rfl,by omega,⟨by omega,by omega⟩,⟨by omega,by omega⟩,⟨by omega,by omega⟩,rfl,rfl,rfl⟩
        ·rintro m r h' ⟨n,ya,yb,yd,rfl,rfl,rfl,hn,hya2,hyb2,hyd2,g1,g2,g3⟩
         conv=>whnf
         skip
         refine ⟨fun hc4=>?_,fun hc4=>?_⟩<;>simp at hc4
         ·obtain ⟨u,hu⟩:=get_lt hc4
          rw [drop_cons hu] at g1 g2 g3
          rw [canU] at g1
          rw [areU] at g2
          rw [clsC_cons] at g3
          conv=>whnf
          repeat (refine ix (by assumption) ?_;conv=>whnf)
          refine ⟨fun k4=>?_,fun k4=>?_⟩<;>simp at k4
          ·rw [if_pos k4] at g3
           have hv0:hvU u=false:=by unfold hvU;rw [k4];rfl
           rw [hv0] at g1 g2
           simp only [Bool.false_and,Bool.false_eq_true,if_false,Int.add_zero] at g1 g2
           conv=>whnf
           repeat ((first|refine ⟨gP_of ⟨by omega,by omega⟩,?_⟩|refine ix (by assumption) ?_|refine QCall.k0 (r7Long u) ?_);conv=>whnf)
           refine cT (by rw [hv0];rfl) ?_
           conv=>whnf
           repeat (refine ⟨gP_of ⟨by omega,by omega⟩,?_⟩;conv=>whnf)
           exact ⟨_,_,Turn.refl _ _,_,(by omega),n+1,ya,yb,yd+1,rfl,rfl,rfl,by omega,⟨by omega,by omega⟩,⟨by omega,by omega⟩,⟨by omega,by omega⟩,g1,g2,by omega⟩
          ·rw [if_neg k4,Int.zero_add] at g3
           conv=>whnf
           repeat ((first|refine ix (by assumption) ?_|refine QCall.k0 (r7Long u) ?_);conv=>whnf)
           refine ⟨fun hq=>?_,fun hq=>?_⟩
           ·have hq:(!hvU u)=true:=hq
            rw [Bool.not_eq_true'] at hq
            rw [hq] at g1 g2
            simp only [Bool.false_and,Bool.false_eq_true,if_false,Int.add_zero] at g1 g2
            conv=>whnf
            repeat (refine ⟨gP_of ⟨by omega,by omega⟩,?_⟩;conv=>whnf)
            exact ⟨_,_,Turn.refl _ _,_,(by omega),n+1,ya,yb,yd,rfl,rfl,rfl,by omega,⟨by omega,by omega⟩,⟨by omega,by omega⟩,⟨by omega,by omega⟩,g1,g2,g3⟩
           ·have hq:(!hvU u)=false:=hq
            rw [Bool.not_eq_false'] at hq
            rw [hq] at g1 g2
            simp only [if_true,Bool.true_and] at g1 g2
            by_cases hn2:n+1<w.uses.length
            ·obtain ⟨v,hv⟩:=get_lt hn2
             have hnr:nextR (w.uses.drop (n+1))=decide (v.kind=3):=by rw [drop_cons hv];rfl
             rw [hnr] at g2
             conv=>whnf
             repeat ((first|refine ⟨gP_of ⟨by omega,by omega⟩,?_⟩|refine ix (by assumption) ?_);conv=>whnf)
             refine ⟨fun hr=>?_,fun hr=>?_⟩
             ·have hr:(decide ((n:Int)+1<((w.uses.map encUse).length:Int))&&decide (v.kind=3))=true:=hr
              rw [Bool.and_eq_true] at hr
              rw [if_pos hr.2] at g2
              conv=>whnf
              repeat (refine ⟨gP_of ⟨by omega,by omega⟩,?_⟩;conv=>whnf)
              exact ⟨_,_,Turn.refl _ _,_,(by omega),n+1,ya+1,yb+1,yd,rfl,rfl,rfl,by omega,⟨by omega,by omega⟩,⟨by omega,by omega⟩,⟨by omega,by omega⟩,by omega,by omega,g3⟩
             ·have hr:(decide ((n:Int)+1<((w.uses.map encUse).length:Int))&&decide (v.kind=3))=false:=hr
              rw [List.length_map,decide_eq_true (by omega),Bool.true_and] at hr
              rw [if_neg (by rw [hr];decide)] at g2
              conv=>whnf
              repeat (refine ⟨gP_of ⟨by omega,by omega⟩,?_⟩;conv=>whnf)
              exact ⟨_,_,Turn.refl _ _,_,(by omega),n+1,ya+1,yb,yd,rfl,rfl,rfl,by omega,⟨by omega,by omega⟩,⟨by omega,by omega⟩,⟨by omega,by omega⟩,by omega,by omega,g3⟩
            ·have hnr:nextR (w.uses.drop (n+1))=false:=by rw [List.drop_eq_nil_of_le (by omega)];rfl
             rw [hnr] at g2
             conv=>whnf
             repeat ((first|refine ⟨gP_of ⟨by omega,by omega⟩,?_⟩|(refine ⟨0,encUse u,?_,?_⟩;(focus (conv=>whnf;skip));(focus (intro hq1;exact absurd (of_decide_eq_true hq1) (by rw [List.length_map];omega)))));conv=>whnf)
             refine cF (by simp;omega) ?_
             rw [if_neg (by decide)] at g2
             conv=>whnf
             repeat (refine ⟨gP_of ⟨by omega,by omega⟩,?_⟩;conv=>whnf)
             exact ⟨_,_,Turn.refl _ _,_,(by omega),n+1,ya+1,yb,yd,rfl,rfl,rfl,by omega,⟨by omega,by omega⟩,⟨by omega,by omega⟩,⟨by omega,by omega⟩,by omega,by omega,g3⟩
         ·rw [drop_nil (by omega)] at g1 g2 g3
          have g3:y.d+clsC w.uses=yd:=by rw [g3];unfold clsC;simp
          have g1:y.a+canU w.uses=ya:=by rw [g1];unfold canU;simp
          have g2:y.b+areU w.uses=yb:=by rw [g2];unfold areU;simp
          conv=>whnf
          repeat (refine ⟨gP_of ⟨by omega,by omega⟩,?_⟩;conv=>whnf)
          exact ⟨_,_,Turn.refl _ _,_,(by omega),k+1,lrnW H y w,by unfold lrnW;rw [g1,g2,g3,← hyc2];rfl,rfl,rfl,by omega,(hy.word hpr).more (Nat.le_refl _) (by omega),hF⟩
      ·rw [drop_nil (by omega)] at hF
       conv=>whnf
       repeat (refine ⟨gP_of ⟨by omega,by omega⟩,?_⟩;conv=>whnf)
       exact ⟨_,_,Turn.refl _ _,_,(by omega),i+1,y,rfl,rfl,rfl,by omega,hy.more (by omega) (by omega),hE,hF⟩
  ·rw [drop_nil (by omega)] at hE hF
   have hE:lrnE H lines=0:=hE
   have hF:Z=z:=hF
   subst hF
   rw [hlm,he0,hE,if_pos rfl]
   have hTl:=hz.len
   have hti:∀ n∈Z.T,0≤n∧n≤2400:=fun n hn=>by have:=hz.t n hn;omega
   conv=>whnf
   skip
   refine tloop rfl mixed [4,7,8,9,10,11,19,20] [] (fun m r h=>∃ (j:Nat) (mx:Int),r=[(4,[],.optr rb 0),(7,[],.osl tb 0 H.list.signs.length 1),(8,[],.int .i64 Z.a),(9,[],.int .i64 Z.b),(10,[],.int .i64 Z.c),(11,[],.int .i64 Z.d),(19,[],.int .i64 mx),(20,[],.int .i64 j)]∧h=(tb,.vec (Z.T.map encI).flatten)::(rb,.vec [.nilS,.int .i64 0,.int .i64 0])::[]∧m=H.list.signs.length - j∧j≤H.list.signs.length∧(0≤mx∧mx≤2400)∧maxT Z.T=(Z.T.drop j).foldl max mx) ?_ ?_
   ·conv=>whnf
    exact ⟨_,_,Turn.refl _ _,_,0,0,rfl,rfl,rfl,by omega,⟨by omega,by omega⟩,rfl⟩
   ·rintro m r h' ⟨j,mx,rfl,rfl,rfl,hj,hmx,hmf⟩
    conv=>whnf
    refine ⟨fun hc2=>?_,fun hc2=>?_⟩<;>simp at hc2
    ·obtain ⟨n,hn⟩:=get_lt (l:=Z.T) (i:=j) (by omega)
     have hnb:=hti n (List.mem_of_getElem? hn)
     rw [drop_cons hn,List.foldl_cons] at hmf
     conv=>whnf
     repeat ((first|refine ⟨gP_of ⟨by omega,by omega⟩,?_⟩|(refine ixo (i:=j) (by omega) ?_)|(refine ldE encI_len (.head _) (by omega) hn ?_));conv=>whnf)
     exact ⟨_,_,Turn.refl _ _,_,(by omega),j+1,max mx n,rfl,rfl,rfl,by omega,⟨by omega,by omega⟩,hmf⟩
    ·rw [drop_nil (by omega)] at hmf
     have hmf:maxT Z.T=mx:=hmf
     conv=>whnf
     repeat ((first|refine QCall.k0 (r7Habit Z.a Z.b) ?_|refine QCall.k0 (r7Habit Z.c Z.d) ?_|(intro (cb:Nat))|refine ⟨_,_,.here _,leOK,?_⟩);conv=>whnf)
     refine tloop rfl mixed [4,7,19,21,22] [] (fun m r h=>∃ (j:Nat) (sv:AV) (sh:Heap) (cb:Nat),r=[(4,[],.optr rb 0),(7,[],.osl tb 0 H.list.signs.length 1),(19,[],.int .i64 mx),(21,[],.optr cb 0),(22,[],.int .i64 j)]∧h=(cb,.vec [sv,.int .i64 (custM Z.a Z.b),.int .i64 (custM Z.c Z.d)])::(tb,.vec (Z.T.map encI).flatten)::(rb,.vec [.nilS,.int .i64 0,.int .i64 0])::sh∧m=H.list.signs.length - j∧j≤H.list.signs.length∧Out 1 encI ((Z.T.take j).map (sgnT mx)) sv sh) ?_ ?_
     ·conv=>whnf
      exact ⟨_,_,Turn.refl _ _,_,0,.nilS,[],cb,rfl,rfl,rfl,by omega,.inl ⟨rfl,rfl,rfl⟩⟩
     ·rintro m r h' ⟨j,sv,sh,cb,rfl,rfl,rfl,hj,ho⟩
      conv=>whnf
      refine ⟨fun hc3=>?_,fun hc3=>?_⟩<;>simp at hc3
      ·obtain ⟨n,hn⟩:=get_lt (l:=Z.T) (i:=j) (by omega)
       have hnb:=hti n (List.mem_of_getElem? hn)
       have hsn:(Z.T.take (j+1)).map (sgnT mx)=(Z.T.take j).map (sgnT mx)++[sgnT mx n]:=by rw [take_snoc hn,List.map_append];rfl
       have hlo:(((Z.T.take j).map (sgnT mx)).map encI).length≤200:=by rw [List.length_map,List.length_map,List.length_take];omega
       rcases ho with ⟨he,rfl,rfl⟩|⟨q,rfl,rfl⟩
       all_goals
        conv=>whnf
        repeat ((first|(refine ixo (i:=j) (by omega) ?_)|(refine ldE encI_len (.tail _ (.head _)) (by omega) hn ?_));conv=>whnf)
        refine ⟨fun q0=>?_,fun q0=>?_⟩<;>simp at q0
        ·have hsv:sgnT mx n=min (mx - n) 1000:=by unfold sgnT;rw [if_neg (by omega)]
         rw [hsv] at hsn
         conv=>whnf
         repeat ((first|refine ⟨gP_of ⟨by omega,by omega⟩,?_⟩|(refine ixo (i:=j) (by omega) ?_)|(refine ldE encI_len (.tail _ (.head _)) (by omega) hn ?_)|(refine ⟨Nat.le_of_ble_eq_true rfl,fun q'=>?_⟩)|(refine ⟨(by rw [List.length_append,List.length_singleton];unfold AMAX;omega),fun q'=>⟨_,.there (.there (.there (.here _))),?_⟩⟩)|(refine ⟨_,_,.there (.here _),leOK,?_⟩)|(refine ⟨_,_,.here _,leOK,?_⟩)|refine ⟨_,_,.head _,rfl,?_⟩);conv=>whnf)
         first
          | exact ⟨_,_,Turn.refl _ _,_,(by omega),j+1,_,[(q',.tok)],cb,rfl,rfl,rfl,by omega,.inr ⟨q',by rw [hsn,List.map_append];rfl,rfl⟩⟩
          | exact ⟨_,_,Turn.perm (List.perm_middle (l₁:=[_,_,_])).symm,_,(by omega),j+1,_,[(q',.tok)],cb,rfl,rfl,rfl,by omega,.inr ⟨q',by rw [hsn,he];rfl,rfl⟩⟩
        ·have hsv:sgnT mx n = -1:=by unfold sgnT;rw [if_pos (by omega)]
         rw [hsv] at hsn
         conv=>whnf
         repeat ((first|refine ⟨gP_of ⟨by omega,by omega⟩,?_⟩|(refine ⟨Nat.le_of_ble_eq_true rfl,fun q'=>?_⟩)|(refine ⟨(by rw [List.length_append,List.length_singleton];unfold AMAX;omega),fun q'=>⟨_,.there (.there (.there (.here _))),?_⟩⟩)|(refine ⟨_,_,.there (.here _),leOK,?_⟩)|(refine ⟨_,_,.here _,leOK,?_⟩)|refine ⟨_,_,.head _,rfl,?_⟩);conv=>whnf)
         first
          | exact ⟨_,_,Turn.refl _ _,_,(by omega),j+1,_,[(q',.tok)],cb,rfl,rfl,rfl,by omega,.inr ⟨q',by rw [hsn,List.map_append];rfl,rfl⟩⟩
          | exact ⟨_,_,Turn.perm (List.perm_middle (l₁:=[_,_,_])).symm,_,(by omega),j+1,_,[(q',.tok)],cb,rfl,rfl,rfl,by omega,.inr ⟨q',by rw [hsn,he];rfl,rfl⟩⟩
      ·rw [List.take_of_length_le (by omega)] at ho
       unfold habL
       rw [hmf]
       conv=>whnf
       repeat ((first|(refine ⟨_,_,.there (.there (.here _)),leOK,?_⟩)|(refine ⟨_,_,.tail _ (.tail _ (.head _)),rfl,?_⟩)|refine ⟨_,_,.head _,rfl,?_⟩);conv=>whnf)
       exact VLe.tup (.cons (VLe.agg (.cons (ho.le (by decide)) (.cons (VLe.refl _) (.cons (VLe.refl _) .nil)))) (.cons (VLe.refl _) .nil))
end Go.Abs.Wall.Spl
namespace Go.Abs.Wall.Spl
open Go Go.Abs Go.Proofs Go.Abs.Wall Go.Proofs.YtbmcnieifibckaaGreat.Br
theorem argLns {x:AV} (h:ArgSh Tryz.prog B20 84 x):∃ l:List (List Int),x=.sl 1 none (l.map encLn)∧l.length≤1048576∧∀ a∈l,a.length≤1048576:=by
 obtain ⟨xs,h,hx⟩:=h
 have hx:xs=[x]:=hx
 obtain ⟨l,h1,h2,h3⟩:=sh_list (enc:=encLn) (Fit:=fun l=>l.length≤B20) h rfl fun y hy=>by obtain ⟨l,rfl,hl,_⟩:=shInts hy;exact ⟨l,rfl,hl⟩
 rw [hx] at h1
 cases h1
 exact ⟨l,rfl,by unfold B20 at h2;omega,fun a ha=>by have:=h3 a ha;unfold B20 at this;omega⟩
theorem addTs_len:∀ (l:List Int) (T:List Int),(l.foldl addT T).length=T.length
 | [],_=>rfl
 | s::l,T=>by rw [List.foldl_cons,addTs_len l,addT_len]
theorem lrnWs_T (H:Hou):∀ (ws:List Wrd) (z:LS),(ws.foldl (lrnW H) z).T=z.T
 | [],_=>rfl
 | w::ws,z=>by rw [List.foldl_cons,lrnWs_T H ws];rfl
theorem lrnL_len (H:Hou) (z:LS) (l:List Int):(lrnL H z l).T.length=z.T.length:=by
 unfold lrnL
 rw [lrnWs_T]
 exact addTs_len l z.T
theorem lrnLs_len (H:Hou):∀ (ls:List (List Int)) (z:LS),(ls.foldl (lrnL H) z).T.length=z.T.length
 | [],_=>rfl
 | l::ls,z=>by rw [List.foldl_cons,lrnLs_len H ls,lrnL_len]
theorem learn_len (H:Hou) (ls:List (List Int)) (hf:HouFit H):(learnM H ls).signs.length≤LMAX:=by
 unfold learnM
 split
 ·rename_i h0
  have hh:houErr H=0:=by
   by_cases h:houErr H=0
   ·exact h
   ·unfold learnE at h0;rw [if_pos h] at h0;exact h0
  have:=(lstOK (houOK hh).lst).many
  show (List.map _ _).length≤LMAX
  rw [List.length_map,lrnLs_len]
  show (List.replicate _ _).length≤LMAX
  rw [List.length_replicate]
  unfold LMAX
  omega
 ·show (0:Nat)≤_
  unfold LMAX;omega
theorem spellLearnsL (H:Hou) (ls:List (List Int)) (hf:HouFit H) (hl:ls.length≤1048576) (hll:∀ l∈ls,l.length≤1048576):QCall Tryz.prog 12 [.agg (encHou H),.sl 1 none (ls.map encLn)] [] (.bool true):=by
 have hn:=learn_len H ls hf
 refine fcalls (F:=Tryz.f12) c12 rfl rfl rfl mixed rfl fun X=>?_
 conv=>whnf
 skip
 refine ⟨fun h0=>?_,fun h0=>?_⟩
 ·conv=>whnf
  repeat (refine QCall.k0 (spWorks) ?_;conv=>whnf)
  exact ⟨rfl,rfl⟩
 conv=>whnf
 skip
 refine sloop rfl mixed [1,2,5] [] (fun m r h=>∃ (i:Nat),r=[(1,[],.sl 1 none (ls.map encLn)),(2,[],.iptr (encHou H)),(5,[],.int .i64 i)]∧h=[]∧m=ls.length - i∧i≤ls.length) ?_ ?_
 ·conv=>whnf
  exact ⟨_,0,rfl,rfl,rfl,by omega⟩
 ·rintro m r h ⟨i,rfl,rfl,rfl,hi⟩
  conv=>whnf
  refine ⟨fun hz=>?_,fun hz=>?_⟩<;>simp at hz
  ·obtain ⟨x,hx⟩:=get_lt hz
   conv=>whnf
   repeat ((first|refine ix (by assumption) ?_|refine gcall (largeW H x) ?_|refine And.intro (by show drawOK (opsAt Tryz.f12 _) _=true;decide +kernel) ?_);conv=>whnf)
   refine ⟨fun h1=>?_,fun h1=>?_⟩
   ·conv=>whnf
    repeat (refine QCall.k0 (spWorks) ?_;conv=>whnf)
    exact ⟨rfl,rfl⟩
   conv=>whnf
   repeat (refine ⟨gP_of ⟨by omega,by omega⟩,?_⟩;conv=>whnf)
   exact ⟨_,by omega,i+1,rfl,rfl,rfl,by omega⟩
  ·conv=>whnf
   repeat ((first|refine QCall.k0 (spLearnW H ls hf hl hll) ?_|refine QCall.k0 (r7LearnW H ls hf hl hll) ?_|refine gcall (sameHab (learnM H ls) (learnM H ls) hn hn) ?_|refine gcall (spWorks) ?_|refine ⟨_,_,Rem.here _,⟨Nat.le_of_ble_eq_true rfl,rfl⟩,?_⟩|intro (nb:Nat));conv=>whnf)
   exact ⟨congrArg AV.bool (by simp),rfl⟩
end Go.Abs.Wall.Spl
