/- What is proved: small laws for the walks of this seat, and contracts of its functions. No condition but those each theorem names. -/
import Derived.Test.YtbmcnieifibckaaGreatN29
import Derived.Test.YtbmcnieifibckaaGreatN17
set_option maxRecDepth 100000
set_option maxHeartbeats 2000000
set_option linter.unusedVariables false
set_option linter.unusedSimpArgs false
namespace Go.Abs.Wall.Spl
open Go Go.Abs Go.Proofs Go.Abs.Wall
open Go.Abs.Wall.Lst (VssLe.pre Turn.left)
theorem mrgL_nil (m:Nat):mrgL [] m=[]:=by
 unfold mrgL clsK mgW
 simp [remGo,gen]
def c57:Cfg:=⟨[0,1,2,3,4,5,6,8,9,10,12,13,14,15,16,17,18,19,20,21,22,23,24,25,26,27,28,29,47,56,72,86,115,135,181,204],[75,101],[19,22],[],[(17,[0,1,2,3,4,5,6,7,8,9,10],[]),(28,[0,1,2,3,4,5,6,7,8,9,10,11,12,13,14,15,16,17,18,19],[]),(40,[0,1,2,3,4,5,6,7,8,9,10],[]),(41,[0,1,2,3,4,5,6,7,8,9,10],[]),(18,[],[])],[]⟩
theorem mergeNil (most:Nat) (hm:most≤64):QCall Tryz.prog 109 [.nilO,.int .i64 most] [] (.sl 1 none []):=by
 refine QCall.of ?_
 refine fcalls (F:=Tryz.f109) c109 rfl rfl rfl mixed rfl fun X=>?_
 conv=>whnf
 skip
 refine sloop rfl mixed [0,1,5] [] (fun m r h=>r=[(0,[],.nilO),(1,[],.int .i64 most),(5,[],.nilS)]∧h=[]∧m=0∧True) ?_ ?_
 ·conv=>whnf
  exact ⟨_,rfl,rfl,rfl,trivial⟩
 ·rintro m r h' ⟨rfl,rfl,rfl,-⟩
  conv=>whnf
  skip
  refine ⟨fun hz=>?_,fun hz=>?_⟩<;>simp at hz
  ·conv=>whnf
   skip
   refine sloop rfl mixed [0,1,5,6,7] [] (fun m r h=>r=[(0,[],.nilO),(1,[],.int .i64 most),(5,[],.nilS),(6,[],.int .i64 (-1)),(7,[],.int .i64 0)]∧h=[]∧m=0∧True) ?_ ?_
   ·conv=>whnf
    exact ⟨_,rfl,rfl,rfl,trivial⟩
   ·rintro m r h' ⟨rfl,rfl,rfl,-⟩
    conv=>whnf
    skip
    refine ⟨fun hz2=>absurd (of_decide_eq_true hz2) (by omega),fun _=>?_⟩
    conv=>whnf
    skip
    refine ⟨fun _=>?_,fun hz3=>absurd hz3 (by decide)⟩
    conv=>whnf
    skip
    exact VLe.nil (by decide)
  ·conv=>whnf
   skip
   exact VLe.nil (by decide)
def ORow (L:List (List Rst)) (v:AV) (hp:Heap):Prop:=(L=[]∧v=.nilO∧hp=[])∨∃ lb,L≠[]∧v=.osl lb 0 L.length 1∧hp=[(lb,.vec (L.map encS).flatten)]
theorem encR_nil (c:Int):encR ⟨[],c⟩=[.iptr [.int .i64 c,.int .i64 0,.int .i64 0,.int .i64 0,.int .i64 0,.int .i64 0,.str [],.nilP]]:=by
 show [AV.iptr (.int .i64 (c+sumP [])::.int .i64 (0:Nat)::encT c [])]=_
 rw [show c+sumP []=c by unfold sumP;simp]
 rfl
theorem endL_len (E:Env) (x:Sta):(endL E x).length≤1:=by
 unfold endL
 split<;>simp
theorem endL_mem (E:Env) (x:Sta):∀ l∈endL E x,l.length≤65536∧∀ r∈l,r.path.length≤15:=by
 intro l hl
 unfold endL at hl
 split at hl
 ·rw [List.mem_singleton.1 hl]
  exact ⟨by simp,fun r hr=>by rw [List.mem_singleton.1 hr];simp⟩
 ·cases hl
set_option maxHeartbeats 4000000 in
theorem r7First (H:Hou) (B:Hab) (f:Frm) (hh:HouFit H) (h0:houErr H=0) (hr:rightM H B=true) (hfe:frmErr H.lex f=0) (most:Nat) (hm1:1≤most) (hm:most≤64) :
  QCall Tryz.prog 57 [.agg (encHou H),.agg (encHab B),.agg (encFrm f),.int .i64 most] [] (.sl 3 none ((splsOf (envM H B f) most).map encSpl)):=by
 have hf:=frmOK hfe
 have hfew:=hf.few
 obtain ⟨E,hEe⟩:∃ E,E=envM H B f:=⟨_,rfl⟩
 obtain ⟨P,hPe⟩:∃ P,P=partsM H.lex f:=⟨_,rfl⟩
 have hE:EOK E:=by rw [hEe];exact env_ok h0 hr hf
 have hP:EnvP E P:=by rw [hEe,hPe];exact env_parts h0 hf
 have hPl:P.length≤1000:=by rw [hPe];unfold partsM;rw [List.length_cons,List.length_map];omega
 have hkd:∀ us∈E.uses,∀ u∈us,1≤u.kind∧u.kind≤4:=by
  rw [hEe]
  intro us hus u hu
  have:=(rowsM_ok (houOK h0) hus).2 u hu
  exact ⟨this.1,this.2.1⟩
 have hbg:=r7Begin H B f hh h0 hf
 rw [← hEe,← hPe] at hbg
 have hwt:=refWgt H.lex f hh.lex (by unfold LMAX;omega)
 rw [if_pos hfe,hfe] at hwt
 rw [← hEe]
 have hlv:=levelsW E P hE hP hPl hkd
 refine QCall.of ?_
 refine fcalls (F:=Tryz.f57) c57 rfl rfl rfl mixed rfl fun X=>?_
 conv=>whnf
 repeat ((first|refine QCall.k0 (hbg) ?_|refine QCall.k0 (hwt) ?_|(refine ACalls.mono ?_ hlv));conv=>whnf)
 rintro v h' ⟨S,T,hL,rfl,rfl⟩
 have hSl:=hL.ls
 have hTl:=hL.lt
 have hEH:E.H=H:=by rw [hEe];rfl
 have hwE:E.wgt=wgtM H.lex f:=by rw [hEe];rfl
 have hwgt:=hE.wgt
 rw [hwE] at hwgt
 conv=>whnf
 skip
 refine tloop rfl mixed [3,4,9,10,12,13,14,15] [] (fun m r h=>∃ (a:Nat) (c:Int) (Bh:List (List Rst)),r=[(3,[],.int .i64 most),(4,[],.iptr (encHou H)),(9,[],.iptr (wkC E P)),(10,[],.int .i64 (wgtM H.lex f)),(12,[],.sl 1 none (S.map encRSs)),(13,[],.sl 1 none (T.map encSpr)),(14,[],.sl 1 none (Bh.map encS)),(15,[],.int .i64 c)]∧h=[]∧m=a∧c=(a:Int) - 1∧a≤13∧∀ l,S[a]?=some l→Bh.length=l.length∧BhOK E P most a l Bh) ?_ ?_
 ·conv=>whnf
  refine ⟨_,_,Turn.weak (.cons (VLe.refl _) (.cons (VLe.refl _) (.cons (VLe.refl _) (.cons (VLe.refl _) (.cons (VLe.refl _) (.cons (VLe.refl _) (.cons (VLe.nil (by decide)) (RLe.refl _)))))))),_,13,12,[],rfl,rfl,rfl,rfl,by omega,fun l hl=>?_⟩
  have:=(List.getElem?_eq_some_iff.1 hl).1
  omega
 ·rintro a r h' ⟨a',c,Bh,rfl,rfl,rfl,hca,ha,hBh⟩
  conv=>whnf
  refine ⟨fun hz=>?_,fun hz=>?_⟩<;>simp at hz
  ·obtain ⟨d,rfl⟩:∃ d,a=d+1:=⟨a - 1,by omega⟩
   have hcd:c=(d:Int):=by omega
   subst hcd
   obtain ⟨l,hl⟩:=get_lt (l:=S) (i:=d) (by omega)
   have hlev:=hL.lev d l hl
   have hlfew:=hlev.few hE hP (by omega)
   conv=>whnf
   skip
   refine tloop rfl mixed [3,4,9,10,12,13,14,15,16,17] [(16,1)] (fun m r h=>∃ (i:Nat) (Hh:List (List Rst)) (q16:Nat),r=[(3,[],.int .i64 most),(4,[],.iptr (encHou H)),(9,[],.iptr (wkC E P)),(10,[],.int .i64 (wgtM H.lex f)),(12,[],.sl 1 none (S.map encRSs)),(13,[],.sl 1 none (T.map encSpr)),(14,[],.sl 1 none (Bh.map encS)),(15,[],.int .i64 d),(16,[],.sl 1 (some q16) (Hh.map encS)),(17,[],.int .i64 i)]∧h=(q16,.tok)::[]∧m=l.length - i∧i≤l.length∧Hh.length=i∧BhOK E P most d l Hh) ?_ ?_
   ·conv=>whnf
    refine ⟨by decide,fun q16=>?_⟩
    conv=>whnf
    exact ⟨_,_,Turn.refl _ _,_,0,[],q16,rfl,rfl,rfl,by omega,rfl,fun i s rs h1 h2=>(by cases h2)⟩
   ·rintro m r h' ⟨i,Hh,q16,rfl,rfl,rfl,hi,hHl,hHh⟩
    conv=>whnf
    repeat (refine ix (by assumption) ?_;conv=>whnf)
    refine ⟨fun hz1=>?_,fun hz1=>?_⟩<;>simp at hz1
    ·obtain ⟨s,hs⟩:=get_lt hz1
     have hsm:=List.mem_of_getElem? hs
     have hcan:=hlev.can s hsm
     have hlast:=hlev.last s hsm
     have hx:=toS_ok hP (n:=d) (by omega) hcan hlast
     have hend:=r7End E P s hcan hPl
     obtain ⟨x,hxe⟩:∃ x,x=toS P d s:=⟨_,rfl⟩
     rw [← hxe] at hx
     have hxn:x.n=d:=by rw [hxe];rfl
     conv=>whnf
     repeat ((first|refine ix (by assumption) ?_|refine gcall (hend) ?_|refine ⟨_,_,Rem.here _,⟨Nat.le_of_ble_eq_true rfl,rfl⟩,?_⟩|intro (nb:Nat));conv=>whnf)
     refine ⟨fun hq=>?_,fun hq=>?_⟩
     ·have hq:(decide (0<(d:Int))&&endM E P s)=true:=hq
      simp only [Bool.and_eq_true,decide_eq_true_eq] at hq
      obtain ⟨e1,e2⟩:=end_last hP (n:=d) (by omega) hcan
      have hopb:=hE.cost E.H.costs.opn (by simp [costL])
      rw [hEH] at hopb e2
      rw [← hxe] at e1 e2
      have hlt:(lastM E x).2=true:=by rw [e1];exact hq.2
      have hel:endL E x=[[⟨[],(lastM E x).1⟩]]:=by unfold endL;rw [if_pos hlt]
      have e3:=e2 hq.2
      conv=>whnf
      repeat ((intro (xb:Nat));conv=>whnf)
      refine ⟨fun hop=>?_,fun hop=>?_⟩
      ·have e4:(lastM E x).1=wgtM H.lex f+H.costs.opn:=by rw [e3,if_pos hop,hwE]
       conv=>whnf
       repeat ((first|refine ⟨gP_of ⟨by omega,by omega⟩,?_⟩|refine ⟨_,_,.head _,rfl,?_⟩|refine ⟨_,_,.here _,leOK,?_⟩|refine And.intro (by show drawOK (opsAt Tryz.f57 _) _=true;decide +kernel) ?_);conv=>whnf)
       refine region_turn rfl mixed (Turn.freeze (b:=xb) (.here _) (FzH.refl _) (.cons (.refl _) (.cons (.refl _) (.cons (.refl _) (.cons (.refl _) (.cons (.refl _) (.cons (.refl _) (.cons (.refl _) (.cons (.refl _) (.cons (.refl _) (.cons (.refl _) (.cons (.refl _) (.cons (.refl _) (.cons (.ptr rfl) (FzR.refl _))))))))))))))) ?_
       conv=>whnf
       repeat ((refine ⟨⟨Nat.le_of_ble_eq_true rfl,Nat.le_of_ble_eq_true rfl⟩,fun bb=>?_⟩);conv=>whnf)
       by_cases hd:d<12
       ·obtain ⟨l',hl'⟩:=get_lt (l:=S) (i:=d+1) (by omega)
        obtain ⟨rows,hrows⟩:=get_lt (l:=T) (i:=d) (by omega)
        obtain ⟨hrl,hrs0⟩:=hL.step d l l' rows hl hl' hrows
        obtain ⟨row,hrow⟩:=get_lt (l:=rows) (i:=i) (by omega)
        have hst:=hrs0 i s row hs hrow
        rw [← hxe] at hst
        obtain ⟨hBl,hBo⟩:=hBh l' hl'
        have hrowl:=hst.len
        have hml:=moves_len (x:=x) hE
        refine tloop rfl mixed [3,4,9,10,12,13,14,15,16,17,18,21] [] (fun m r h=>∃ (k:Nat) (lv:AV) (lh:Heap),r=[(3,[],.int .i64 most),(4,[],.iptr (encHou H)),(9,[],.iptr (wkC E P)),(10,[],.int .i64 (wgtM H.lex f)),(12,[],.sl 1 none (S.map encRSs)),(13,[],.sl 1 none (T.map encSpr)),(14,[],.sl 1 none (Bh.map encS)),(15,[],.int .i64 d),(16,[],.sl 1 (some q16) (Hh.map encS)),(17,[],.int .i64 i),(18,[],lv),(21,[],.int .i64 k)]∧h=(q16,.tok)::lh∧m=row.length - k∧k≤row.length∧ORow (endL E x++lsB Bh (row.take k)) lv lh) ?_ ?_
        ·conv=>whnf
         exact ⟨_,_,Turn.perm (List.Perm.swap _ _ _),_,0,.osl bb 0 1 1,[(bb,_)],rfl,rfl,rfl,by omega,.inr ⟨bb,by rw [hel];simp,by rw [hel];rfl,by rw [hel,e4];show [(bb,Ob.vec [AV.sl 1 none [_]])]=[(bb,Ob.vec [AV.sl 1 none [encR ⟨[],_⟩]])];rw [encR_nil];rfl⟩⟩
        ·rintro m r h' ⟨k,lv,lh,rfl,rfl,rfl,hk,ho⟩
         conv=>whnf
         repeat (refine ix (by assumption) ?_;conv=>whnf)
         refine ⟨fun hz2=>?_,fun hz2=>?_⟩
         ·have hz2:(decide ((d:Int)<12)&&decide ((k:Int)<((row.map encStp).length:Int)))=true:=hz2
          rw [List.length_map,Bool.and_eq_true,decide_eq_true_eq,decide_eq_true_eq] at hz2
          obtain ⟨t,ht⟩:=get_lt (l:=row) (i:=k) (by omega)
          obtain ⟨mv,hmv⟩:=get_lt (l:=movesM E x) (i:=k) (by omega)
          have hsr:=hst.get ht hmv
          have hmo:=moves_ok hE hx (List.mem_of_getElem? hmv)
          have hmc:=hmo.cost
          rw [← hsr.cost] at hmc
          obtain ⟨r1,g1,g2⟩:=hsr.to
          obtain ⟨Bt,hBt⟩:=get_lt (l:=Bh) (i:=t.to) (by have:=(List.getElem?_eq_some_iff.1 g1).1;omega)
          have hok:=hBo _ _ _ g1 hBt
          have hn1:((d+1:Nat):Int)=(d:Int)+1:=by push_cast;rfl
          rw [hn1,g2] at hok
          have hBc:=hok.cost hE hmo.to
          have hBs:=hok.short hE hmo.to
          have hBm:=hok.many
          have hls:lsB Bh (row.take (k+1))=lsB Bh (row.take k)++[Bt.map (extR t)]:=by
           unfold lsB
           rw [take_snoc ht,List.map_append,List.map_singleton,List.getD_eq_getElem?_getD,hBt]
           rfl
          conv=>whnf
          repeat ((first|refine ix (by assumption) ?_|refine ⟨_,_,Rem.here _,⟨Nat.le_of_ble_eq_true rfl,rfl⟩,?_⟩|intro (nb:Nat));conv=>whnf)
          refine tloop rfl mixed [3,4,9,10,12,13,14,15,16,17,18,21,22,23,24] [(23,1)] (fun m r h=>∃ (j:Nat) (q23:Nat),r=[(3,[],.int .i64 most),(4,[],.iptr (encHou H)),(9,[],.iptr (wkC E P)),(10,[],.int .i64 (wgtM H.lex f)),(12,[],.sl 1 none (S.map encRSs)),(13,[],.sl 1 none (T.map encSpr)),(14,[],.sl 1 none (Bh.map encS)),(15,[],.int .i64 d),(16,[],.sl 1 (some q16) (Hh.map encS)),(17,[],.int .i64 i),(18,[],lv),(21,[],.int .i64 k),(22,[],.iptr (encStp t)),(23,[],.sl 1 (some q23) (((Bt.take j).map (extR t)).map encR)),(24,[],.int .i64 j)]∧h=(q23,.tok)::(q16,.tok)::lh∧m=Bt.length - j∧j≤Bt.length) ?_ ?_
          ·conv=>whnf
           refine ⟨by decide,fun q23=>?_⟩
           conv=>whnf
           exact ⟨_,_,Turn.refl _ _,_,0,q23,rfl,rfl,rfl,by omega⟩
          ·rintro m r h' ⟨j,q23,rfl,rfl,rfl,hj⟩
           conv=>whnf
           repeat (refine ix (by assumption) ?_;conv=>whnf)
           refine ⟨fun hz3=>?_,fun hz3=>?_⟩<;>simp at hz3
           ·obtain ⟨rr,hrr⟩:=get_lt hz3
            have hrc:=hBc rr (List.mem_of_getElem? hrr)
            have hrp:=hBs rr (List.mem_of_getElem? hrr)
            conv=>whnf
            repeat ((first|refine ⟨gP_of ⟨by omega,by omega⟩,?_⟩|refine ix (by assumption) ?_|(refine ⟨(by rw [List.length_append,List.length_singleton,List.length_map,List.length_map,List.length_take];unfold AMAX;omega),fun q'=>⟨_,.here _,?_⟩⟩)|refine And.intro (by show drawOK (opsAt Tryz.f57 _) _=true;decide +kernel) ?_);conv=>whnf)
            refine ⟨_,_,Turn.refl _ _,_,(by omega),j+1,q',?_,rfl,rfl,by omega⟩
            rw [take_snoc hrr,List.map_append,List.map_append,List.map_singleton,List.map_singleton,encR_ext]
            rfl
           ·obtain ⟨Lk,hLk⟩:∃ Lk,Lk=endL E x++lsB Bh (row.take k):=⟨_,rfl⟩
            have hls2:endL E x++lsB Bh (row.take (k+1))=Lk++[Bt.map (extR t)]:=by rw [hls,hLk,List.append_assoc]
            have hLb:Lk.length+1≤AMAX:=by
             have h1:=endL_len E x
             rw [hLk,List.length_append]
             unfold lsB
             rw [List.length_map,List.length_take]
             unfold AMAX
             omega
            rw [← hLk] at ho
            rw [List.take_of_length_le (by omega)]
            rcases ho with ⟨hon,rfl,rfl⟩|⟨lb,hLn,rfl,rfl⟩
            ·conv=>whnf
             repeat ((first|refine ⟨gP_of ⟨by omega,by omega⟩,?_⟩|(refine ⟨⟨Nat.le_of_ble_eq_true rfl,Nat.le_of_ble_eq_true rfl⟩,fun b4=>?_⟩));conv=>whnf)
             exact ⟨_,_,Turn.trans (Turn.cells (ys:=encS (Bt.map (extR t))) (.here _) (.cons VLe.sl .nil)) (Turn.trans (Turn.drop (.there (.here _))) (Turn.perm (List.Perm.swap _ _ _))),_,(by omega),k+1,_,[(b4,_)],rfl,rfl,rfl,by omega,.inr ⟨b4,by rw [hls2];simp,by rw [hls2,hon];rfl,by rw [hls2,hon];rfl⟩⟩
            ·skip
             conv=>whnf
             repeat ((first|refine ⟨gP_of ⟨by omega,by omega⟩,?_⟩|(refine ⟨_,.tail _ (.tail _ (.head _)),⟨enc_len encS_len,hLb⟩,fun b4=>⟨_,.there (.there (.here _)),?_⟩⟩));conv=>whnf)
             exact ⟨_,_,Turn.trans (Turn.cells (ys:=(Lk.map encS).flatten++(encS (Bt.map (extR t))++[])) (.there (.there (.here _))) (VsLe.pre (.cons VLe.sl .nil) _)) (Turn.drop (.here _)),_,(by omega),k+1,_,[(b4,_)],rfl,rfl,rfl,by omega,.inr ⟨b4,by rw [hls2];simp,by rw [hls2,List.length_append];rfl,by rw [hls2,List.map_append,List.flatten_append];rfl⟩⟩
         ·have hz2:(decide ((d:Int)<12)&&decide ((k:Int)<((row.map encStp).length:Int)))=false:=hz2
          rw [List.length_map,decide_eq_true (by omega),Bool.true_and,decide_eq_false_iff_not] at hz2
          rw [List.take_of_length_le (by omega)] at ho
          obtain ⟨LS,hLS⟩:∃ LS,LS=endL E x++lsB Bh row:=⟨_,rfl⟩
          have hlok:=lsB_ok hBo hBl hst
          have hrs:=rests_step hE hx hm1 hlok
          rw [← hLS] at ho hrs
          rw [hxe] at hrs
          have hmem:∀ l∈LS,l.length≤65536∧∀ r∈l,r.path.length≤15:=by
           intro l2 hl2
           rw [hLS] at hl2
           rcases List.mem_append.1 hl2 with h2|h2
           ·exact endL_mem E x l2 h2
           ·obtain ⟨k2,hk2⟩:=List.mem_iff_getElem?.1 h2
            have hk3:=(List.getElem?_eq_some_iff.1 hk2).1
            obtain ⟨mv,hmv⟩:=get_lt (l:=movesM E x) (i:=k2) (by rw [← hlok.1];exact hk3)
            obtain ⟨t,rs,_,_,c3,rfl⟩:=hlok.2 k2 l2 mv hk2 hmv
            have hmo:=moves_ok hE hx (List.mem_of_getElem? hmv)
            have:=c3.many
            refine ⟨by rw [List.length_map];omega,fun r hr=>?_⟩
            obtain ⟨r0,hr0,rfl⟩:=List.mem_map.1 hr
            have:=c3.short hE hmo.to r0 hr0
            show (t::r0.path).length≤15
            rw [List.length_cons]
            omega
          have hll:=fun l hl=>(hmem l hl).1
          have hpl:=fun l hl=>(hmem l hl).2
          have hLl:LS.length≤65536:=by
           have h1:=endL_len E x
           rw [hLS,List.length_append]
           unfold lsB
           rw [List.length_map]
           omega
          rcases ho with ⟨hon,rfl,rfl⟩|⟨lb,hLn,rfl,rfl⟩
          ·rw [hon,mrgL_nil] at hrs
           conv=>whnf
           repeat ((first|refine ⟨gP_of ⟨by omega,by omega⟩,?_⟩|refine QCall.k0 (mergeNil most hm) ?_|(refine ⟨(by rw [List.length_append,List.length_singleton,List.length_map];unfold AMAX;omega),fun q'=>⟨_,.here _,?_⟩⟩));conv=>whnf)
           exact ⟨_,_,Turn.refl _ _,_,(by omega),i+1,Hh++[[]],q',by rw [List.map_append];rfl,rfl,rfl,by omega,by rw [List.length_append,List.length_singleton];omega,hHh.snoc (by rw [hHl];exact hs) hrs⟩
          ·conv=>whnf
           skip
           refine ACalls.mono ?_ (Lst.ACalls.re (h2:=[(q16,.tok)]) (R':=fun v H=>v=.sl 1 none ((mrgL LS most).map encR)∧H=[(q16,.tok)]) (mergeW LS (List.length_pos_iff.2 hLn) hLl hll hpl most hm lb) (List.Perm.swap _ _ _) ?_)
           rotate_left
           ·rintro v h1 ⟨rfl,rfl⟩
            exact ⟨_,.refl _,rfl,rfl⟩
           ·rintro v h1 ⟨rfl,rfl⟩
            conv=>whnf
            repeat ((first|refine ⟨gP_of ⟨by omega,by omega⟩,?_⟩|(refine ⟨(by rw [List.length_append,List.length_singleton,List.length_map];unfold AMAX;omega),fun q'=>⟨_,.here _,?_⟩⟩));conv=>whnf)
            exact ⟨_,_,Turn.refl _ _,_,(by omega),i+1,Hh++[mrgL LS most],q',by rw [List.map_append];rfl,rfl,rfl,by omega,by rw [List.length_append,List.length_singleton];omega,hHh.snoc (by rw [hHl];exact hs) hrs⟩
       ·have hd12:d=12:=by omega
        refine tloop rfl mixed [3,4,9,10,12,13,14,15,16,17,18,21] [] (fun m r h=>∃ (k:Nat) (lv:AV) (lh:Heap),r=[(3,[],.int .i64 most),(4,[],.iptr (encHou H)),(9,[],.iptr (wkC E P)),(10,[],.int .i64 (wgtM H.lex f)),(12,[],.sl 1 none (S.map encRSs)),(13,[],.sl 1 none (T.map encSpr)),(14,[],.sl 1 none (Bh.map encS)),(15,[],.int .i64 d),(16,[],.sl 1 (some q16) (Hh.map encS)),(17,[],.int .i64 i),(18,[],lv),(21,[],.int .i64 k)]∧h=(q16,.tok)::lh∧m=0∧k=0∧ORow (endL E x++[]) lv lh) ?_ ?_
        ·conv=>whnf
         exact ⟨_,_,Turn.perm (List.Perm.swap _ _ _),_,0,.osl bb 0 1 1,[(bb,_)],rfl,rfl,rfl,by omega,.inr ⟨bb,by rw [hel];simp,by rw [hel];rfl,by rw [hel,e4];show [(bb,Ob.vec [AV.sl 1 none [_]])]=[(bb,Ob.vec [AV.sl 1 none [encR ⟨[],_⟩]])];rw [encR_nil];rfl⟩⟩
        ·rintro m r h' ⟨k,lv,lh,rfl,rfl,rfl,rfl,ho⟩
         conv=>whnf
         repeat ((refine ⟨0,encSpr [[]],?_,?_⟩;(focus (conv=>whnf;skip));(focus (intro hq1;exact absurd (of_decide_eq_true hq1) (by omega))));conv=>whnf)
         refine cF (by rw [decide_eq_false (show ¬ ((d:Int)<12) by omega)];rfl) ?_
         obtain ⟨LS,hLS⟩:∃ LS,LS=endL E x++[]:=⟨_,rfl⟩
         have hlok:=lsB_none (E:=E) (m:=most) (x:=x) (by omega)
         have hrs:=rests_step hE hx hm1 hlok
         rw [← hLS] at ho hrs
         rw [hxe] at hrs
         have hmem:∀ l∈LS,l.length≤65536∧∀ r∈l,r.path.length≤15:=by
          intro l2 hl2
          rw [hLS,List.append_nil] at hl2
          exact endL_mem E x l2 hl2
         have hll:=fun l hl=>(hmem l hl).1
         have hpl:=fun l hl=>(hmem l hl).2
         have hLl:LS.length≤65536:=by
          have h1:=endL_len E x
          rw [hLS,List.append_nil]
          omega
         rcases ho with ⟨hon,rfl,rfl⟩|⟨lb,hLn,rfl,rfl⟩
         ·rw [hon,mrgL_nil] at hrs
          conv=>whnf
          repeat ((first|refine ⟨gP_of ⟨by omega,by omega⟩,?_⟩|refine QCall.k0 (mergeNil most hm) ?_|(refine ⟨(by rw [List.length_append,List.length_singleton,List.length_map];unfold AMAX;omega),fun q'=>⟨_,.here _,?_⟩⟩));conv=>whnf)
          exact ⟨_,_,Turn.refl _ _,_,(by omega),i+1,Hh++[[]],q',by rw [List.map_append];rfl,rfl,rfl,by omega,by rw [List.length_append,List.length_singleton];omega,hHh.snoc (by rw [hHl];exact hs) hrs⟩
         ·conv=>whnf
          skip
          refine ACalls.mono ?_ (Lst.ACalls.re (h2:=[(q16,.tok)]) (R':=fun v H=>v=.sl 1 none ((mrgL LS most).map encR)∧H=[(q16,.tok)]) (mergeW LS (List.length_pos_iff.2 hLn) hLl hll hpl most hm lb) (List.Perm.swap _ _ _) ?_)
          rotate_left
          ·rintro v h1 ⟨rfl,rfl⟩
           exact ⟨_,.refl _,rfl,rfl⟩
          ·rintro v h1 ⟨rfl,rfl⟩
           conv=>whnf
           repeat ((first|refine ⟨gP_of ⟨by omega,by omega⟩,?_⟩|(refine ⟨(by rw [List.length_append,List.length_singleton,List.length_map];unfold AMAX;omega),fun q'=>⟨_,.here _,?_⟩⟩));conv=>whnf)
           exact ⟨_,_,Turn.refl _ _,_,(by omega),i+1,Hh++[mrgL LS most],q',by rw [List.map_append];rfl,rfl,rfl,by omega,by rw [List.length_append,List.length_singleton];omega,hHh.snoc (by rw [hHl];exact hs) hrs⟩
      ·have e4:(lastM E x).1=wgtM H.lex f:=by rw [e3,if_neg (by rw [hop];decide),hwE];omega
       conv=>whnf
       skip
       refine region_turn rfl mixed (Turn.freeze (b:=xb) (.here _) (FzH.refl _) (.cons (.refl _) (.cons (.refl _) (.cons (.refl _) (.cons (.refl _) (.cons (.refl _) (.cons (.refl _) (.cons (.refl _) (.cons (.refl _) (.cons (.refl _) (.cons (.refl _) (.cons (.refl _) (.cons (.refl _) (.cons (.ptr rfl) (FzR.refl _))))))))))))))) ?_
       conv=>whnf
       repeat ((refine ⟨⟨Nat.le_of_ble_eq_true rfl,Nat.le_of_ble_eq_true rfl⟩,fun bb=>?_⟩);conv=>whnf)
       by_cases hd:d<12
       ·obtain ⟨l',hl'⟩:=get_lt (l:=S) (i:=d+1) (by omega)
        obtain ⟨rows,hrows⟩:=get_lt (l:=T) (i:=d) (by omega)
        obtain ⟨hrl,hrs0⟩:=hL.step d l l' rows hl hl' hrows
        obtain ⟨row,hrow⟩:=get_lt (l:=rows) (i:=i) (by omega)
        have hst:=hrs0 i s row hs hrow
        rw [← hxe] at hst
        obtain ⟨hBl,hBo⟩:=hBh l' hl'
        have hrowl:=hst.len
        have hml:=moves_len (x:=x) hE
        refine tloop rfl mixed [3,4,9,10,12,13,14,15,16,17,18,21] [] (fun m r h=>∃ (k:Nat) (lv:AV) (lh:Heap),r=[(3,[],.int .i64 most),(4,[],.iptr (encHou H)),(9,[],.iptr (wkC E P)),(10,[],.int .i64 (wgtM H.lex f)),(12,[],.sl 1 none (S.map encRSs)),(13,[],.sl 1 none (T.map encSpr)),(14,[],.sl 1 none (Bh.map encS)),(15,[],.int .i64 d),(16,[],.sl 1 (some q16) (Hh.map encS)),(17,[],.int .i64 i),(18,[],lv),(21,[],.int .i64 k)]∧h=(q16,.tok)::lh∧m=row.length - k∧k≤row.length∧ORow (endL E x++lsB Bh (row.take k)) lv lh) ?_ ?_
        ·conv=>whnf
         exact ⟨_,_,Turn.perm (List.Perm.swap _ _ _),_,0,.osl bb 0 1 1,[(bb,_)],rfl,rfl,rfl,by omega,.inr ⟨bb,by rw [hel];simp,by rw [hel];rfl,by rw [hel,e4];show [(bb,Ob.vec [AV.sl 1 none [_]])]=[(bb,Ob.vec [AV.sl 1 none [encR ⟨[],_⟩]])];rw [encR_nil];rfl⟩⟩
        ·rintro m r h' ⟨k,lv,lh,rfl,rfl,rfl,hk,ho⟩
         conv=>whnf
         repeat (refine ix (by assumption) ?_;conv=>whnf)
         refine ⟨fun hz2=>?_,fun hz2=>?_⟩
         ·have hz2:(decide ((d:Int)<12)&&decide ((k:Int)<((row.map encStp).length:Int)))=true:=hz2
          rw [List.length_map,Bool.and_eq_true,decide_eq_true_eq,decide_eq_true_eq] at hz2
          obtain ⟨t,ht⟩:=get_lt (l:=row) (i:=k) (by omega)
          obtain ⟨mv,hmv⟩:=get_lt (l:=movesM E x) (i:=k) (by omega)
          have hsr:=hst.get ht hmv
          have hmo:=moves_ok hE hx (List.mem_of_getElem? hmv)
          have hmc:=hmo.cost
          rw [← hsr.cost] at hmc
          obtain ⟨r1,g1,g2⟩:=hsr.to
          obtain ⟨Bt,hBt⟩:=get_lt (l:=Bh) (i:=t.to) (by have:=(List.getElem?_eq_some_iff.1 g1).1;omega)
          have hok:=hBo _ _ _ g1 hBt
          have hn1:((d+1:Nat):Int)=(d:Int)+1:=by push_cast;rfl
          rw [hn1,g2] at hok
          have hBc:=hok.cost hE hmo.to
          have hBs:=hok.short hE hmo.to
          have hBm:=hok.many
          have hls:lsB Bh (row.take (k+1))=lsB Bh (row.take k)++[Bt.map (extR t)]:=by
           unfold lsB
           rw [take_snoc ht,List.map_append,List.map_singleton,List.getD_eq_getElem?_getD,hBt]
           rfl
          conv=>whnf
          repeat ((first|refine ix (by assumption) ?_|refine ⟨_,_,Rem.here _,⟨Nat.le_of_ble_eq_true rfl,rfl⟩,?_⟩|intro (nb:Nat));conv=>whnf)
          refine tloop rfl mixed [3,4,9,10,12,13,14,15,16,17,18,21,22,23,24] [(23,1)] (fun m r h=>∃ (j:Nat) (q23:Nat),r=[(3,[],.int .i64 most),(4,[],.iptr (encHou H)),(9,[],.iptr (wkC E P)),(10,[],.int .i64 (wgtM H.lex f)),(12,[],.sl 1 none (S.map encRSs)),(13,[],.sl 1 none (T.map encSpr)),(14,[],.sl 1 none (Bh.map encS)),(15,[],.int .i64 d),(16,[],.sl 1 (some q16) (Hh.map encS)),(17,[],.int .i64 i),(18,[],lv),(21,[],.int .i64 k),(22,[],.iptr (encStp t)),(23,[],.sl 1 (some q23) (((Bt.take j).map (extR t)).map encR)),(24,[],.int .i64 j)]∧h=(q23,.tok)::(q16,.tok)::lh∧m=Bt.length - j∧j≤Bt.length) ?_ ?_
          ·conv=>whnf
           refine ⟨by decide,fun q23=>?_⟩
           conv=>whnf
           exact ⟨_,_,Turn.refl _ _,_,0,q23,rfl,rfl,rfl,by omega⟩
          ·rintro m r h' ⟨j,q23,rfl,rfl,rfl,hj⟩
           conv=>whnf
           repeat (refine ix (by assumption) ?_;conv=>whnf)
           refine ⟨fun hz3=>?_,fun hz3=>?_⟩<;>simp at hz3
           ·obtain ⟨rr,hrr⟩:=get_lt hz3
            have hrc:=hBc rr (List.mem_of_getElem? hrr)
            have hrp:=hBs rr (List.mem_of_getElem? hrr)
            conv=>whnf
            repeat ((first|refine ⟨gP_of ⟨by omega,by omega⟩,?_⟩|refine ix (by assumption) ?_|(refine ⟨(by rw [List.length_append,List.length_singleton,List.length_map,List.length_map,List.length_take];unfold AMAX;omega),fun q'=>⟨_,.here _,?_⟩⟩)|refine And.intro (by show drawOK (opsAt Tryz.f57 _) _=true;decide +kernel) ?_);conv=>whnf)
            refine ⟨_,_,Turn.refl _ _,_,(by omega),j+1,q',?_,rfl,rfl,by omega⟩
            rw [take_snoc hrr,List.map_append,List.map_append,List.map_singleton,List.map_singleton,encR_ext]
            rfl
           ·obtain ⟨Lk,hLk⟩:∃ Lk,Lk=endL E x++lsB Bh (row.take k):=⟨_,rfl⟩
            have hls2:endL E x++lsB Bh (row.take (k+1))=Lk++[Bt.map (extR t)]:=by rw [hls,hLk,List.append_assoc]
            have hLb:Lk.length+1≤AMAX:=by
             have h1:=endL_len E x
             rw [hLk,List.length_append]
             unfold lsB
             rw [List.length_map,List.length_take]
             unfold AMAX
             omega
            rw [← hLk] at ho
            rw [List.take_of_length_le (by omega)]
            rcases ho with ⟨hon,rfl,rfl⟩|⟨lb,hLn,rfl,rfl⟩
            ·conv=>whnf
             repeat ((first|refine ⟨gP_of ⟨by omega,by omega⟩,?_⟩|(refine ⟨⟨Nat.le_of_ble_eq_true rfl,Nat.le_of_ble_eq_true rfl⟩,fun b4=>?_⟩));conv=>whnf)
             exact ⟨_,_,Turn.trans (Turn.cells (ys:=encS (Bt.map (extR t))) (.here _) (.cons VLe.sl .nil)) (Turn.trans (Turn.drop (.there (.here _))) (Turn.perm (List.Perm.swap _ _ _))),_,(by omega),k+1,_,[(b4,_)],rfl,rfl,rfl,by omega,.inr ⟨b4,by rw [hls2];simp,by rw [hls2,hon];rfl,by rw [hls2,hon];rfl⟩⟩
            ·skip
             conv=>whnf
             repeat ((first|refine ⟨gP_of ⟨by omega,by omega⟩,?_⟩|(refine ⟨_,.tail _ (.tail _ (.head _)),⟨enc_len encS_len,hLb⟩,fun b4=>⟨_,.there (.there (.here _)),?_⟩⟩));conv=>whnf)
             exact ⟨_,_,Turn.trans (Turn.cells (ys:=(Lk.map encS).flatten++(encS (Bt.map (extR t))++[])) (.there (.there (.here _))) (VsLe.pre (.cons VLe.sl .nil) _)) (Turn.drop (.here _)),_,(by omega),k+1,_,[(b4,_)],rfl,rfl,rfl,by omega,.inr ⟨b4,by rw [hls2];simp,by rw [hls2,List.length_append];rfl,by rw [hls2,List.map_append,List.flatten_append];rfl⟩⟩
         ·have hz2:(decide ((d:Int)<12)&&decide ((k:Int)<((row.map encStp).length:Int)))=false:=hz2
          rw [List.length_map,decide_eq_true (by omega),Bool.true_and,decide_eq_false_iff_not] at hz2
          rw [List.take_of_length_le (by omega)] at ho
          obtain ⟨LS,hLS⟩:∃ LS,LS=endL E x++lsB Bh row:=⟨_,rfl⟩
          have hlok:=lsB_ok hBo hBl hst
          have hrs:=rests_step hE hx hm1 hlok
          rw [← hLS] at ho hrs
          rw [hxe] at hrs
          have hmem:∀ l∈LS,l.length≤65536∧∀ r∈l,r.path.length≤15:=by
           intro l2 hl2
           rw [hLS] at hl2
           rcases List.mem_append.1 hl2 with h2|h2
           ·exact endL_mem E x l2 h2
           ·obtain ⟨k2,hk2⟩:=List.mem_iff_getElem?.1 h2
            have hk3:=(List.getElem?_eq_some_iff.1 hk2).1
            obtain ⟨mv,hmv⟩:=get_lt (l:=movesM E x) (i:=k2) (by rw [← hlok.1];exact hk3)
            obtain ⟨t,rs,_,_,c3,rfl⟩:=hlok.2 k2 l2 mv hk2 hmv
            have hmo:=moves_ok hE hx (List.mem_of_getElem? hmv)
            have:=c3.many
            refine ⟨by rw [List.length_map];omega,fun r hr=>?_⟩
            obtain ⟨r0,hr0,rfl⟩:=List.mem_map.1 hr
            have:=c3.short hE hmo.to r0 hr0
            show (t::r0.path).length≤15
            rw [List.length_cons]
            omega
          have hll:=fun l hl=>(hmem l hl).1
          have hpl:=fun l hl=>(hmem l hl).2
          have hLl:LS.length≤65536:=by
           have h1:=endL_len E x
           rw [hLS,List.length_append]
           unfold lsB
           rw [List.length_map]
           omega
          rcases ho with ⟨hon,rfl,rfl⟩|⟨lb,hLn,rfl,rfl⟩
          ·rw [hon,mrgL_nil] at hrs
           conv=>whnf
           repeat ((first|refine ⟨gP_of ⟨by omega,by omega⟩,?_⟩|refine QCall.k0 (mergeNil most hm) ?_|(refine ⟨(by rw [List.length_append,List.length_singleton,List.length_map];unfold AMAX;omega),fun q'=>⟨_,.here _,?_⟩⟩));conv=>whnf)
           exact ⟨_,_,Turn.refl _ _,_,(by omega),i+1,Hh++[[]],q',by rw [List.map_append];rfl,rfl,rfl,by omega,by rw [List.length_append,List.length_singleton];omega,hHh.snoc (by rw [hHl];exact hs) hrs⟩
          ·conv=>whnf
           skip
           refine ACalls.mono ?_ (Lst.ACalls.re (h2:=[(q16,.tok)]) (R':=fun v H=>v=.sl 1 none ((mrgL LS most).map encR)∧H=[(q16,.tok)]) (mergeW LS (List.length_pos_iff.2 hLn) hLl hll hpl most hm lb) (List.Perm.swap _ _ _) ?_)
           rotate_left
           ·rintro v h1 ⟨rfl,rfl⟩
            exact ⟨_,.refl _,rfl,rfl⟩
           ·rintro v h1 ⟨rfl,rfl⟩
            conv=>whnf
            repeat ((first|refine ⟨gP_of ⟨by omega,by omega⟩,?_⟩|(refine ⟨(by rw [List.length_append,List.length_singleton,List.length_map];unfold AMAX;omega),fun q'=>⟨_,.here _,?_⟩⟩));conv=>whnf)
            exact ⟨_,_,Turn.refl _ _,_,(by omega),i+1,Hh++[mrgL LS most],q',by rw [List.map_append];rfl,rfl,rfl,by omega,by rw [List.length_append,List.length_singleton];omega,hHh.snoc (by rw [hHl];exact hs) hrs⟩
       ·have hd12:d=12:=by omega
        refine tloop rfl mixed [3,4,9,10,12,13,14,15,16,17,18,21] [] (fun m r h=>∃ (k:Nat) (lv:AV) (lh:Heap),r=[(3,[],.int .i64 most),(4,[],.iptr (encHou H)),(9,[],.iptr (wkC E P)),(10,[],.int .i64 (wgtM H.lex f)),(12,[],.sl 1 none (S.map encRSs)),(13,[],.sl 1 none (T.map encSpr)),(14,[],.sl 1 none (Bh.map encS)),(15,[],.int .i64 d),(16,[],.sl 1 (some q16) (Hh.map encS)),(17,[],.int .i64 i),(18,[],lv),(21,[],.int .i64 k)]∧h=(q16,.tok)::lh∧m=0∧k=0∧ORow (endL E x++[]) lv lh) ?_ ?_
        ·conv=>whnf
         exact ⟨_,_,Turn.perm (List.Perm.swap _ _ _),_,0,.osl bb 0 1 1,[(bb,_)],rfl,rfl,rfl,by omega,.inr ⟨bb,by rw [hel];simp,by rw [hel];rfl,by rw [hel,e4];show [(bb,Ob.vec [AV.sl 1 none [_]])]=[(bb,Ob.vec [AV.sl 1 none [encR ⟨[],_⟩]])];rw [encR_nil];rfl⟩⟩
        ·rintro m r h' ⟨k,lv,lh,rfl,rfl,rfl,rfl,ho⟩
         conv=>whnf
         repeat ((refine ⟨0,encSpr [[]],?_,?_⟩;(focus (conv=>whnf;skip));(focus (intro hq1;exact absurd (of_decide_eq_true hq1) (by omega))));conv=>whnf)
         refine cF (by rw [decide_eq_false (show ¬ ((d:Int)<12) by omega)];rfl) ?_
         obtain ⟨LS,hLS⟩:∃ LS,LS=endL E x++[]:=⟨_,rfl⟩
         have hlok:=lsB_none (E:=E) (m:=most) (x:=x) (by omega)
         have hrs:=rests_step hE hx hm1 hlok
         rw [← hLS] at ho hrs
         rw [hxe] at hrs
         have hmem:∀ l∈LS,l.length≤65536∧∀ r∈l,r.path.length≤15:=by
          intro l2 hl2
          rw [hLS,List.append_nil] at hl2
          exact endL_mem E x l2 hl2
         have hll:=fun l hl=>(hmem l hl).1
         have hpl:=fun l hl=>(hmem l hl).2
         have hLl:LS.length≤65536:=by
          have h1:=endL_len E x
          rw [hLS,List.append_nil]
          omega
         rcases ho with ⟨hon,rfl,rfl⟩|⟨lb,hLn,rfl,rfl⟩
         ·rw [hon,mrgL_nil] at hrs
          conv=>whnf
          repeat ((first|refine ⟨gP_of ⟨by omega,by omega⟩,?_⟩|refine QCall.k0 (mergeNil most hm) ?_|(refine ⟨(by rw [List.length_append,List.length_singleton,List.length_map];unfold AMAX;omega),fun q'=>⟨_,.here _,?_⟩⟩));conv=>whnf)
          exact ⟨_,_,Turn.refl _ _,_,(by omega),i+1,Hh++[[]],q',by rw [List.map_append];rfl,rfl,rfl,by omega,by rw [List.length_append,List.length_singleton];omega,hHh.snoc (by rw [hHl];exact hs) hrs⟩
         ·conv=>whnf
          skip
          refine ACalls.mono ?_ (Lst.ACalls.re (h2:=[(q16,.tok)]) (R':=fun v H=>v=.sl 1 none ((mrgL LS most).map encR)∧H=[(q16,.tok)]) (mergeW LS (List.length_pos_iff.2 hLn) hLl hll hpl most hm lb) (List.Perm.swap _ _ _) ?_)
          rotate_left
          ·rintro v h1 ⟨rfl,rfl⟩
           exact ⟨_,.refl _,rfl,rfl⟩
          ·rintro v h1 ⟨rfl,rfl⟩
           conv=>whnf
           repeat ((first|refine ⟨gP_of ⟨by omega,by omega⟩,?_⟩|(refine ⟨(by rw [List.length_append,List.length_singleton,List.length_map];unfold AMAX;omega),fun q'=>⟨_,.here _,?_⟩⟩));conv=>whnf)
           exact ⟨_,_,Turn.refl _ _,_,(by omega),i+1,Hh++[mrgL LS most],q',by rw [List.map_append];rfl,rfl,rfl,by omega,by rw [List.length_append,List.length_singleton];omega,hHh.snoc (by rw [hHl];exact hs) hrs⟩
     ·have hq:(decide (0<(d:Int))&&endM E P s)=false:=hq
      have hlt:(lastM E x).2=false:=by
       by_cases hd0:d=0
       ·subst hd0
        rw [hxe]
        unfold lastM
        rw [if_pos (by show (decide (((0:Nat):Int)=0)||_)=true;rfl)]
       ·obtain ⟨e1,e2⟩:=end_last hP (n:=d) (by omega) hcan
        rw [← hxe] at e1
        rw [e1]
        rw [decide_eq_true (by omega),Bool.true_and] at hq
        exact hq
      have hel:endL E x=[]:=by unfold endL;rw [if_neg (by rw [hlt];decide)]
      conv=>whnf
      skip
      by_cases hd:d<12
      ·obtain ⟨l',hl'⟩:=get_lt (l:=S) (i:=d+1) (by omega)
       obtain ⟨rows,hrows⟩:=get_lt (l:=T) (i:=d) (by omega)
       obtain ⟨hrl,hrs0⟩:=hL.step d l l' rows hl hl' hrows
       obtain ⟨row,hrow⟩:=get_lt (l:=rows) (i:=i) (by omega)
       have hst:=hrs0 i s row hs hrow
       rw [← hxe] at hst
       obtain ⟨hBl,hBo⟩:=hBh l' hl'
       have hrowl:=hst.len
       have hml:=moves_len (x:=x) hE
       refine tloop rfl mixed [3,4,9,10,12,13,14,15,16,17,18,21] [] (fun m r h=>∃ (k:Nat) (lv:AV) (lh:Heap),r=[(3,[],.int .i64 most),(4,[],.iptr (encHou H)),(9,[],.iptr (wkC E P)),(10,[],.int .i64 (wgtM H.lex f)),(12,[],.sl 1 none (S.map encRSs)),(13,[],.sl 1 none (T.map encSpr)),(14,[],.sl 1 none (Bh.map encS)),(15,[],.int .i64 d),(16,[],.sl 1 (some q16) (Hh.map encS)),(17,[],.int .i64 i),(18,[],lv),(21,[],.int .i64 k)]∧h=(q16,.tok)::lh∧m=row.length - k∧k≤row.length∧ORow (endL E x++lsB Bh (row.take k)) lv lh) ?_ ?_
       ·conv=>whnf
        exact ⟨_,_,Turn.weak (.cons (VLe.refl _) (.cons (VLe.refl _) (.cons (VLe.refl _) (.cons (VLe.refl _) (.cons (VLe.refl _) (.cons (VLe.refl _) (.cons (VLe.refl _) (.cons (VLe.refl _) (.cons (VLe.refl _) (.cons (VLe.refl _) (.cons nil_le_nilO (RLe.refl _)))))))))))),_,0,.nilO,[],rfl,rfl,rfl,by omega,.inl ⟨by rw [hel];rfl,rfl,rfl⟩⟩
       ·rintro m r h' ⟨k,lv,lh,rfl,rfl,rfl,hk,ho⟩
        conv=>whnf
        repeat (refine ix (by assumption) ?_;conv=>whnf)
        refine ⟨fun hz2=>?_,fun hz2=>?_⟩
        ·have hz2:(decide ((d:Int)<12)&&decide ((k:Int)<((row.map encStp).length:Int)))=true:=hz2
         rw [List.length_map,Bool.and_eq_true,decide_eq_true_eq,decide_eq_true_eq] at hz2
         obtain ⟨t,ht⟩:=get_lt (l:=row) (i:=k) (by omega)
         obtain ⟨mv,hmv⟩:=get_lt (l:=movesM E x) (i:=k) (by omega)
         have hsr:=hst.get ht hmv
         have hmo:=moves_ok hE hx (List.mem_of_getElem? hmv)
         have hmc:=hmo.cost
         rw [← hsr.cost] at hmc
         obtain ⟨r1,g1,g2⟩:=hsr.to
         obtain ⟨Bt,hBt⟩:=get_lt (l:=Bh) (i:=t.to) (by have:=(List.getElem?_eq_some_iff.1 g1).1;omega)
         have hok:=hBo _ _ _ g1 hBt
         have hn1:((d+1:Nat):Int)=(d:Int)+1:=by push_cast;rfl
         rw [hn1,g2] at hok
         have hBc:=hok.cost hE hmo.to
         have hBs:=hok.short hE hmo.to
         have hBm:=hok.many
         have hls:lsB Bh (row.take (k+1))=lsB Bh (row.take k)++[Bt.map (extR t)]:=by
          unfold lsB
          rw [take_snoc ht,List.map_append,List.map_singleton,List.getD_eq_getElem?_getD,hBt]
          rfl
         conv=>whnf
         repeat ((first|refine ix (by assumption) ?_|refine ⟨_,_,Rem.here _,⟨Nat.le_of_ble_eq_true rfl,rfl⟩,?_⟩|intro (nb:Nat));conv=>whnf)
         refine tloop rfl mixed [3,4,9,10,12,13,14,15,16,17,18,21,22,23,24] [(23,1)] (fun m r h=>∃ (j:Nat) (q23:Nat),r=[(3,[],.int .i64 most),(4,[],.iptr (encHou H)),(9,[],.iptr (wkC E P)),(10,[],.int .i64 (wgtM H.lex f)),(12,[],.sl 1 none (S.map encRSs)),(13,[],.sl 1 none (T.map encSpr)),(14,[],.sl 1 none (Bh.map encS)),(15,[],.int .i64 d),(16,[],.sl 1 (some q16) (Hh.map encS)),(17,[],.int .i64 i),(18,[],lv),(21,[],.int .i64 k),(22,[],.iptr (encStp t)),(23,[],.sl 1 (some q23) (((Bt.take j).map (extR t)).map encR)),(24,[],.int .i64 j)]∧h=(q23,.tok)::(q16,.tok)::lh∧m=Bt.length - j∧j≤Bt.length) ?_ ?_
         ·conv=>whnf
          refine ⟨by decide,fun q23=>?_⟩
          conv=>whnf
          exact ⟨_,_,Turn.refl _ _,_,0,q23,rfl,rfl,rfl,by omega⟩
         ·rintro m r h' ⟨j,q23,rfl,rfl,rfl,hj⟩
          conv=>whnf
          repeat (refine ix (by assumption) ?_;conv=>whnf)
          refine ⟨fun hz3=>?_,fun hz3=>?_⟩<;>simp at hz3
          ·obtain ⟨rr,hrr⟩:=get_lt hz3
           have hrc:=hBc rr (List.mem_of_getElem? hrr)
           have hrp:=hBs rr (List.mem_of_getElem? hrr)
           conv=>whnf
           repeat ((first|refine ⟨gP_of ⟨by omega,by omega⟩,?_⟩|refine ix (by assumption) ?_|(refine ⟨(by rw [List.length_append,List.length_singleton,List.length_map,List.length_map,List.length_take];unfold AMAX;omega),fun q'=>⟨_,.here _,?_⟩⟩)|refine And.intro (by show drawOK (opsAt Tryz.f57 _) _=true;decide +kernel) ?_);conv=>whnf)
           refine ⟨_,_,Turn.refl _ _,_,(by omega),j+1,q',?_,rfl,rfl,by omega⟩
           rw [take_snoc hrr,List.map_append,List.map_append,List.map_singleton,List.map_singleton,encR_ext]
           rfl
          ·obtain ⟨Lk,hLk⟩:∃ Lk,Lk=endL E x++lsB Bh (row.take k):=⟨_,rfl⟩
           have hls2:endL E x++lsB Bh (row.take (k+1))=Lk++[Bt.map (extR t)]:=by rw [hls,hLk,List.append_assoc]
           have hLb:Lk.length+1≤AMAX:=by
            have h1:=endL_len E x
            rw [hLk,List.length_append]
            unfold lsB
            rw [List.length_map,List.length_take]
            unfold AMAX
            omega
           rw [← hLk] at ho
           rw [List.take_of_length_le (by omega)]
           rcases ho with ⟨hon,rfl,rfl⟩|⟨lb,hLn,rfl,rfl⟩
           ·conv=>whnf
            repeat ((first|refine ⟨gP_of ⟨by omega,by omega⟩,?_⟩|(refine ⟨⟨Nat.le_of_ble_eq_true rfl,Nat.le_of_ble_eq_true rfl⟩,fun b4=>?_⟩));conv=>whnf)
            exact ⟨_,_,Turn.trans (Turn.cells (ys:=encS (Bt.map (extR t))) (.here _) (.cons VLe.sl .nil)) (Turn.trans (Turn.drop (.there (.here _))) (Turn.perm (List.Perm.swap _ _ _))),_,(by omega),k+1,_,[(b4,_)],rfl,rfl,rfl,by omega,.inr ⟨b4,by rw [hls2];simp,by rw [hls2,hon];rfl,by rw [hls2,hon];rfl⟩⟩
           ·skip
            conv=>whnf
            repeat ((first|refine ⟨gP_of ⟨by omega,by omega⟩,?_⟩|(refine ⟨_,.tail _ (.tail _ (.head _)),⟨enc_len encS_len,hLb⟩,fun b4=>⟨_,.there (.there (.here _)),?_⟩⟩));conv=>whnf)
            exact ⟨_,_,Turn.trans (Turn.cells (ys:=(Lk.map encS).flatten++(encS (Bt.map (extR t))++[])) (.there (.there (.here _))) (VsLe.pre (.cons VLe.sl .nil) _)) (Turn.drop (.here _)),_,(by omega),k+1,_,[(b4,_)],rfl,rfl,rfl,by omega,.inr ⟨b4,by rw [hls2];simp,by rw [hls2,List.length_append];rfl,by rw [hls2,List.map_append,List.flatten_append];rfl⟩⟩
        ·have hz2:(decide ((d:Int)<12)&&decide ((k:Int)<((row.map encStp).length:Int)))=false:=hz2
         rw [List.length_map,decide_eq_true (by omega),Bool.true_and,decide_eq_false_iff_not] at hz2
         rw [List.take_of_length_le (by omega)] at ho
         obtain ⟨LS,hLS⟩:∃ LS,LS=endL E x++lsB Bh row:=⟨_,rfl⟩
         have hlok:=lsB_ok hBo hBl hst
         have hrs:=rests_step hE hx hm1 hlok
         rw [← hLS] at ho hrs
         rw [hxe] at hrs
         have hmem:∀ l∈LS,l.length≤65536∧∀ r∈l,r.path.length≤15:=by
          intro l2 hl2
          rw [hLS] at hl2
          rcases List.mem_append.1 hl2 with h2|h2
          ·exact endL_mem E x l2 h2
          ·obtain ⟨k2,hk2⟩:=List.mem_iff_getElem?.1 h2
           have hk3:=(List.getElem?_eq_some_iff.1 hk2).1
           obtain ⟨mv,hmv⟩:=get_lt (l:=movesM E x) (i:=k2) (by rw [← hlok.1];exact hk3)
           obtain ⟨t,rs,_,_,c3,rfl⟩:=hlok.2 k2 l2 mv hk2 hmv
           have hmo:=moves_ok hE hx (List.mem_of_getElem? hmv)
           have:=c3.many
           refine ⟨by rw [List.length_map];omega,fun r hr=>?_⟩
           obtain ⟨r0,hr0,rfl⟩:=List.mem_map.1 hr
           have:=c3.short hE hmo.to r0 hr0
           show (t::r0.path).length≤15
           rw [List.length_cons]
           omega
         have hll:=fun l hl=>(hmem l hl).1
         have hpl:=fun l hl=>(hmem l hl).2
         have hLl:LS.length≤65536:=by
          have h1:=endL_len E x
          rw [hLS,List.length_append]
          unfold lsB
          rw [List.length_map]
          omega
         rcases ho with ⟨hon,rfl,rfl⟩|⟨lb,hLn,rfl,rfl⟩
         ·rw [hon,mrgL_nil] at hrs
          conv=>whnf
          repeat ((first|refine ⟨gP_of ⟨by omega,by omega⟩,?_⟩|refine QCall.k0 (mergeNil most hm) ?_|(refine ⟨(by rw [List.length_append,List.length_singleton,List.length_map];unfold AMAX;omega),fun q'=>⟨_,.here _,?_⟩⟩));conv=>whnf)
          exact ⟨_,_,Turn.refl _ _,_,(by omega),i+1,Hh++[[]],q',by rw [List.map_append];rfl,rfl,rfl,by omega,by rw [List.length_append,List.length_singleton];omega,hHh.snoc (by rw [hHl];exact hs) hrs⟩
         ·conv=>whnf
          skip
          refine ACalls.mono ?_ (Lst.ACalls.re (h2:=[(q16,.tok)]) (R':=fun v H=>v=.sl 1 none ((mrgL LS most).map encR)∧H=[(q16,.tok)]) (mergeW LS (List.length_pos_iff.2 hLn) hLl hll hpl most hm lb) (List.Perm.swap _ _ _) ?_)
          rotate_left
          ·rintro v h1 ⟨rfl,rfl⟩
           exact ⟨_,.refl _,rfl,rfl⟩
          ·rintro v h1 ⟨rfl,rfl⟩
           conv=>whnf
           repeat ((first|refine ⟨gP_of ⟨by omega,by omega⟩,?_⟩|(refine ⟨(by rw [List.length_append,List.length_singleton,List.length_map];unfold AMAX;omega),fun q'=>⟨_,.here _,?_⟩⟩));conv=>whnf)
           exact ⟨_,_,Turn.refl _ _,_,(by omega),i+1,Hh++[mrgL LS most],q',by rw [List.map_append];rfl,rfl,rfl,by omega,by rw [List.length_append,List.length_singleton];omega,hHh.snoc (by rw [hHl];exact hs) hrs⟩
      ·have hd12:d=12:=by omega
       refine tloop rfl mixed [3,4,9,10,12,13,14,15,16,17,18,21] [] (fun m r h=>∃ (k:Nat) (lv:AV) (lh:Heap),r=[(3,[],.int .i64 most),(4,[],.iptr (encHou H)),(9,[],.iptr (wkC E P)),(10,[],.int .i64 (wgtM H.lex f)),(12,[],.sl 1 none (S.map encRSs)),(13,[],.sl 1 none (T.map encSpr)),(14,[],.sl 1 none (Bh.map encS)),(15,[],.int .i64 d),(16,[],.sl 1 (some q16) (Hh.map encS)),(17,[],.int .i64 i),(18,[],lv),(21,[],.int .i64 k)]∧h=(q16,.tok)::lh∧m=0∧k=0∧ORow (endL E x++[]) lv lh) ?_ ?_
       ·conv=>whnf
        exact ⟨_,_,Turn.weak (.cons (VLe.refl _) (.cons (VLe.refl _) (.cons (VLe.refl _) (.cons (VLe.refl _) (.cons (VLe.refl _) (.cons (VLe.refl _) (.cons (VLe.refl _) (.cons (VLe.refl _) (.cons (VLe.refl _) (.cons (VLe.refl _) (.cons nil_le_nilO (RLe.refl _)))))))))))),_,0,.nilO,[],rfl,rfl,rfl,by omega,.inl ⟨by rw [hel];rfl,rfl,rfl⟩⟩
       ·rintro m r h' ⟨k,lv,lh,rfl,rfl,rfl,rfl,ho⟩
        conv=>whnf
        repeat ((refine ⟨0,encSpr [[]],?_,?_⟩;(focus (conv=>whnf;skip));(focus (intro hq1;exact absurd (of_decide_eq_true hq1) (by omega))));conv=>whnf)
        refine cF (by rw [decide_eq_false (show ¬ ((d:Int)<12) by omega)];rfl) ?_
        obtain ⟨LS,hLS⟩:∃ LS,LS=endL E x++[]:=⟨_,rfl⟩
        have hlok:=lsB_none (E:=E) (m:=most) (x:=x) (by omega)
        have hrs:=rests_step hE hx hm1 hlok
        rw [← hLS] at ho hrs
        rw [hxe] at hrs
        have hmem:∀ l∈LS,l.length≤65536∧∀ r∈l,r.path.length≤15:=by
         intro l2 hl2
         rw [hLS,List.append_nil] at hl2
         exact endL_mem E x l2 hl2
        have hll:=fun l hl=>(hmem l hl).1
        have hpl:=fun l hl=>(hmem l hl).2
        have hLl:LS.length≤65536:=by
         have h1:=endL_len E x
         rw [hLS,List.append_nil]
         omega
        rcases ho with ⟨hon,rfl,rfl⟩|⟨lb,hLn,rfl,rfl⟩
        ·rw [hon,mrgL_nil] at hrs
         conv=>whnf
         repeat ((first|refine ⟨gP_of ⟨by omega,by omega⟩,?_⟩|refine QCall.k0 (mergeNil most hm) ?_|(refine ⟨(by rw [List.length_append,List.length_singleton,List.length_map];unfold AMAX;omega),fun q'=>⟨_,.here _,?_⟩⟩));conv=>whnf)
         exact ⟨_,_,Turn.refl _ _,_,(by omega),i+1,Hh++[[]],q',by rw [List.map_append];rfl,rfl,rfl,by omega,by rw [List.length_append,List.length_singleton];omega,hHh.snoc (by rw [hHl];exact hs) hrs⟩
        ·conv=>whnf
         skip
         refine ACalls.mono ?_ (Lst.ACalls.re (h2:=[(q16,.tok)]) (R':=fun v H=>v=.sl 1 none ((mrgL LS most).map encR)∧H=[(q16,.tok)]) (mergeW LS (List.length_pos_iff.2 hLn) hLl hll hpl most hm lb) (List.Perm.swap _ _ _) ?_)
         rotate_left
         ·rintro v h1 ⟨rfl,rfl⟩
          exact ⟨_,.refl _,rfl,rfl⟩
         ·rintro v h1 ⟨rfl,rfl⟩
          conv=>whnf
          repeat ((first|refine ⟨gP_of ⟨by omega,by omega⟩,?_⟩|(refine ⟨(by rw [List.length_append,List.length_singleton,List.length_map];unfold AMAX;omega),fun q'=>⟨_,.here _,?_⟩⟩));conv=>whnf)
          exact ⟨_,_,Turn.refl _ _,_,(by omega),i+1,Hh++[mrgL LS most],q',by rw [List.map_append];rfl,rfl,rfl,by omega,by rw [List.length_append,List.length_singleton];omega,hHh.snoc (by rw [hHl];exact hs) hrs⟩
    ·have hie:i=l.length:=by omega
     conv=>whnf
     repeat (refine ⟨gP_of ⟨by omega,by omega⟩,?_⟩;conv=>whnf)
     exact ⟨_,_,Turn.trans (Turn.weak (.cons (VLe.refl _) (.cons (VLe.refl _) (.cons (VLe.refl _) (.cons (VLe.refl _) (.cons (VLe.refl _) (.cons (VLe.refl _) (.cons VLe.sl (RLe.refl _))))))))) (Turn.drop (.here _)),_,(by omega),d,_,Hh,rfl,rfl,rfl,by omega,by omega,fun l2 hl2=>by rw [hl] at hl2;cases hl2;exact ⟨by omega,hHh⟩⟩
  ·obtain rfl:a=0:=by omega
   obtain ⟨hB1,hB2⟩:=hBh [rs0] hL.first
   obtain ⟨rs,hrs⟩:=get_lt (l:=Bh) (i:=0) (by rw [hB1];decide)
   have hok:=hB2 0 rs0 rs rfl hrs
   rw [show toS P ((0:Nat):Int) rs0=st0 from rfl] at hok
   rw [← rests_spl hE hok]
   have hos:=hok.short hE st0_ok
   have hom:=hok.many
   conv=>whnf
   skip
   refine tloop rfl mixed [14,26,27] [(26,3)] (fun m r h=>∃ (i:Nat) (q26:Nat),r=[(14,[],.sl 1 none (Bh.map encS)),(26,[],.sl 3 (some q26) (((rs.take i).map splR).map encSpl)),(27,[],.int .i64 i)]∧h=(q26,.tok)::[]∧m=rs.length - i∧i≤rs.length) ?_ ?_
   ·conv=>whnf
    refine ⟨by decide,fun q26=>?_⟩
    conv=>whnf
    exact ⟨_,_,Turn.refl _ _,_,0,q26,rfl,rfl,rfl,by omega⟩
   ·rintro m r h' ⟨i,q26,rfl,rfl,rfl,hi⟩
    conv=>whnf
    repeat (refine ix (by assumption) ?_;conv=>whnf)
    refine ⟨fun hz2=>?_,fun hz2=>?_⟩<;>simp at hz2
    ·obtain ⟨p,hp⟩:=get_lt hz2
     have hpl:=hos p (List.mem_of_getElem? hp)
     conv=>whnf
     repeat ((first|refine ix (by assumption) ?_|(intro (sb:Nat))|refine ⟨_,_,.here _,leOK,?_⟩);conv=>whnf)
     refine tloop rfl mixed [14,26,27,28,29] [] (fun m r h=>∃ (pc L:List Stp) (sv uv:AV) (sh uh:Heap) (sb:Nat),r=[(14,[],.sl 1 none (Bh.map encS)),(26,[],.sl 3 (some q26) (((rs.take i).map splR).map encSpl)),(27,[],.int .i64 i),(28,[],.optr sb 0),(29,[],.iptr (encN ⟨pc,p.fin⟩))]∧h=(sb,.vec [sv,uv,.int .i64 (costR p)])::(q26,.tok)::(sh++uh)∧m=pc.length∧p.path=L++pc∧((L=[]∧sv=.nilS∧uv=.nilS∧sh=[]∧uh=[])∨∃ q1 q2,sv=.sl 1 (some q1) (ints (L.map (·.sign)))∧uv=.sl 2 (some q2) (L.map fun m=>encUse m.use)∧sh=[(q1,.tok)]∧uh=[(q2,.tok)])) ?_ ?_
     ·conv=>whnf
      exact ⟨_,_,Turn.refl _ _,_,p.path,[],.nilS,.nilS,[],[],sb,rfl,rfl,rfl,rfl,.inl ⟨rfl,rfl,rfl,rfl,rfl⟩⟩
     ·rintro m r h' ⟨pc,L,sv,uv,sh,uh,sb,rfl,rfl,rfl,hpe,ho⟩
      have hll:=congrArg List.length hpe
      rw [List.length_append] at hll
      have hl1:(ints (L.map (·.sign))).length=L.length:=by simp [ints]
      have hl2:(L.map fun m=>encUse m.use).length=L.length:=by simp
      cases pc with
      | nil=>
        have hpL:p.path=L:=by rw [hpe,List.append_nil]
        have hvv:VsLe [sv,uv,.int .i64 (costR p)] (encSpl (splR p)):=by
         unfold encSpl splR
         rw [hpL]
         rcases ho with ⟨rfl,rfl,rfl,rfl,rfl⟩|⟨q1,q2,rfl,rfl,rfl,rfl⟩
         ·exact .cons (VLe.nil (by decide)) (.cons (VLe.nil (by decide)) (.cons (VLe.refl _) .nil))
         ·refine .cons VLe.sl (.cons ?_ (.cons (VLe.refl _) .nil))
          rw [List.map_map]
          exact VLe.sl
        conv=>whnf
        skip
        refine ⟨fun hz=>absurd hz (by decide),fun _=>?_⟩
        conv=>whnf
        repeat ((first|refine ⟨gP_of ⟨by omega,by omega⟩,?_⟩|(refine ⟨(by rw [List.length_append,List.length_singleton,List.length_map,List.length_map,List.length_take];unfold AMAX;omega),fun q'=>⟨_,.there (.here _),?_⟩⟩)|refine ⟨_,_,.head _,rfl,?_⟩);conv=>whnf)
        exact ⟨_,_,Turn.trans (Turn.weak (.cons (VLe.refl _) (.cons (VLe.els (VssLe.snoc hvv)) (RLe.refl _)))) (Turn.trans (Turn.drop (.here _)) (Turn.left (A:=[(q',.tok)]) (Z:=sh++uh))),_,(by omega),i+1,q',by rw [take_snoc hp,List.map_append,List.map_append];rfl,rfl,rfl,by omega⟩
      | cons t r=>
        rw [List.length_cons] at hll
        conv=>whnf
        skip
        refine ⟨fun _=>?_,fun hz=>absurd hz (by decide)⟩
        rcases ho with ⟨hL0,rfl,rfl,rfl,rfl⟩|⟨q1,q2,rfl,rfl,rfl,rfl⟩
        ·conv=>whnf
         repeat ((first|(refine ⟨Nat.le_of_ble_eq_true rfl,fun q=>?_⟩)|(refine ⟨_,_,.there (.there (.here _)),leOK,?_⟩)|refine ⟨_,_,.head _,rfl,?_⟩|refine ⟨_,_,.tail _ (.head _),rfl,?_⟩|refine ⟨_,_,.there (.here _),leOK,?_⟩|refine And.intro (by show drawOK (opsAt Tryz.f57 _) _=true;decide +kernel) ?_);conv=>whnf)
         rename_i q1
         exact ⟨_,_,Turn.perm ((List.Perm.swap _ _ _).trans (List.perm_append_comm (l₁:=[(q1,Ob.tok),(q,Ob.tok)]) (l₂:=[_,_]))),_,Nat.lt_succ_self _,r,L++[t],.sl 1 (some q1) [[.int .i64 t.sign]],.sl 2 (some q) [encUse t.use],[(q1,.tok)],[(q,.tok)],sb,rfl,rfl,rfl,by rw [hpe,List.append_assoc];rfl,.inr ⟨q1,q,by rw [hL0];rfl,by rw [hL0];rfl,rfl,rfl⟩⟩
        ·conv=>whnf
         repeat ((first|(refine ⟨(by rw [List.length_append,hl1];simp;unfold AMAX;omega),fun q=>⟨_,.there (.there (.here _)),?_⟩⟩)|(refine ⟨(by rw [List.length_append,hl2];simp;unfold AMAX;omega),fun q=>⟨_,.there (.there (.there (.here _))),?_⟩⟩)|refine ⟨_,_,.head _,rfl,?_⟩|refine ⟨_,_,.here _,leOK,?_⟩|refine And.intro (by show drawOK (opsAt Tryz.f57 _) _=true;decide +kernel) ?_);conv=>whnf)
         rename_i qa
         exact ⟨_,_,Turn.refl _ _,_,Nat.lt_succ_self _,r,L++[t],.sl 1 (some qa) (ints (L.map (·.sign))++[[.int .i64 t.sign]]),.sl 2 (some q) (L.map (fun m=>encUse m.use)++[encUse t.use]),[(qa,.tok)],[(q,.tok)],sb,rfl,rfl,rfl,by rw [hpe,List.append_assoc];rfl,.inr ⟨qa,q,by unfold ints;rw [List.map_append,List.map_append];rfl,by rw [List.map_append];rfl,rfl,rfl⟩⟩
    ·rw [List.take_of_length_le (by omega)]
     conv=>whnf
     skip
     exact VLe.sl
end Go.Abs.Wall.Spl
