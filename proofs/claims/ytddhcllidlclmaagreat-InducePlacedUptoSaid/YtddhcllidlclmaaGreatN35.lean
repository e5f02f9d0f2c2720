/- What is proved: small laws for the walks of this seat, and contracts of its functions. No condition but those each theorem names. -/
import Derived.Test.YtddhcllidlclmaaGreatN33
import Derived.Test.YtddhcllidlclmaaGreatN24
import Derived.Test.YtddhcllidlclmaaGreatN34
set_option maxRecDepth 100000
set_option maxHeartbeats 2000000
set_option linter.unusedVariables false
set_option linter.unusedSimpArgs false
namespace Go.Abs.Wall.Lst
open Go Go.Abs Go.Proofs Go.Abs.Wall
theorem lnks_len2 (g:List (List Edg)):(lnks g).length=g.length:=by unfold lnks;rw [List.length_map]
theorem lnks_get2 {g:List (List Edg)} {i:Nat} {es:List Edg} (h:g[i]?=some es):(lnks g)[i]?=some (es.map lnkOf):=by unfold lnks;rw [List.getElem?_map,h];rfl
theorem path_of_toe {g:List (List Edg)} {i:Nat} (h:Toe (lnks g) i):∃ l,PathG g i l:=by
 induction h with
 | fin=>exact ⟨[],lnks_len2 g⟩
 | step h1 h2 h3 ih=>
   obtain ⟨l,hl⟩:=ih
   unfold lnks at h1
   rw [List.getElem?_map] at h1
   obtain ⟨fs,hf,rfl⟩:=Option.map_eq_some_iff.1 h1
   obtain ⟨e,he,rfl⟩:=List.mem_map.1 h2
   exact ⟨e::l,fs,hf,he,hl⟩
theorem toe_of_rch {g:List (List Lnk)} {w:Int→Bool} {j:Nat} (hr:Rch g w j) (ht:Toe g j):Toe g 0:=by
 induction hr with
 | zero=>exact ht
 | step h1 h2 h3 h4 ih=>exact ih (.step h2 h3 ht)
theorem path_rch {g:List (List Edg)} {w:Int→Bool}:∀ (l:List Edg) (i:Nat),PathG g i l→(∀ x∈l,w x.word.form.entry=true)→Rch (lnks g) w i→Rch (lnks g) w (lnks g).length
 | [],i,h,_,hr=>by
   have:i=g.length:=h
   subst this
   rw [lnks_len2]
   exact hr
 | x::l,i,⟨es,h1,h2,h3⟩,hw,hr=>
   path_rch l _ h3 (fun y hy=>hw y (List.mem_cons_of_mem _ hy)) (.step hr (lnks_get2 h1) (List.mem_map.2 ⟨x,h2,rfl⟩) (hw x (List.mem_cons_self ..)))
theorem rd_path {g:List (List Edg)} (hl:LOK (lnks g)):rdM everyW (lnks g)=true↔∃ l,PathG g 0 l:=by
 rw [rdM_iff hl]
 exact ⟨fun h=>path_of_toe (toe_of_rch h .fin),fun ⟨l,h⟩=>path_rch l 0 h (fun _ _=>rfl) .zero⟩
theorem rdV_none {g:List (List Edg)} (hg:GOK g) (hl:LOK (lnks g)):rdV g 0=[]↔rdM everyW (lnks g)=false:=by
 have hp:=rdV_path hg g.length 0 (by omega)
 constructor
 ·intro h
  cases hr:rdM everyW (lnks g) with
  | false=>rfl
  | true=>
    obtain ⟨l,hpl⟩:=(rd_path hl).1 hr
    have:=(hp (sumC l,l)).2 ⟨hpl,rfl⟩
    rw [h] at this
    cases this
 ·intro h
  cases hr:rdV g 0 with
  | nil=>rfl
  | cons p t=>
    have:=(hp p).1 (by rw [hr];exact List.mem_cons_self ..)
    rw [(rd_path hl).2 ⟨_,this.1⟩] at h
    cases h
theorem best_read {H:Hou} {keep:List Int} (hk:KeepOK H keep) {l:List Int} (h:growErr H l=0):listErr (onlyH H keep) l 1=if rdM (memW keep) (lnksM H l)=true then 0 else 52:=by
 have h':=grow_keep hk h
 obtain ⟨_,_,hg⟩:=growOK h'
 have hl:=lnk_ok h'
 have h1:=rd_only hk h (w:=everyW) (w':=everyW) (fun _ _ _=>rfl)
 rw [and_every] at h1
 unfold listErr
 rw [if_neg (by omega),if_pos (by omega),← h1]
 have h2:=rdV_none hg hl
 show (if rdV (graphM (onlyH H keep) l) 0=[] then (52:Int) else 0)=if rdM everyW (lnks (graphM (onlyH H keep) l))=true then 0 else 52
 by_cases hr:rdV (graphM (onlyH H keep) l) 0=[]
 ·rw [if_pos hr,if_neg (by rw [h2.1 hr];decide)]
 ·rw [if_neg hr,if_pos (by cases hx:rdM everyW (lnks (graphM (onlyH H keep) l)) with|true=>rfl|false=>exact absurd (h2.2 hx) hr)]
theorem best_all {H:Hou} {keep:List Int} (hk:KeepOK H keep) {lines:List (List Int)} (h:∀ l∈lines,growErr H l=0) :
  allB (corM H lines) (memW keep)=true↔∀ l∈lines,listErr (onlyH H keep) l 1=0:=by
 unfold allB corM
 rw [List.all_map,List.all_eq_true]
 refine ⟨fun h1 l hl=>?_,fun h1 l hl=>?_⟩
 ·have h2:rdM (memW keep) (lnksM H l)=true:=h1 l hl
  rw [best_read hk (h l hl),if_pos h2]
 ·have:=h1 l hl
  rw [best_read hk (h l hl)] at this
  split at this
  ·assumption
  ·cases this
structure Plc where
 line:Int
 frm:Int
 to:Int
deriving DecidableEq
def encPlc (p:Plc):List AV:=[.int .i64 p.line,.int .i64 p.frm,.int .i64 p.to]
def plcGo (num i:Int):List Wrd→Int→List Plc
 | [],_=>[]
 | w::t,a=>(if w.form.entry=num then [⟨i,a,a+w.uses.length⟩] else [])++plcGo num i t (a+w.uses.length)
def plcAll (F:Hou) (num:Int):List (List Int)→Int→List Plc
 | [],_=>[]
 | l::t,i=>plcGo num i (bestL F l).words 0++plcAll F num t (i+1)
def numOf (keep:List Int) (entry:Int):Int:=firstI (fun x=>decide (entry=x)) keep
def plcErr (H:Hou) (lines:List (List Int)) (keep:List Int) (entry:Int):Int:=
 if begErr H lines keep≠0 then begErr H lines keep else if memW keep entry=false then 1 else if allB (corM H lines) (memW keep)=true then 0 else 52
def plcL (H:Hou) (lines:List (List Int)) (keep:List Int) (entry:Int):List Plc:=
 if plcErr H lines keep entry=0 then plcAll (onlyH H keep) (numOf keep entry) lines 0 else []
theorem plcGo_len (num i:Int):∀ (ws:List Wrd) (a:Int),(plcGo num i ws a).length≤ws.length
 | [],_=>Nat.le_refl _
 | w::t,a=>by
   have:=plcGo_len num i t (a+w.uses.length)
   rw [plcGo,List.length_append]
   split<;>simp<;>omega
theorem plcAll_len (F:Hou) (num:Int):∀ (lines:List (List Int)) (i:Int),(plcAll F num lines i).length≤60*lines.length
 | [],_=>Nat.le_refl _
 | l::t,i=>by
   have h1:=plcAll_len F num t (i+1)
   have h2:=plcGo_len num i (bestL F l).words 0
   have h3:=(bestL_fit (H:=F) (line:=l)).1
   rw [plcAll,List.length_append,List.length_cons]
   omega
end Go.Abs.Wall.Lst
namespace Go.Abs.Wall.Lst
open Go Go.Abs Go.Proofs Go.Abs.Wall
theorem numOf_get {keep:List Int} (hu:keep.Pairwise (·<·)) {entry:Int} (hm:memW keep entry=true) {j:Nat} {k:Int} (hj:keep[j]?=some k):decide (k=entry)=decide ((j:Int)=numOf keep entry):=by
 unfold memW at hm
 rw [decide_eq_true_eq] at hm
 obtain ⟨i,hi⟩:=List.mem_iff_getElem?.1 hm
 have hn:numOf keep entry=(i:Int):=by
  unfold numOf
  have hb:Below (fun x=>decide (entry=x)) keep i:=by
   intro a y ha hy
   have:=up_get hu hy hi ha
   simp
   omega
  exact hb.at hi (by simp)
 rw [hn,decide_eq_decide]
 constructor
 ·intro h
  subst h
  rcases Nat.lt_trichotomy j i with h|h|h
  ·exact absurd (up_get hu hj hi h) (by omega)
  ·omega
  ·exact absurd (up_get hu hi hj h) (by omega)
 ·intro h
  have:j=i:=by omega
  subst this
  rw [hj] at hi
  exact Option.some.inj hi
theorem numOf_neg {keep:List Int} {entry:Int}:decide (numOf keep entry<0)=!memW keep entry:=by
 have h:=firstI_any (fun x=>decide (entry=x)) keep
 have h2:(keep.any fun x=>decide (entry=x))=memW keep entry:=by
  unfold memW
  rw [Bool.eq_iff_iff,List.any_eq_true]
  simp
 rw [h2] at h
 rw [← h]
 unfold numOf
 rw [← decide_not,decide_eq_decide]
 omega
theorem best_words {F:Hou} {l:List Int} (h:listErr F l 1=0):∃ p:List Edg,(bestL F l).words=p.map (·.word)∧PathG (graphM F l) 0 p:=by
 obtain ⟨r,t,h1,h2⟩:=list_first h
 obtain ⟨_,q,_,h3,h4,_⟩:=mem_list h (i:=0) (r:=r) (by rw [h1];rfl)
 exact ⟨q.2,by rw [h2,h3];rfl,h4⟩
theorem graph_mem {H:Hou} {line:List Int} {j:Nat} {es:List Edg} (h:(graphM H line)[j]?=some es):j<line.length∧es=edgsAt H line j:=by
 have hi:=(List.getElem?_eq_some_iff.1 h).1
 rw [graphM_len] at hi
 rw [graphM_get hi] at h
 cases h
 exact ⟨hi,rfl⟩
def c9:Cfg:=⟨[0,1,2,3,4,8,9,10,11,12,13,14,15,16,17,19,20,29,35,40,44,45,46,47,58,61,62,63,64,76],[],[12,15,19],[],[],[]⟩
def PlcP (H:Hou) (lines:List (List Int)) (keep:List Int) (entry:Int):AV:=.tup [.sl 3 none ((plcL H lines keep entry).map encPlc),.int .i64 (plcErr H lines keep entry)]
theorem plc_err {H:Hou} {lines:List (List Int)} {keep:List Int} {entry e:Int} (h:plcErr H lines keep entry=e) (he:e≠0):PlcP H lines keep entry=.tup [.sl 3 none [],.int .i64 e]:=by
 unfold PlcP plcL
 rw [h,if_neg he]
 rfl
theorem nil3 {e:Int}:VLe (.tup [.nilS,.int .i64 e]) (.tup [.sl 3 none [],.int .i64 e]):=VLe.tup (.cons (VLe.nil (by decide)) (.cons (VLe.refl _) .nil))
theorem PlacesA (H:Hou) (lines:List (List Int)) (keep:List Int) (entry:Int) (hf:CorFit H lines) (hk:keep.length≤1048576) :
  QCall Tryz.prog 9 [.agg (encHou H),.sl 1 none (lines.map encIs),.sl 1 none (ints keep),.int .i64 entry] [] (PlcP H lines keep entry):=by
 have hbe:=beginA H lines keep hf hk
 by_cases h0:begErr H lines keep=0
 ·obtain ⟨hc0,hri⟩:=begErr_zero h0
  have hup:=risM_iff.1 hri
  have hko:KeepOK H keep:=⟨hup.1,hup.2⟩
  have hgr:=(corErr_zero hc0).2.2
  have hcf:=corP_fit hc0
  have hok:=cor_ok hc0
  have hix:=indexI keep entry (by unfold LMAX;omega)
  have hbv:begV H lines keep=corP H lines:=by unfold begV;rw [if_pos h0]
  rw [h0,hbv] at hbe
  have hal:=allA hcf (by rw [corP_len];exact hf.lines) (hp:=[]) (fun e=>chosenF keep (by unfold LMAX;omega) e)
  rw [show allB (corP H lines) (memW keep)=allB (corM H lines) (memW keep) from allB_cpt hok.links _] at hal
  cases h1:memW keep entry with
  | false=>
    have he:plcErr H lines keep entry=1:=by rw [plcErr,if_neg (by omega),if_pos h1]
    rw [plc_err he (by decide)]
    refine QCall.of ?_
    refine fcalls (F:=Tryz.f9) c9 rfl rfl rfl mixed rfl fun X=>?_
    conv=>whnf
    repeat (refine QCall.k0 (hbe) ?_;conv=>whnf)
    refine cF rfl ?_
    conv=>whnf
    repeat (refine QCall.k0 (hix) ?_;conv=>whnf)
    refine cT (by have:=numOf_neg (keep:=keep) (entry:=entry);rw [h1] at this;exact this) ?_
    conv=>whnf
    skip
    exact nil3
  | true=>
    cases h2:allB (corM H lines) (memW keep) with
    | false=>
      have he:plcErr H lines keep entry=52:=by rw [plcErr,if_neg (by omega),if_neg (by rw [h1];decide),if_neg (by rw [h2];decide)]
      rw [plc_err he (by decide)]
      rw [h2] at hal
      refine QCall.of ?_
      refine fcalls (F:=Tryz.f9) c9 rfl rfl rfl mixed rfl fun X=>?_
      conv=>whnf
      repeat (refine QCall.k0 (hbe) ?_;conv=>whnf)
      refine cF rfl ?_
      conv=>whnf
      repeat (refine QCall.k0 (hix) ?_;conv=>whnf)
      refine cF (by have:=numOf_neg (keep:=keep) (entry:=entry);rw [h1] at this;exact this) ?_
      conv=>whnf
      repeat ((first|refine QCall.k0 (chosenA keep) ?_|refine QCall.k0 (hal) ?_);conv=>whnf)
      refine cT rfl ?_
      conv=>whnf
      skip
      exact nil3
    | true=>
      have he:plcErr H lines keep entry=0:=by rw [plcErr,if_neg (by omega),if_neg (by rw [h1];decide),if_pos h2]
      have hbest:=(best_all hko hgr).1 h2
      rw [PlcP,he,plcL,if_pos he]
      rw [h2] at hal
      have hfit:=only_fit (corErr_zero hc0).1 hri
      have hon:=onlyA H keep hf.hou hfit.signs hfit.vals hfit.ends hfit.clis hk hfit.inr
      have hFf:=only_houfit hf.hou hk hfit.inr
      obtain ⟨F,hF⟩:∃ F,F=onlyH H keep:=⟨_,rfl⟩
      obtain ⟨num,hnum⟩:∃ num,num=numOf keep entry:=⟨_,rfl⟩
      rw [← hF,← hnum]
      rw [← hF] at hon hbest hFf
      have hix:QCall Tryz.prog 27 [.sl 1 none (ints keep),.int .i64 entry] [] (.int .i64 num):=by rw [hnum];exact hix
      have hll:=hf.lines
      refine QCall.of ?_
      refine fcalls (F:=Tryz.f9) c9 rfl rfl rfl mixed rfl fun X=>?_
      conv=>whnf
      repeat (refine QCall.k0 (hbe) ?_;conv=>whnf)
      refine cF rfl ?_
      conv=>whnf
      repeat (refine QCall.k0 (hix) ?_;conv=>whnf)
      refine cF (by have:=numOf_neg (keep:=keep) (entry:=entry);rw [h1,← hnum] at this;exact this) ?_
      conv=>whnf
      repeat ((first|refine QCall.k0 (chosenA keep) ?_|refine QCall.k0 (hal) ?_);conv=>whnf)
      refine cF rfl ?_
      conv=>whnf
      repeat ((first|refine QCall.k0 (hon) ?_|refine ⟨_,_,Rem.here _,⟨Nat.le_of_ble_eq_true rfl,rfl⟩,?_⟩|intro (nb:Nat));conv=>whnf)
      refine tloop rfl mixed [8,11,12,44,45,46] [] (fun m r h=>∃ (i:Nat) (ov:AV) (oh:Heap) (acc:List Plc),r=[(8,[],ov),(11,[],.int .i64 num),(12,[],.iptr (encHou F)),(44,[],.sl 1 none (lines.map encIs)),(45,[],.int .i64 (lines.map encIs).length),(46,[],.int .i64 i)]∧h=oh∧m=lines.length - i∧i≤lines.length∧Out 3 encPlc acc ov oh∧acc.length≤60*i∧plcAll F num lines 0=acc++plcAll F num (lines.drop i) i) ?_ ?_
      ·conv=>whnf
       exact ⟨_,_,Turn.refl _ _,_,0,.nilS,[],[],rfl,rfl,rfl,by omega,.inl ⟨rfl,rfl,rfl⟩,by simp,rfl⟩
      ·rintro m r h' ⟨i,ov,oh,acc,rfl,rfl,rfl,hi,ho,hal2,hpl⟩
       conv=>whnf
       refine ⟨fun hi2=>?_,fun hi2=>?_⟩<;>simp at hi2
       ·obtain ⟨l,hl⟩:=get_lt hi2
        have hlm:=List.mem_of_getElem? hl
        have hbW:=bestW F l hFf (hf.line l hlm)
        rw [hbest l hlm] at hbW
        have hbf:=bestL_fit (H:=F) (line:=l)
        obtain ⟨ws,hws⟩:∃ ws,ws=(bestL F l).words:=⟨_,rfl⟩
        rw [drop_cons hl,plcAll,← hws] at hpl
        rw [RdgFit,← hws] at hbf
        have hrd:encRdg (bestL F l)=[.sl 4 none (ws.map encWrd),.int .i64 (bestL F l).cost]:=by rw [hws];rfl
        rw [hrd] at hbW
        conv=>whnf
        repeat ((first|refine ix (by assumption) ?_|refine QCall.k0 (hbW) ?_|refine ⟨_,_,Rem.here _,⟨Nat.le_of_ble_eq_true rfl,rfl⟩,?_⟩|intro (nb:Nat));conv=>whnf)
        refine cF rfl ?_
        conv=>whnf
        skip
        refine tloop rfl mixed [8,11,12,13,17,44,45,46,61,62,63] [] (fun m r h=>∃ (k:Nat) (ov:AV) (oh:Heap) (acc:List Plc) (a:Int),r=[(8,[],ov),(11,[],.int .i64 num),(12,[],.iptr (encHou F)),(13,[],.int .i64 i),(17,[],.int .i64 a),(44,[],.sl 1 none (lines.map encIs)),(45,[],.int .i64 (lines.map encIs).length),(46,[],.int .i64 i),(61,[],.sl 4 none (ws.map encWrd)),(62,[],.int .i64 (ws.map encWrd).length),(63,[],.int .i64 k)]∧h=oh∧m=ws.length - k∧k≤ws.length∧Out 3 encPlc acc ov oh∧acc.length≤60*i+k∧(0≤a∧a≤k*1048576)∧plcAll F num lines 0=acc++(plcGo num i (ws.drop k) a++plcAll F num (lines.drop (i+1)) (i+1))) ?_ ?_
        ·conv=>whnf
         exact ⟨_,_,Turn.refl _ _,_,0,ov,_,acc,0,rfl,rfl,rfl,by omega,ho,by omega,by omega,hpl⟩
        ·rintro m r h' ⟨k,ov,oh,acc,a,rfl,rfl,rfl,hk2,ho,hal2,ha,hpl⟩
         conv=>whnf
         refine ⟨fun hk3=>?_,fun hk3=>?_⟩<;>simp at hk3
         ·obtain ⟨w,hw⟩:=get_lt hk3
          have hwf:=(hbf.2 w (List.mem_of_getElem? hw)).us
          rw [drop_cons hw,plcGo] at hpl
          have hb:=hbf.1
          have hul:(w.uses.map encUse).length=w.uses.length:=List.length_map _
          rw [← hul] at hpl
          rcases ho with ⟨he3,rfl,rfl⟩|⟨q,rfl,rfl⟩
          all_goals
           conv=>whnf
           repeat ((first|refine ⟨gP_of ⟨by omega,by omega⟩,?_⟩|refine ix (by assumption) ?_|refine ⟨_,_,Rem.here _,⟨Nat.le_of_ble_eq_true rfl,rfl⟩,?_⟩|intro (nb:Nat));conv=>whnf)
           refine ⟨fun hq=>?_,fun hq=>?_⟩<;>simp only [decide_eq_true_eq,decide_eq_false_iff_not] at hq
           ·rw [if_pos hq,← List.append_assoc,← List.append_assoc] at hpl
            conv=>whnf
            repeat ((first|refine ⟨gP_of ⟨by omega,by omega⟩,?_⟩|(refine ⟨Nat.le_of_ble_eq_true rfl,fun q'=>?_⟩)|(refine ⟨(by rw [List.length_append,List.length_map];simp;unfold AMAX;omega),fun q'=>⟨_,.here _,?_⟩⟩));conv=>whnf)
            refine ⟨_,_,Turn.refl _ _,_,(by omega),k+1,_,[(q',.tok)],acc++[⟨i,a,a+(w.uses.map encUse).length⟩],a+(w.uses.map encUse).length,rfl,rfl,rfl,by omega,.inr ⟨q',?_,rfl⟩,by simp;omega,by omega,by rw [List.append_assoc] at hpl;exact hpl⟩
            rw [List.map_append]
            first|done|rfl|(rw [he3];done)|(rw [he3];rfl)
           ·rw [if_neg hq,List.nil_append] at hpl
            conv=>whnf
            repeat (refine ⟨gP_of ⟨by omega,by omega⟩,?_⟩;conv=>whnf)
            refine ⟨_,_,Turn.refl _ _,_,(by omega),k+1,_,_,acc,a+(w.uses.map encUse).length,rfl,rfl,rfl,by omega,?_,by omega,by omega,hpl⟩
            first|exact .inl ⟨he3,rfl,rfl⟩|exact .inr ⟨q,rfl,rfl⟩
         ·rw [drop_nil hk3,plcGo,List.nil_append] at hpl
          have hb:=hbf.1
          conv=>whnf
          repeat (refine ⟨gP_of ⟨by omega,by omega⟩,?_⟩;conv=>whnf)
          exact ⟨_,_,Turn.refl _ _,_,(by omega),i+1,ov,_,acc,rfl,rfl,rfl,by omega,ho,by omega,hpl⟩
       ·rw [drop_nil hi2,plcAll,List.append_nil] at hpl
        rw [hpl]
        conv=>whnf
        skip
        exact VLe.tup (.cons (ho.le (by decide)) (.cons (VLe.refl _) .nil))
 ·have he:plcErr H lines keep entry=begErr H lines keep:=by rw [plcErr,if_pos h0]
  rw [plc_err he h0]
  refine QCall.of ?_
  refine fcalls (F:=Tryz.f9) c9 rfl rfl rfl mixed rfl fun X=>?_
  conv=>whnf
  repeat (refine QCall.k0 (hbe) ?_;conv=>whnf)
  refine cT (by simpa using h0) ?_
  conv=>whnf
  skip
  exact nil3
end Go.Abs.Wall.Lst
