/- What is proved: small laws for the walks of this seat, and contracts of its functions. No condition but those each theorem names. -/
import Derived.Test.YtbmcnieifibckaaGreatN26
import Derived.Test.YtbmcnieifibckaaGreatN25
set_option maxRecDepth 100000
set_option maxHeartbeats 2000000
set_option linter.unusedVariables false
set_option linter.unusedSimpArgs false
namespace Go.Abs.Wall.Spl
open Go Go.Abs Go.Proofs Go.Abs.Wall Go.Proofs.YtbmcnieifibckaaGreat.Br
theorem comS_get:∀ (l m:List Int) (k:Nat) (a b:Int),l[k]?=some a→m[k]?=some b→(comS l m)[k]?=some (if min a b<0 then -1 else max a b)
 | [],m,k,a,b,h,_=>by simp at h
 | x::l,[],k,a,b,_,h=>by simp at h
 | x::l,y::m,0,a,b,h1,h2=>by
   simp at h1 h2
   subst h1 h2
   rfl
 | x::l,y::m,k+1,a,b,h1,h2=>by
   rw [comS,List.getElem?_cons_succ]
   exact comS_get l m k a b (by simpa using h1) (by simpa using h2)
theorem comS_lenE:∀ {l m:List Int},l.length=m.length→(comS l m).length=l.length
 | [],_,_=>rfl
 | x::l,[],h=>by simp at h
 | x::l,y::m,h=>by
   rw [comS,List.length_cons,List.length_cons,comS_lenE (by simpa using h)]
theorem comS_mem:∀ {l m:List Int} {c:Int},c∈comS l m→c = -1∨∃ a∈l,∃ b∈m,0≤a∧0≤b∧c=max a b
 | [],m,c,h=>by cases h
 | x::l,[],c,h=>by cases h
 | x::l,y::m,c,h=>by
   rw [comS] at h
   rcases List.mem_cons.1 h with rfl|h
   ·split
    ·exact .inl rfl
    ·exact .inr ⟨x,by simp,y,by simp,by omega,by omega,rfl⟩
   ·rcases comS_mem h with h|⟨a,ha,b,hb,h⟩
    ·exact .inl h
    ·exact .inr ⟨a,by simp [ha],b,by simp [hb],h⟩
theorem bothP_in {a b:Int} (ha:0≤a∧a≤2) (hb:0≤b∧b≤2):0≤(bothP a b).1∧(bothP a b).1≤2:=by
 unfold bothP
 split
 ·exact ha
 split
 ·exact hb
 ·exact ⟨by decide,by decide⟩
theorem rightAll {H:Hou} {B:Hab}:rightM H B=true↔B.signs.length=H.list.signs.length∧(0≤B.rpt∧B.rpt≤2)∧(0≤B.cls∧B.cls≤2)∧∀ n∈B.signs,-1≤n∧n≤1000:=by
 unfold rightM
 simp only [Bool.and_eq_true,decide_eq_true_eq,wthn_iff,Bool.not_eq_true',List.any_eq_false]
 constructor
 ·rintro ⟨⟨⟨h1,h2⟩,h3⟩,h4⟩
  refine ⟨by omega,h2,h3,fun n hn=>?_⟩
  have:=h4 n hn
  unfold badN at this
  rw [Bool.not_eq_true',Bool.not_eq_false] at this
  exact wthn_iff.1 this
 ·rintro ⟨h1,h2,h3,h4⟩
  refine ⟨⟨⟨by omega,h2⟩,h3⟩,fun n hn=>?_⟩
  unfold badN
  rw [Bool.not_eq_true',Bool.not_eq_false]
  exact wthn_iff.2 (h4 n hn)
theorem comM_right {H:Hou} {A B:Hab} (hA:rightM H A=true) (hB:rightM H B=true):rightM H (comM A B)=true:=by
 obtain ⟨a1,a2,a3,a4⟩:=rightAll.1 hA
 obtain ⟨b1,b2,b3,b4⟩:=rightAll.1 hB
 refine rightAll.2 ⟨?_,bothP_in a2 b2,bothP_in a3 b3,fun c hc=>?_⟩
 ·show (comS A.signs B.signs).length=_
  rw [comS_lenE (by omega)];exact a1
 ·rcases comS_mem hc with rfl|⟨a,ha,b,hb,_,_,rfl⟩
  ·omega
  ·have:=a4 a ha
   have:=b4 b hb
   omega
def rptK (r:Int) (us:List Use):Bool:=!(decide (r=0)&&hasK 3 us)&&!(decide (r=2)&&!decide (canU us=areU us))
def clsK (c:Int) (z:Bool) (us:List Use):Bool:=!(decide (c=0)&&hasK 4 us)&&!((decide (c=2)&&!z)&&!hasK 4 us)
theorem keepsM_eq (H:Hou) (B:Hab) (line:List Int) (w:Wrd):keepsM H B line w=((!line.any (negS B)&&rptK B.rpt w.uses)&&clsK B.cls (decide ((entAt H.lex w.form.entry).cls=[])) w.uses):=by
 unfold keepsM rptK clsK
 simp only [Bool.and_assoc]
theorem rptK_both {a b:Int} {us:List Use} (h:(bothP a b).2=true):rptK (bothP a b).1 us=(rptK a us&&rptK b us):=by
 unfold bothP at h ⊢
 have h1:∀ us,rptK 1 us=true:=fun us=>by unfold rptK;rfl
 split at h
 ·rename_i h0
  rw [if_pos h0]
  rw [Bool.or_eq_true,decide_eq_true_eq,decide_eq_true_eq] at h0
  rcases h0 with rfl|rfl
  ·rw [Bool.and_self]
  ·rw [h1,Bool.and_true]
 ·rename_i h0
  rw [if_neg h0]
  split at h
  ·rename_i h2
   subst h2
   rw [if_pos rfl,h1,Bool.true_and]
  ·cases h
theorem clsK_both {a b:Int} {z:Bool} {us:List Use} (h:(bothP a b).2=true):clsK (bothP a b).1 z us=(clsK a z us&&clsK b z us):=by
 unfold bothP at h ⊢
 have h1:∀ z us,clsK 1 z us=true:=fun z us=>by unfold clsK;rfl
 split at h
 ·rename_i h0
  rw [if_pos h0]
  rw [Bool.or_eq_true,decide_eq_true_eq,decide_eq_true_eq] at h0
  rcases h0 with rfl|rfl
  ·rw [Bool.and_self]
  ·rw [h1,Bool.and_true]
 ·rename_i h0
  rw [if_neg h0]
  split at h
  ·rename_i h2
   subst h2
   rw [if_pos rfl,h1,Bool.true_and]
  ·cases h
theorem neg_com {A B:Hab} {s:Int} (ha:0≤s∧s<A.signs.length) (hb:0≤s∧s<B.signs.length):negS (comM A B) s=(negS A s||negS B s)∧(negS A s=false→negS B s=false→A.signs.getD s.toNat 0≤(comM A B).signs.getD s.toNat 0∧B.signs.getD s.toNat 0≤(comM A B).signs.getD s.toNat 0):=by
 have g1:=signs_get ha
 have g2:=signs_get hb
 have g3:(comM A B).signs[s.toNat]?=_:=comS_get _ _ _ _ _ g1 g2
 have g4:(comM A B).signs.getD s.toNat 0=_:=getD_of g3
 unfold negS
 rw [g4]
 generalize A.signs.getD s.toNat 0=a
 generalize B.signs.getD s.toNat 0=b
 by_cases hm:min a b<0
 ·rw [if_pos hm]
  refine ⟨?_,fun h1 h2=>?_⟩
  ·rw [decide_eq_true (by decide)]
   symm
   rw [Bool.or_eq_true,decide_eq_true_eq,decide_eq_true_eq]
   omega
  ·rw [decide_eq_false_iff_not] at h1 h2
   omega
 ·rw [if_neg hm]
  refine ⟨?_,fun h1 h2=>by omega⟩
  rw [decide_eq_false (by omega)]
  symm
  rw [Bool.or_eq_false_iff,decide_eq_false_iff_not,decide_eq_false_iff_not]
  omega
theorem any_com {A B:Hab}:∀ {l:List Int},(∀ s∈l,0≤s∧s<A.signs.length)→(∀ s∈l,0≤s∧s<B.signs.length)→l.any (negS (comM A B))=(l.any (negS A)||l.any (negS B))∧(l.any (negS A)=false→l.any (negS B)=false→sumS A l≤sumS (comM A B) l∧sumS B l≤sumS (comM A B) l)
 | [],_,_=>⟨rfl,fun _ _=>⟨Int.le_refl _,Int.le_refl _⟩⟩
 | s::l,ha,hb=>by
   obtain ⟨h1,h2⟩:=any_com (A:=A) (B:=B) (l:=l) (fun t ht=>ha t (by simp [ht])) (fun t ht=>hb t (by simp [ht]))
   obtain ⟨h3,h4⟩:=neg_com (ha s (by simp)) (hb s (by simp))
   refine ⟨?_,fun h5 h6=>?_⟩
   ·rw [List.any_cons,List.any_cons,List.any_cons,h1,h3]
    cases negS A s<;>cases negS B s<;>cases l.any (negS A)<;>rfl
   ·rw [List.any_cons,Bool.or_eq_false_iff] at h5 h6
    have:=h2 h5.2 h6.2
    have:=h4 h5.1 h6.1
    rw [sumS,sumS,sumS]
    omega
theorem keeps_com {H:Hou} {A B:Hab} {line:List Int} {w:Wrd} (h1:(bothP A.rpt B.rpt).2=true) (h2:(bothP A.cls B.cls).2=true) (ha:∀ s∈line,0≤s∧s<A.signs.length) (hb:∀ s∈line,0≤s∧s<B.signs.length) :
  keepsM H (comM A B) line w=(keepsM H A line w&&keepsM H B line w)∧(keepsM H (comM A B) line w=true→sumS A line≤sumS (comM A B) line∧sumS B line≤sumS (comM A B) line):=by
 obtain ⟨h3,h4⟩:=any_com ha hb
 have e:keepsM H (comM A B) line w=(keepsM H A line w&&keepsM H B line w):=by
  rw [keepsM_eq,keepsM_eq,keepsM_eq,h3,show (comM A B).rpt=(bothP A.rpt B.rpt).1 from rfl,show (comM A B).cls=(bothP A.cls B.cls).1 from rfl,rptK_both h1,clsK_both h2]
  generalize line.any (negS A)=a1
  generalize line.any (negS B)=a2
  generalize rptK A.rpt w.uses=a3
  generalize rptK B.rpt w.uses=a4
  generalize clsK A.cls _ w.uses=a5
  generalize clsK B.cls _ w.uses=a6
  revert a1 a2 a3 a4 a5 a6
  decide
 refine ⟨e,fun h=>?_⟩
 rw [e,keepsM_eq,keepsM_eq] at h
 simp only [Bool.and_eq_true,Bool.not_eq_true'] at h
 exact h4 h.1.1.1 h.2.1.1
def looS:List Int→List Int
 | []=>[]
 | a::l=>max 0 a::looS l
def looM (A:Hab):Hab:=⟨looS A.signs,1,1⟩
theorem looS_len:∀ l:List Int,(looS l).length=l.length
 | []=>rfl
 | a::l=>by rw [looS,List.length_cons,List.length_cons,looS_len l]
theorem looS_get:∀ (l:List Int) (k:Nat) (a:Int),l[k]?=some a→(looS l)[k]?=some (max 0 a)
 | [],k,a,h=>by simp at h
 | x::l,0,a,h=>by simp at h;subst h;rfl
 | x::l,k+1,a,h=>by
   rw [looS,List.getElem?_cons_succ]
   exact looS_get l k a (by simpa using h)
theorem looS_mem:∀ {l:List Int} {c:Int},c∈looS l→∃ a∈l,c=max 0 a
 | [],c,h=>by cases h
 | x::l,c,h=>by
   rw [looS] at h
   rcases List.mem_cons.1 h with rfl|h
   ·exact ⟨x,by simp,rfl⟩
   ·obtain ⟨a,ha,h⟩:=looS_mem h
    exact ⟨a,by simp [ha],h⟩
theorem looS_snoc:∀ (i:Nat) (l:List Int) (a:Int),l[i]?=some a→looS (l.take (i+1))=looS (l.take i)++[max 0 a]
 | _,[],a,h=>by simp at h
 | 0,x::l,a,h=>by simp at h;subst h;rfl
 | i+1,x::l,a,h=>by
   have:=looS_snoc i l a (by simpa using h)
   rw [List.take_succ_cons,looS,this,List.take_succ_cons,looS]
   rfl
theorem looM_right {H:Hou} {A:Hab} (hA:rightM H A=true):rightM H (looM A)=true:=by
 obtain ⟨a1,a2,a3,a4⟩:=rightAll.1 hA
 refine rightAll.2 ⟨by show (looS A.signs).length=_;rw [looS_len];exact a1,⟨(by show (0:Int)≤1;decide),(by show (1:Int)≤2;decide)⟩,⟨(by show (0:Int)≤1;decide),(by show (1:Int)≤2;decide)⟩,fun c hc=>?_⟩
 obtain ⟨a,ha,rfl⟩:=looS_mem hc
 have:=a4 a ha
 omega
theorem any_loo {A:Hab}:∀ {l:List Int},(∀ s∈l,0≤s∧s<A.signs.length)→l.any (negS (looM A))=false∧(l.any (negS A)=false→sumS (looM A) l=sumS A l)
 | [],_=>⟨rfl,fun _=>rfl⟩
 | s::l,ha=>by
   obtain ⟨h1,h2⟩:=any_loo (A:=A) (l:=l) (fun t ht=>ha t (by simp [ht]))
   have g1:=signs_get (ha s (by simp))
   have g2:(looM A).signs[s.toNat]?=_:=looS_get _ _ _ g1
   have g3:(looM A).signs.getD s.toNat 0=_:=getD_of g2
   refine ⟨?_,fun h5=>?_⟩
   ·rw [List.any_cons,h1,Bool.or_false]
    unfold negS
    rw [g3]
    exact decide_eq_false (by omega)
   ·rw [List.any_cons,Bool.or_eq_false_iff] at h5
    have h6:=h5.1
    unfold negS at h6
    rw [decide_eq_false_iff_not] at h6
    rw [sumS,sumS,h2 h5.2,g3]
    omega
theorem keeps_loo {H:Hou} {A:Hab} {line:List Int} {w:Wrd} (ha:∀ s∈line,0≤s∧s<A.signs.length) (h:keepsM H A line w=true):keepsM H (looM A) line w=true∧sumS (looM A) line=sumS A line:=by
 obtain ⟨h1,h2⟩:=any_loo ha
 rw [keepsM_eq] at h
 simp only [Bool.and_eq_true,Bool.not_eq_true'] at h
 refine ⟨?_,h2 h.1.1⟩
 rw [keepsM_eq,h1]
 rfl
end Go.Abs.Wall.Spl
namespace Go.Abs.Wall.Spl
open Go Go.Abs Go.Proofs Go.Abs.Wall Go.Proofs.YtbmcnieifibckaaGreat.Br
structure Two where
 A:Hab
 B:Hab
def encTwo (t:Two):List AV:=encHab t.A++encHab t.B
theorem argTwo {x:AV} (h:ArgSh Tryz.prog B20 78 x):∃ t:Two,x=.agg (encTwo t)∧HabFit t.A∧HabFit t.B:=by
 obtain ⟨xs,h,hx⟩:=h
 have hx:x=.agg xs:=hx
 subst hx
 obtain ⟨ps,rfl,hp⟩:=sh_struct h rfl
 obtain ⟨x,y,rfl,h1,h2⟩:=sh2 hp
 obtain ⟨A,rfl,hA,_⟩:=shHab h1
 obtain ⟨B,rfl,hB,_⟩:=shHab h2
 exact ⟨⟨A,B⟩,by unfold encTwo;simp,hA,hB⟩
theorem sprE_hab {H:Hou} {B:Hab} {line:List Int} {w:Wrd} (h:habErr H B=0):sprE H B line w=if priceE H line w≠0 then priceE H line w else if keepsM H B line w=true then 0 else 61:=by
 unfold sprE
 rw [if_neg (by omega)]
theorem habErr_right {H:Hou} {B:Hab} (h0:houErr H=0) (h:rightM H B=true):habErr H B=0:=by
 unfold habErr
 rw [if_neg (by omega),if_pos h]
theorem both_com {H:Hou} {A B:Hab} (hA0:habErr H A=0) (hB0:habErr H B=0) (hc:comE H A B=0) (line:List Int) (w:Wrd) :
  decide (sprE H (comM A B) line w=0)=(decide (sprE H A line w=0)&&decide (sprE H B line w=0))∧(sprE H (comM A B) line w=0→sprL H A line w≤sprL H (comM A B) line w∧sprL H B line w≤sprL H (comM A B) line w):=by
 obtain ⟨hok,hrA⟩:=habOK hA0
 obtain ⟨_,hrB⟩:=habOK hB0
 obtain ⟨a1,_⟩:=rightSg hrA
 obtain ⟨b1,_⟩:=rightSg hrB
 have eA:=sprE_hab (line:=line) (w:=w) hA0
 have eB:=sprE_hab (line:=line) (w:=w) hB0
 have eC:=sprE_hab (line:=line) (w:=w) (habErr_right hok (comM_right hrA hrB))
 by_cases hp:priceE H line w=0
 rotate_left
 ·rw [if_pos hp] at eA eB eC
  rw [eA,eB,eC,decide_eq_false hp]
  exact ⟨rfl,fun h=>absurd h hp⟩
 rw [if_neg (by omega)] at eA eB eC
 unfold comE at hc
 rw [if_neg (by omega),if_neg (by rw [hrB];decide)] at hc
 split at hc
 ·cases hc
 rename_i hb
 rw [Bool.not_eq_true,Bool.or_eq_false_iff,Bool.not_eq_false',Bool.not_eq_false'] at hb
 obtain ⟨hle,_,_⟩:=price_line hp
 have hin:=line_in hle
 obtain ⟨k1,k2⟩:=keeps_com (H:=H) (w:=w) hb.1 hb.2 (line:=line) (by rw [a1];exact hin) (by rw [b1];exact hin)
 have dec:∀ b:Bool,decide ((if b=true then (0:Int) else 61)=0)=b:=fun b=>by cases b<;>rfl
 refine ⟨?_,fun h=>?_⟩
 ·rw [eA,eB,eC,dec,dec,dec,k1]
 ·have hkc:keepsM H (comM A B) line w=true:=by
   rw [eC] at h
   cases hq:keepsM H (comM A B) line w with
   | true=>rfl
   | false=>rw [hq] at h;cases h
  have k3:=k2 hkc
  rw [k1,Bool.and_eq_true] at hkc
  rw [if_pos hkc.1] at eA
  rw [if_pos hkc.2] at eB
  unfold sprL
  rw [if_pos eA,if_pos eB,if_pos h]
  omega
theorem both_loo {H:Hou} {A:Hab} (hA0:habErr H A=0) (line:List Int) (w:Wrd) (h:sprE H A line w=0):sprE H (looM A) line w=0∧sprL H (looM A) line w=sprL H A line w:=by
 obtain ⟨hok,hrA⟩:=habOK hA0
 obtain ⟨a1,_⟩:=rightSg hrA
 have eA:=sprE_hab (line:=line) (w:=w) hA0
 have eL:=sprE_hab (line:=line) (w:=w) (habErr_right hok (looM_right hrA))
 by_cases hp:priceE H line w=0
 rotate_left
 ·rw [if_pos hp,h] at eA
  exact absurd eA.symm hp
 rw [if_neg (by omega)] at eA eL
 obtain ⟨hle,_,_⟩:=price_line hp
 have hk:keepsM H A line w=true:=by
  rw [h] at eA
  cases hq:keepsM H A line w with
  | true=>rfl
  | false=>rw [hq] at eA;cases eA
 obtain ⟨k1,k2⟩:=keeps_loo (by rw [a1];exact line_in hle) hk
 rw [if_pos k1] at eL
 refine ⟨eL,?_⟩
 unfold sprL
 rw [if_pos eL,if_pos h,k2]
def c10:Cfg:=⟨[0,1,2,3,4,5,6,7,8,9,10,11,12,13,14,15,16,17,18,37,71,104,111],[],[11],[],[(14,[0,1,2,3,4,5,6,7,8,9,10,11,12],[])],[]⟩
theorem spellBothL (H:Hou) (t:Two) (w:Wtn) (hf:HouFit H) (hA:HabFit t.A) (hB:HabFit t.B) (hl:w.line.length≤1048576) (hw:WrdFit w.word):QCall Tryz.prog 10 [.agg (encHou H),.agg (encTwo t),.agg (encWtn w)] [] (.bool true):=by
 obtain ⟨A,B⟩:=t
 refine QCall.of ?_
 refine fcalls (F:=Tryz.f10) c10 rfl rfl rfl mixed rfl fun X=>?_
 conv=>whnf
 repeat ((first|refine gcall (r7CheckHab H A hf hA) ?_|refine gcall (r7CheckHab H B hf hB) ?_);conv=>whnf)
 refine ⟨fun h0=>?_,fun h0=>?_⟩
 ·conv=>whnf
  repeat (refine QCall.k0 (spWorks) ?_;conv=>whnf)
  exact VLe.refl _
 have h0:((decide (1000<((w.word.uses.map encUse).length:Int))||!decide (habErr H A=0))||!decide (habErr H B=0))=false:=h0
 simp only [Bool.or_eq_false_iff,Bool.not_eq_false',decide_eq_true_eq,decide_eq_false_iff_not] at h0
 obtain ⟨⟨_,hA0⟩,hB0⟩:=h0
 have hpA:=spPrice H A w.line w.word hf hA hl hw
 have hpB:=spPrice H B w.line w.word hf hB hl hw
 have hco:=spCommon H A B hf hA hB
 have hlo:HabFit (looM A):=⟨by show (looS A.signs).length≤_;rw [looS_len];exact hA.signs⟩
 have hpL:=spPrice H (looM A) w.line w.word hf hlo hl hw
 conv=>whnf
 repeat ((first|refine QCall.k0 (hpA) ?_|refine QCall.k0 (hpB) ?_|refine QCall.k0 (hco) ?_|refine ⟨_,_,Rem.here _,⟨Nat.le_of_ble_eq_true rfl,rfl⟩,?_⟩|intro (nb:Nat));conv=>whnf)
 refine ⟨fun h1=>?_,fun h1=>?_⟩
 ·have h1:=of_decide_eq_true h1
  have hcv:comV H A B=comM A B:=by unfold comV;rw [if_pos h1]
  have hcl:=comV_len H A B hA
  have hpC:=spPrice H (comV H A B) w.line w.word hf ⟨hcl⟩ hl hw
  obtain ⟨g1,g2⟩:=both_com hA0 hB0 h1 w.line w.word
  rw [hcv] at hpC
  rw [hcv]
  conv=>whnf
  repeat (refine QCall.k0 (hpC) ?_;conv=>whnf)
  refine cF ?_ ?_
  ·have hq:∀ (k e f z1 z2:Bool),k=(e&&f)→(k=true→z1=false∧z2=false)→((!decide (k=(e&&f)))||(k&&(z1||z2)))=false:=by decide
   refine hq _ _ _ _ _ g1 fun hk=>?_
   have:=g2 (of_decide_eq_true hk)
   exact ⟨decide_eq_false (by omega),decide_eq_false (by omega)⟩
  conv=>whnf
  repeat ((first|(intro (lb:Nat))|refine ⟨_,_,.here _,leOK,?_⟩);conv=>whnf)
  refine tloop rfl mixed [3,4,5,7,8,15,16] [] (fun m r h=>∃ (i:Nat) (sv:AV) (sh:Heap) (lb:Nat),r=[(3,[],.iptr (encHou H)),(4,[],.iptr (encTwo ⟨A,B⟩)),(5,[],.iptr (encWtn w)),(7,[],.int .i64 (sprL H A w.line w.word)),(8,[],.int .i64 (sprE H A w.line w.word)),(15,[],.optr lb 0),(16,[],.int .i64 i)]∧h=(lb,.vec [sv,.int .i64 1,.int .i64 1])::sh∧m=A.signs.length - i∧i≤A.signs.length∧Out 1 (fun n=>[AV.int .i64 n]) (looS (A.signs.take i)) sv sh) ?_ ?_
  ·conv=>whnf
   exact ⟨_,_,Turn.refl _ _,_,0,.nilS,[],_,rfl,rfl,rfl,by omega,.inl ⟨by simp [looS],rfl,rfl⟩⟩
  ·rintro m r h' ⟨i,sv,sh,lb,rfl,rfl,rfl,hi,ho⟩
   conv=>whnf
   refine ⟨fun hz=>?_,fun hz=>?_⟩<;>simp [ints_length] at hz
   ·obtain ⟨a,ha1⟩:=get_lt hz
    have hsn:=looS_snoc i A.signs a ha1
    have hcl:=looS_len (A.signs.take i)
    rw [List.length_take] at hcl
    have hsg:A.signs.length≤1048576:=hA.signs
    rcases ho with ⟨hn,rfl,rfl⟩|⟨q,rfl,rfl⟩
    ·conv=>whnf
     repeat ((first|refine ⟨gP_of ⟨by omega,by omega⟩,?_⟩|refine ix (by assumption) ?_|(refine ⟨Nat.le_of_ble_eq_true rfl,fun q'=>?_⟩)|(refine ⟨_,_,.there (.here _),leOK,?_⟩)|refine ⟨_,_,.head _,rfl,?_⟩|refine And.intro (by show drawOK (opsAt Tryz.f10 _) _=true;decide +kernel) ?_);conv=>whnf)
     exact ⟨_,_,Turn.perm (List.Perm.swap _ _ _),_,(by omega),i+1,_,[(q',.tok)],lb,rfl,rfl,rfl,by omega,.inr ⟨q',by rw [hsn,hn];rfl,rfl⟩⟩
    ·conv=>whnf
     repeat ((first|refine ⟨gP_of ⟨by omega,by omega⟩,?_⟩|refine ix (by assumption) ?_|(refine ⟨(by rw [List.length_append,List.length_map,List.length_singleton];unfold AMAX;omega),fun q'=>⟨_,.there (.here _),?_⟩⟩)|(refine ⟨_,_,.here _,leOK,?_⟩)|refine ⟨_,_,.head _,rfl,?_⟩|refine And.intro (by show drawOK (opsAt Tryz.f10 _) _=true;decide +kernel) ?_);conv=>whnf)
     exact ⟨_,_,Turn.refl _ _,_,(by omega),i+1,_,[(q',.tok)],lb,rfl,rfl,rfl,by omega,.inr ⟨q',by rw [hsn,List.map_append];rfl,rfl⟩⟩
   ·have hie:i=A.signs.length:=by omega
    subst hie
    rw [List.take_length] at ho
    have hpL2:QCall Tryz.prog 35 [.agg (encHou H),.agg [sv,.int .i64 1,.int .i64 1],.sl 1 none (ints w.line),.agg (encWrd w.word)] [] (.tup [.int .i64 (sprL H (looM A) w.line w.word),.int .i64 (sprE H (looM A) w.line w.word)]):=
     QCall.args hpL (.cons (VLe.refl _) (.cons (VLe.agg (.cons (ho.le (by decide)) (.cons (VLe.refl _) (.cons (VLe.refl _) .nil)))) (.cons (VLe.refl _) (.cons (VLe.refl _) .nil))))
    conv=>whnf
    repeat ((first|(refine ⟨_,_,.head _,rfl,?_⟩)|refine QCall.k0 (hpL2) ?_|refine gcall (spWorks) ?_);conv=>whnf)
    refine (show VLe (.bool _) (.bool true) from ?_)
    have hf2:∀ (a b c:Bool),(a=false→b=true∧c=true)→((a||(b&&c))&&true)=true:=by decide
    rw [hf2 _ _ _ fun q=>by
     rw [Bool.not_eq_false',decide_eq_true_eq] at q
     obtain ⟨g1,g2⟩:=both_loo hA0 w.line w.word q
     exact ⟨decide_eq_true g1,decide_eq_true g2⟩]
    exact VLe.refl _
 ·conv=>whnf
  repeat ((first|(intro (lb:Nat))|refine ⟨_,_,.here _,leOK,?_⟩);conv=>whnf)
  refine tloop rfl mixed [3,4,5,7,8,15,16] [] (fun m r h=>∃ (i:Nat) (sv:AV) (sh:Heap) (lb:Nat),r=[(3,[],.iptr (encHou H)),(4,[],.iptr (encTwo ⟨A,B⟩)),(5,[],.iptr (encWtn w)),(7,[],.int .i64 (sprL H A w.line w.word)),(8,[],.int .i64 (sprE H A w.line w.word)),(15,[],.optr lb 0),(16,[],.int .i64 i)]∧h=(lb,.vec [sv,.int .i64 1,.int .i64 1])::sh∧m=A.signs.length - i∧i≤A.signs.length∧Out 1 (fun n=>[AV.int .i64 n]) (looS (A.signs.take i)) sv sh) ?_ ?_
  ·conv=>whnf
   exact ⟨_,_,Turn.refl _ _,_,0,.nilS,[],_,rfl,rfl,rfl,by omega,.inl ⟨by simp [looS],rfl,rfl⟩⟩
  ·rintro m r h' ⟨i,sv,sh,lb,rfl,rfl,rfl,hi,ho⟩
   conv=>whnf
   refine ⟨fun hz=>?_,fun hz=>?_⟩<;>simp [ints_length] at hz
   ·obtain ⟨a,ha1⟩:=get_lt hz
    have hsn:=looS_snoc i A.signs a ha1
    have hcl:=looS_len (A.signs.take i)
    rw [List.length_take] at hcl
    have hsg:A.signs.length≤1048576:=hA.signs
    rcases ho with ⟨hn,rfl,rfl⟩|⟨q,rfl,rfl⟩
    ·conv=>whnf
     repeat ((first|refine ⟨gP_of ⟨by omega,by omega⟩,?_⟩|refine ix (by assumption) ?_|(refine ⟨Nat.le_of_ble_eq_true rfl,fun q'=>?_⟩)|(refine ⟨_,_,.there (.here _),leOK,?_⟩)|refine ⟨_,_,.head _,rfl,?_⟩|refine And.intro (by show drawOK (opsAt Tryz.f10 _) _=true;decide +kernel) ?_);conv=>whnf)
     exact ⟨_,_,Turn.perm (List.Perm.swap _ _ _),_,(by omega),i+1,_,[(q',.tok)],lb,rfl,rfl,rfl,by omega,.inr ⟨q',by rw [hsn,hn];rfl,rfl⟩⟩
    ·conv=>whnf
     repeat ((first|refine ⟨gP_of ⟨by omega,by omega⟩,?_⟩|refine ix (by assumption) ?_|(refine ⟨(by rw [List.length_append,List.length_map,List.length_singleton];unfold AMAX;omega),fun q'=>⟨_,.there (.here _),?_⟩⟩)|(refine ⟨_,_,.here _,leOK,?_⟩)|refine ⟨_,_,.head _,rfl,?_⟩|refine And.intro (by show drawOK (opsAt Tryz.f10 _) _=true;decide +kernel) ?_);conv=>whnf)
     exact ⟨_,_,Turn.refl _ _,_,(by omega),i+1,_,[(q',.tok)],lb,rfl,rfl,rfl,by omega,.inr ⟨q',by rw [hsn,List.map_append];rfl,rfl⟩⟩
   ·have hie:i=A.signs.length:=by omega
    subst hie
    rw [List.take_length] at ho
    have hpL2:QCall Tryz.prog 35 [.agg (encHou H),.agg [sv,.int .i64 1,.int .i64 1],.sl 1 none (ints w.line),.agg (encWrd w.word)] [] (.tup [.int .i64 (sprL H (looM A) w.line w.word),.int .i64 (sprE H (looM A) w.line w.word)]):=
     QCall.args hpL (.cons (VLe.refl _) (.cons (VLe.agg (.cons (ho.le (by decide)) (.cons (VLe.refl _) (.cons (VLe.refl _) .nil)))) (.cons (VLe.refl _) (.cons (VLe.refl _) .nil))))
    conv=>whnf
    repeat ((first|(refine ⟨_,_,.head _,rfl,?_⟩)|refine QCall.k0 (hpL2) ?_|refine gcall (spWorks) ?_);conv=>whnf)
    refine (show VLe (.bool _) (.bool true) from ?_)
    have hf2:∀ (a b c:Bool),(a=false→b=true∧c=true)→((a||(b&&c))&&true)=true:=by decide
    rw [hf2 _ _ _ fun q=>by
     rw [Bool.not_eq_false',decide_eq_true_eq] at q
     obtain ⟨g1,g2⟩:=both_loo hA0 w.line w.word q
     exact ⟨decide_eq_true g1,decide_eq_true g2⟩]
    exact VLe.refl _
end Go.Abs.Wall.Spl
