/- What is proved: small laws for the walks of this seat, and contracts of its functions. No condition but those each theorem names. -/
import Derived.Test.YtmkmflcemegikaaGreatDoorN11
import Derived.Test.YtmkmflcemegikaaGreatDoorN18
import Derived.Test.YtmkmflcemegikaaGreatDoorN8
set_option maxRecDepth 100000
set_option maxHeartbeats 2000000
set_option linter.unusedVariables false
set_option linter.unusedSimpArgs false
namespace Go.Abs.Wall
open Go Go.Abs Go.Proofs
end Go.Abs.Wall
namespace Go.Abs.Wall
open Go Go.Abs Go.Proofs
def RunP (s:Sp) (p:Prg):List Use→Prg→Prop
 | [],q=>q=p
 | u::us,q=>∃ r,r∈nextM s p u∧RunP s r us q
theorem RunP.snoc {s:Sp}:∀ {us:List Use} {p q:Prg} {u:Use} {r:Prg},RunP s p us q→r∈nextM s q u→RunP s p (us++[u]) r
 | [],p,q,u,r,h,h2=>by
   have h:q=p:=h
   subst h
   exact ⟨r,h2,rfl⟩
 | v::us,p,q,u,r,h,h2=>by
   obtain ⟨z,h3,h4⟩:=h
   exact ⟨z,h3,RunP.snoc h4 h2⟩
def UsesIn (H:Hou):List Int→List Use→Prop
 | n::t,u::us=>u∈usesAt H n∧UsesIn H t us
 | [],[]=>True
 | _,_=>False
theorem useEqT {a b:Use}:useEq a b=true↔a=b:=by rw [useEq_iff,decide_eq_true_eq]
theorem any_useEq {u:Use} {l:List Use}:l.any (useEq u)=true↔u∈l:=by
 rw [List.any_eq_true]
 constructor
 ·rintro ⟨v,h1,h2⟩
  rw [useEqT.1 h2];exact h1
 ·intro h;exact ⟨u,h,useEqT.2 rfl⟩
theorem spGo_iff {H:Hou} {s:Sp} {cl:List Int}:∀ (line:List Int) (us:List Use) (st:List Prg),line.length=us.length →
  (spGo H s cl line us st=true↔UsesIn H line us∧∃ p∈st,∃ q,RunP s p us q∧endsM s q=true∧q.cl=cl)
 | [],[],st,_=>by
   unfold spGo UsesIn
   rw [List.any_eq_true]
   constructor
   ·rintro ⟨p,h1,h2⟩
    simp only [Bool.and_eq_true,decide_eq_true_eq] at h2
    exact ⟨trivial,p,h1,p,rfl,h2.1,h2.2⟩
   ·rintro ⟨_,p,h1,q,h2,h3,h4⟩
    have h2:q=p:=h2
    subst h2
    exact ⟨q,h1,by simp [h3,h4]⟩
 | n::t,u::us,st,hl=>by
   unfold spGo UsesIn
   rw [Bool.and_eq_true,any_useEq,spGo_iff t us _ (by simpa using hl)]
   constructor
   ·rintro ⟨h1,h2,p,h3,q,h4,h5⟩
    rw [List.mem_flatMap] at h3
    obtain ⟨p0,h6,h7⟩:=h3
    exact ⟨⟨h1,h2⟩,p0,h6,q,⟨p,h7,h4⟩,h5⟩
   ·rintro ⟨⟨h1,h2⟩,p0,h6,q,⟨p,h7,h4⟩,h5⟩
    exact ⟨h1,h2,p,List.mem_flatMap.2 ⟨p0,h6,h7⟩,q,h4,h5⟩
 | [],_::_,_,hl=>by simp at hl
 | _::_,[],_,hl=>by simp at hl
def InRows:List (List Use)→List Use→Prop
 | _,[]=>True
 | r::rest,u::us=>u∈r∧InRows rest us
 | [],_::_=>False
theorem wordsR_mem {E:Env} {x:Edg}:∀ (rest:List (List Use)) (p:Prg) (T:List Use),x∈wordsR E rest p T↔∃ us q,us≠[]∧InRows rest us∧RunP E.s p us q∧endsM E.s q=true∧x=mkEdge E q (T++us)
 | [],p,T=>by
   unfold wordsR
   constructor
   ·intro h;cases h
   ·rintro ⟨us,q,h1,h2,_⟩
    cases us with
    | nil=>exact absurd rfl h1
    | cons u us=>exact h2.elim
 | r::rest,p,T=>by
   unfold wordsR
   rw [List.mem_flatMap]
   constructor
   ·rintro ⟨u,hu,h⟩
    rw [List.mem_flatMap] at h
    obtain ⟨q,hq,h⟩:=h
    rcases List.mem_append.1 h with h|h
    ·unfold headW at h
     split at h
     ·rename_i hh
      simp only [Bool.and_eq_true] at hh
      rw [List.mem_singleton] at h
      exact ⟨[u],q,by simp,⟨hu,by cases rest<;>exact trivial⟩,⟨q,hq,rfl⟩,hh.2,h⟩
     ·cases h
    ·rw [wordsR_mem rest q (T++[u])] at h
     obtain ⟨us,q',h1,h2,h3,h4,h5⟩:=h
     exact ⟨u::us,q',by simp,⟨hu,h2⟩,⟨q,hq,h3⟩,h4,by rw [h5,List.append_assoc];rfl⟩
   ·rintro ⟨us,q',h1,h2,h3,h4,h5⟩
    cases us with
    | nil=>exact absurd rfl h1
    | cons u us=>
      obtain ⟨hu,h2⟩:=h2
      obtain ⟨q,hq,h3⟩:=h3
      refine ⟨u,hu,List.mem_flatMap.2 ⟨q,hq,List.mem_append.2 ?_⟩⟩
      by_cases hus:us=[]
      ·subst hus
       left
       have h3:q'=q:=h3
       subst h3
       unfold headW
       rw [if_pos (by simp [h4]),h5]
       exact List.mem_singleton.2 rfl
      ·right
       rw [wordsR_mem rest q (T++[u])]
       exact ⟨us,q',hus,h2,h3,h4,by rw [h5,List.append_assoc];rfl⟩
theorem inRows_uses {H:Hou}:∀ {l:List Int} {us:List Use},InRows (l.map (usesAt H)) us↔us.length≤l.length∧UsesIn H (l.take us.length) us
 | l,[]=>by simp [InRows,UsesIn]
 | [],u::us=>by simp [InRows]
 | n::l,u::us=>by
   rw [List.map_cons]
   unfold InRows
   rw [inRows_uses,List.length_cons,List.length_cons,List.take_succ_cons]
   rw [show UsesIn H (n::l.take us.length) (u::us)=(u∈usesAt H n∧UsesIn H (l.take us.length) us) from rfl]
   constructor
   ·rintro ⟨h1,h2,h3⟩;exact ⟨by omega,h1,h3⟩
   ·rintro ⟨h1,h2,h3⟩;exact ⟨h2,by omega,h3⟩
theorem cliOK_snoc {n:Nat}:∀ {l:List Int} {last c:Int},cliOK n l last=true→(match l.getLast? with|some z=>z|none=>last)<c→c<n→cliOK n (l++[c]) last=true
 | [],last,c,_,h1,h2=>by
   unfold cliOK cliOK
   simp at h1 ⊢
   omega
 | a::t,last,c,h,h1,h2=>by
   unfold cliOK at h
   rw [Bool.and_eq_true] at h
   rw [List.cons_append]
   unfold cliOK
   rw [Bool.and_eq_true]
   refine ⟨h.1,cliOK_snoc h.2 ?_ h2⟩
   cases t with
   | nil=>simpa using h1
   | cons b t=>
     rw [List.getLast?_cons_cons] at h1
     cases hz:(b::t).getLast? with
     | none=>simp at hz
     | some z=>rw [hz] at h1;exact h1
structure CliUp (H:Hou) (p:Prg):Prop where
 up:cliOK H.lex.clitics.length p.cl (-1)=true
 few:p.cl.length≤3
theorem spellGo_mem {p:Prg} {u:Use} {q:Prg}:∀ {l:List Cli} {c:Int},q∈spellGo p u l c→∃ j:Nat,j<l.length∧q.cl=p.cl++[c+j]
 | [],c,h=>by cases h
 | k::t,c,h=>by
   unfold spellGo at h
   rcases List.mem_append.1 h with h|h
   ·split at h
    ·rw [List.mem_singleton] at h
     subst h
     exact ⟨0,by simp,by simp⟩
    ·cases h
   ·obtain ⟨j,h1,h2⟩:=spellGo_mem h
    exact ⟨j+1,by simpa using h1,by rw [h2];congr 2;omega⟩
theorem firstC_eq (cl:List Int):firstC cl=(match cl.getLast? with|some z=>z|none=>-1)+1:=by
 unfold firstC
 cases cl.getLast?<;>rfl
theorem nextM_up {s:Sp} {p q:Prg} {u:Use} (hp:PrgOK s p) (h:CliUp s.H p) (hq:q∈nextM s p u):CliUp s.H q:=by
 have same:q.cl=p.cl→CliUp s.H q:=fun e=>⟨by rw [e];exact h.up,by rw [e];exact h.few⟩
 have hone:∀ {a:Prg},a.cl=p.cl→q∈[a]→CliUp s.H q:=fun e hm=>same (by rw [List.mem_singleton.1 hm];exact e)
 unfold nextM at hq
 split at hq
 ·unfold spellM at hq
  split at hq
  ·split at hq
   ·exact hone (by rfl) hq
   ·cases hq
  ·split at hq
   ·rename_i h3
    obtain ⟨j,hj,e⟩:=spellGo_mem hq
    have hf:=firstC_ok hp
    rw [List.length_drop] at hj
    refine ⟨?_,by rw [e,List.length_append,List.length_singleton];omega⟩
    rw [e]
    refine cliOK_snoc h.up ?_ ?_
    ·have:=firstC_eq p.cl
     omega
    ·omega
   ·cases hq
 split at hq
 ·split at hq
  ·cases hq
  ·exact hone (by rfl) hq
 split at hq
 ·split at hq
  ·cases hq
  ·exact hone (by rfl) hq
 split at hq
 ·split at hq
  ·cases hq
  ·exact hone (by rfl) hq
 ·cases hq
theorem runP_ok {s:Sp} (hs:SpOK s):∀ {us:List Use} {p q:Prg},(∀ u∈us,UseOK u)→PrgOK s p→CliUp s.H p→RunP s p us q→PrgOK s q∧CliUp s.H q
 | [],p,q,_,hp,hc,h=>by
   have h:q=p:=h
   subst h
   exact ⟨hp,hc⟩
 | u::us,p,q,hu,hp,hc,⟨r,h1,h2⟩=>runP_ok hs (fun v hv=>hu v (by simp [hv])) (nextM_ok hs hp (hu u (by simp)) r h1) (nextM_up hp hc h1) h2
theorem usesIn_ok {H:Hou} (hH:HouOK H):∀ {l:List Int} {us:List Use},(∀ s∈l,0≤s∧s<H.list.signs.length)→UsesIn H l us→∀ u∈us,UseOK u
 | [],[],_,_,u,hu=>by cases hu
 | [],_::_,_,h,_,_=>h.elim
 | _::_,[],_,h,_,_=>h.elim
 | n::l,v::us,hl,⟨h1,h2⟩,u,hu=>by
   rcases List.mem_cons.1 hu with rfl|hu
   ·have hs2:=hl n (by simp)
    have hok:=(lstOK hH.lst).each _ (List.mem_of_getElem? (sgnAt_get hs2.1 hs2.2))
    exact (usesM_ok (p:=H.period) hok).2 _ h1
   ·exact usesIn_ok hH (fun s hs=>hl s (by simp [hs])) h2 u hu
theorem prg0_up (H:Hou):CliUp H prg0:=⟨rfl,by simp [prg0]⟩
def edgOf (H:Hou) (i:Nat) (w:Wrd):Edg:=⟨i,(i:Int)+w.uses.length,priceM H w,w⟩
theorem edgsAt_iff {H:Hou} {line:List Int} (hL:LineOK H line) (hle:lexErr H.lex=0) {i:Nat} (hi:i≤line.length) {x:Edg} :
  x∈edgsAt H line i↔(frmErr H.lex x.word.form=0∧i+x.word.uses.length≤line.length∧spellsM H ((line.drop i).take x.word.uses.length) x.word=true)∧x=edgOf H i x.word:=by
 have hH:=hL.hou
 have hmem:∀ s∈(line.drop i).take 12,0≤s∧s<H.list.signs.length:=fun s hs=>hL.signs s (List.mem_of_mem_drop (List.mem_of_mem_take hs))
 have htk:∀ n,n≤12→((line.drop i).take 12).take n=(line.drop i).take n:=fun n hn=>by rw [List.take_take];congr 1;omega
 unfold edgsAt sortE
 rw [sortL_mem]
 unfold wordsAll
 rw [List.mem_flatMap]
 constructor
 ·rintro ⟨e,he,hx⟩
  unfold wordsEnt at hx
  rw [List.mem_flatMap] at hx
  obtain ⟨k,hk,hx⟩:=hx
  rw [List.mem_range] at he hk
  unfold wordsOf at hx
  split at hx
  ·cases hx
  rename_i hsk
  unfold wordsF at hx
  rw [headW_nil,List.nil_append,wordsR_mem] at hx
  obtain ⟨us,q,h1,h2,h3,h4,h5⟩:=hx
  rw [List.nil_append] at h5
  unfold allAt at h2
  rw [inRows_uses] at h2
  have hl12:((line.drop i).take 12).length≤12:=by rw [List.length_take];omega
  have hl2:((line.drop i).take 12).length≤line.length - i:=by rw [List.length_take,List.length_drop];omega
  have hup:1≤us.length:=List.length_pos_iff.2 h1
  have hsp:SpOK (envAt H i e ((k:Int) - 1)).s:=spAt hH (by omega) (by omega) (by omega)
  have huo:=usesIn_ok hH (fun s hs=>hmem s (List.mem_of_mem_take hs)) h2.2
  obtain ⟨hqo,hqc⟩:=runP_ok hsp huo (prg0_ok _) (prg0_up _) h3
  rw [htk _ (by omega)] at h2
  subst h5
  have hwu:(mkEdge (envAt H i e ((k:Int) - 1)) q us).word.uses=us:=rfl
  have hwf:(mkEdge (envAt H i e ((k:Int) - 1)) q us).word.form=⟨e,(k:Int) - 1,q.cl⟩:=rfl
  rw [hwu,hwf]
  refine ⟨⟨?_,by omega,?_⟩,rfl⟩
  ·unfold frmErr
   rw [if_neg (by rw [hle];simp),if_neg (by rw [Bool.not_eq_false,wthn_iff];show 0≤(e:Int)∧(e:Int)≤_;omega),if_neg,if_neg (by have:=hqc.few;show ¬ 3<q.cl.length;omega),if_pos (show cliOK H.lex.clitics.length (Frm.mk (e:Int) ((k:Int) - 1) q.cl).clitics (-1)=true from hqc.up)]
   unfold badEnd
   unfold skipE at hsk
   simp only [Bool.and_eq_true,Bool.or_eq_true,Bool.not_eq_true',decide_eq_true_eq,decide_eq_false_iff_not,not_and,Classical.not_not,not_or] at hsk ⊢
   intro hne
   refine ⟨?_,hsk (by omega)⟩
   rw [Bool.eq_false_iff,ne_eq,Bool.not_eq_true,Bool.not_eq_false]
   rw [wthn_iff]
   omega
  ·unfold spellsM
   rw [Bool.and_eq_true,Bool.and_eq_true,wthn_iff,decide_eq_true_eq]
   have hll:((line.drop i).take us.length).length=us.length:=by rw [List.length_take,List.length_drop];omega
   refine ⟨⟨⟨by omega,by omega⟩,by show _=us.length;exact hll⟩,?_⟩
   rw [spGo_iff _ _ _ (by show _=us.length;exact hll)]
   exact ⟨h2.2,prg0,by simp,q,h3,h4,rfl⟩
 ·rintro ⟨⟨h1,h2,h3⟩,h4⟩
  obtain ⟨w,hw⟩:∃ w,w=x.word:=⟨_,rfl⟩
  rw [← hw] at h1 h2 h3 h4
  subst h4
  have hf:=frmOK h1
  unfold spellsM at h3
  rw [Bool.and_eq_true,Bool.and_eq_true,wthn_iff,decide_eq_true_eq] at h3
  obtain ⟨⟨h5,h6⟩,h7⟩:=h3
  rw [spGo_iff _ _ _ h6] at h7
  obtain ⟨h8,p,hp,q,h9,h10,h11⟩:=h7
  rw [List.mem_singleton] at hp
  subst hp
  have he:=hf.entry
  have hn:-1≤w.form.ending∧w.form.ending<H.lex.endings.length:=by rcases hf.ending with h|h<;>omega
  refine ⟨w.form.entry.toNat,List.mem_range.2 (by omega),?_⟩
  unfold wordsEnt
  refine List.mem_flatMap.2 ⟨(w.form.ending+1).toNat,List.mem_range.2 (by omega),?_⟩
  have e1:((w.form.entry.toNat:Nat):Int)=w.form.entry:=by omega
  have e2:(((w.form.ending+1).toNat:Nat):Int) - 1=w.form.ending:=by omega
  unfold wordsOf
  rw [e1,e2]
  have hsk:skipE H.lex w.form.entry w.form.ending≠true:=by
   unfold skipE
   simp only [Bool.and_eq_true,Bool.not_eq_true',decide_eq_true_eq,decide_eq_false_iff_not,ne_eq,not_and,Classical.not_not]
   intro h0
   rcases hf.ending with h|h
   ·omega
   ·exact h.2.2
  rw [if_neg hsk]
  unfold wordsF
  rw [headW_nil,List.nil_append,wordsR_mem]
  refine ⟨w.uses,q,?_,?_,h9,h10,?_⟩
  ·intro h0
   rw [h6,h0] at h5
   simp at h5
  ·unfold allAt
   rw [inRows_uses]
   have hll:((line.drop i).take 12).length=min 12 (line.length - i):=by rw [List.length_take,List.length_drop]
   refine ⟨by omega,?_⟩
   rw [htk _ (by omega)]
   exact h8
  ·obtain ⟨⟨fe,fn,fc⟩,us⟩:=w
   simp only at h11
   rw [List.nil_append]
   unfold mkEdge edgOf envAt
   simp only
   rw [h11]
end Go.Abs.Wall
namespace Go.Abs.Wall.Lst
open Go Go.Abs Go.Proofs Go.Abs.Wall
end Go.Abs.Wall.Lst
namespace Go.Abs.Wall.Lst
open Go Go.Abs Go.Proofs Go.Abs.Wall
end Go.Abs.Wall.Lst
