/- What is proved: small laws for the walks of this seat, and contracts of its functions. No condition but those each theorem names. -/
import Derived.Test.YtmkmflcemegikaaGreatN11
import Derived.Test.YtmkmflcemegikaaGreatN18
import Derived.Test.YtmkmflcemegikaaGreatN8
set_option maxRecDepth 100000
set_option maxHeartbeats 2000000
set_option linter.unusedVariables false
set_option linter.unusedSimpArgs false
namespace Go.Abs.Wall
open Go Go.Abs Go.Proofs
end Go.Abs.Wall
namespace Go.Abs.Wall
open Go Go.Abs Go.Proofs
def RunP (s:Sp) (p:Prg):List Use→Prg→Prop
 | [],q=>q=p
 | u::us,q=>∃ r,r∈nextM s p u∧RunP s r us q
theorem RunP.snoc {s:Sp}:∀ {us:List Use} {p q:Prg} {u:Use} {r:Prg},RunP s p us q→r∈nextM s q u→RunP s p (us++[u]) r
 | [],p,q,u,r,h,h2=>by
   have h:q=p:=h
   subst h
   exact ⟨r,h2,rfl⟩
 | v::us,p,q,u,r,h,h2=>by
   obtain ⟨z,h3,h4⟩:=h
   exact ⟨z,h3,RunP.snoc h4 h2⟩
def UsesIn (H:Hou):List Int→List Use→Prop
 | n::t,u::us=>u∈usesAt H n∧UsesIn H t us
 | [],[]=>True
 | _,_=>False
theorem useEqT {a b:Use}:useEq a b=true↔a=b:=by rw [useEq_iff,decide_eq_true_eq]
theorem any_useEq {u:Use} {l:List Use}:l.any (useEq u)=true↔u∈l:=by
 rw [List.any_eq_true]
 constructor
 ·rintro ⟨v,h1,h2⟩
  rw [useEqT.1 h2];exact h1
 ·intro h;exact ⟨u,h,useEqT.2 rfl⟩
theorem spGo_iff {H:Hou} {s:Sp} {cl:List Int}:∀ (line:List Int) (us:List Use) (st:List Prg),line.length=us.length →
  (spGo H s cl line us st=true↔UsesIn H line us∧∃ p∈st,∃ q,RunP s p us q∧endsM s q=true∧q.cl=cl)
 | [],[],st,_=>by
   unfold spGo UsesIn
   rw [List.any_eq_true]
   constructor
   ·rintro ⟨p,h1,h2⟩
    simp only [Bool.and_eq_true,decide_eq_true_eq] at h2
    exact ⟨trivial,p,h1,p,rfl,h2.1,h2.2⟩
   ·rintro ⟨_,p,h1,q,h2,h3,h4⟩
    have h2:q=p:=h2
    subst h2
    exact ⟨q,h1,by simp [h3,h4]⟩
 | n::t,u::us,st,hl=>by
   unfold spGo UsesIn
   rw [Bool.and_eq_true,any_useEq,spGo_iff t us _ (by simpa using hl)]
   constructor
   ·rintro ⟨h1,h2,p,h3,q,h4,h5⟩
    rw [List.mem_flatMap] at h3
    obtain ⟨p0,h6,h7⟩:=h3
    exact ⟨⟨h1,h2⟩,p0,h6,q,⟨p,h7,h4⟩,h5⟩
   ·rintro ⟨⟨h1,h2⟩,p0,h6,q,⟨p,h7,h4⟩,h5⟩
    exact ⟨h1,h2,p,List.mem_flatMap.2 ⟨p0,h6,h7⟩,q,h4,h5⟩
 | [],_::_,_,hl=>by simp at hl
 | _::_,[],_,hl=>by simp at hl
def InRows:List (List Use)→List Use→Prop
 | _,[]=>True
 | r::rest,u::us=>u∈r∧InRows rest us
 | [],_::_=>False
theorem wordsR_mem {E:Env} {x:Edg}:∀ (rest:List (List Use)) (p:Prg) (T:List Use),x∈wordsR E rest p T↔∃ us q,us≠[]∧InRows rest us∧RunP E.s p us q∧endsM E.s q=true∧x=mkEdge E q (T++us)
 | [],p,T=>by
   unfold wordsR
   constructor
   ·intro h;cases h
   ·rintro ⟨us,q,h1,h2,_⟩
    cases us with
    | nil=>exact absurd rfl h1
    | cons u us=>exact h2.elim
 | r::rest,p,T=>by
   unfold wordsR
   rw [List.mem_flatMap]
   constructor
   ·rintro ⟨u,hu,h⟩
    rw [List.mem_flatMap] at h
    obtain ⟨q,hq,h⟩:=h
    rcases List.mem_append.1 h with h|h
    ·unfold headW at h
     split at h
     ·rename_i hh
      simp only [Bool.and_eq_true] at hh
      rw [List.mem_singleton] at h
      exact ⟨[u],q,by simp,⟨hu,by cases rest<;>exact trivial⟩,⟨q,hq,rfl⟩,hh.2,h⟩
     ·cases h
    ·rw [wordsR_mem rest q (T++[u])] at h
     obtain ⟨us,q',h1,h2,h3,h4,h5⟩:=h
     exact ⟨u::us,q',by simp,⟨hu,h2⟩,⟨q,hq,h3⟩,h4,by rw [h5,List.append_assoc];rfl⟩
   ·rintro ⟨us,q',h1,h2,h3,h4,h5⟩
    cases us with
    | nil=>exact absurd rfl h1
    | cons u us=>
      obtain ⟨hu,h2⟩:=h2
      obtain ⟨q,hq,h3⟩:=h3
      refine ⟨u,hu,List.mem_flatMap.2 ⟨q,hq,List.mem_append.2 ?_⟩⟩
      by_cases hus:us=[]
      ·subst hus
       left
       have h3:q'=q:=h3
       subst h3
       unfold headW
       rw [if_pos (by simp [h4]),h5]
       exact List.mem_singleton.2 rfl
      ·right
       rw [wordsR_mem rest q (T++[u])]
       exact ⟨us,q',hus,h2,h3,h4,by rw [h5,List.append_assoc];rfl⟩
theorem inRows_uses {H:Hou}:∀ {l:List Int} {us:List Use},InRows (l.map (usesAt H)) us↔us.length≤l.length∧UsesIn H (l.take us.length) us
 | l,[]=>by simp [InRows,UsesIn]
 | [],u::us=>by simp [InRows]
 | n::l,u::us=>by
   rw [List.map_cons]
   unfold InRows
   rw [inRows_uses,List.length_cons,List.length_cons,List.take_succ_cons]
   rw [show UsesIn H (n::l.take us.length) (u::us)=(u∈usesAt H n∧UsesIn H (l.take us.length) us) from rfl]
   constructor
   ·rintro ⟨h1,h2,h3⟩;exact ⟨by omega,h1,h3⟩
   ·rintro ⟨h1,h2,h3⟩;exact ⟨h2,by omega,h3⟩
theorem cliOK_snoc {n:Nat}:∀ {l:List Int} {last c:Int},cliOK n l last=true→(match l.getLast? with|some z=>z|none=>last)<c→c<n→cliOK n (l++[c]) last=true
 | [],last,c,_,h1,h2=>by
   unfold cliOK cliOK
   simp at h1 ⊢
   omega
 | a::t,last,c,h,h1,h2=>by
   unfold cliOK at h
   rw [Bool.and_eq_true] at h
   rw [List.cons_append]
   unfold cliOK
   rw [Bool.and_eq_true]
   refine ⟨h.1,cliOK_snoc h.2 ?_ h2⟩
   cases t with
   | nil=>simpa using h1
   | cons b t=>
     rw [List.getLast?_cons_cons] at h1
     cases hz:(b::t).getLast? with
     | none=>simp at hz
     | some z=>rw [hz] at h1;exact h1
structure CliUp (H:Hou) (p:Prg):Prop where
 up:cliOK H.lex.clitics.length p.cl (-1)=true
 few:p.cl.length≤3
theorem spellGo_mem {p:Prg} {u:Use} {q:Prg}:∀ {l:List Cli} {c:Int},q∈spellGo p u l c→∃ j:Nat,j<l.length∧q.cl=p.cl++[c+j]
 | [],c,h=>by cases h
 | k::t,c,h=>by
   unfold spellGo at h
   rcases List.mem_append.1 h with h|h
   ·split at h
    ·rw [List.mem_singleton] at h
     subst h
     exact ⟨0,by simp,by simp⟩
    ·cases h
   ·obtain ⟨j,h1,h2⟩:=spellGo_mem h
    exact ⟨j+1,by simpa using h1,by rw [h2];congr 2;omega⟩
theorem firstC_eq (cl:List Int):firstC cl=(match cl.getLast? with|some z=>z|none=>-1)+1:=by
 unfold firstC
 cases cl.getLast?<;>rfl
theorem nextM_up {s:Sp} {p q:Prg} {u:Use} (hp:PrgOK s p) (h:CliUp s.H p) (hq:q∈nextM s p u):CliUp s.H q:=by
 have same:q.cl=p.cl→CliUp s.H q:=fun e=>⟨by rw [e];exact h.up,by rw [e];exact h.few⟩
 have hone:∀ {a:Prg},a.cl=p.cl→q∈[a]→CliUp s.H q:=fun e hm=>same (by rw [List.mem_singleton.1 hm];exact e)
 unfold nextM at hq
 split at hq
 ·unfold spellM at hq
  split at hq
  ·split at hq
   ·exact hone (by rfl) hq
   ·cases hq
  ·split at hq
   ·rename_i h3
    obtain ⟨j,hj,e⟩:=spellGo_mem hq
    have hf:=firstC_ok hp
    rw [List.length_drop] at hj
    refine ⟨?_,by rw [e,List.length_append,List.length_singleton];omega⟩
    rw [e]
    refine cliOK_snoc h.up ?_ ?_
    ·have:=firstC_eq p.cl
     omega
    ·omega
   ·cases hq
 split at hq
 ·split at hq
  ·cases hq
  ·exact hone (by rfl) hq
 split at hq
 ·split at hq
  ·cases hq
  ·exact hone (by rfl) hq
 split at hq
 ·split at hq
  ·cases hq
  ·exact hone (by rfl) hq
 ·cases hq
theorem runP_ok {s:Sp} (hs:SpOK s):∀ {us:List Use} {p q:Prg},(∀ u∈us,UseOK u)→PrgOK s p→CliUp s.H p→RunP s p us q→PrgOK s q∧CliUp s.H q
 | [],p,q,_,hp,hc,h=>by
   have h:q=p:=h
   subst h
   exact ⟨hp,hc⟩
 | u::us,p,q,hu,hp,hc,⟨r,h1,h2⟩=>runP_ok hs (fun v hv=>hu v (by simp [hv])) (nextM_ok hs hp (hu u (by simp)) r h1) (nextM_up hp hc h1) h2
theorem usesIn_ok {H:Hou} (hH:HouOK H):∀ {l:List Int} {us:List Use},(∀ s∈l,0≤s∧s<H.list.signs.length)→UsesIn H l us→∀ u∈us,UseOK u
 | [],[],_,_,u,hu=>by cases hu
 | [],_::_,_,h,_,_=>h.elim
 | _::_,[],_,h,_,_=>h.elim
 | n::l,v::us,hl,⟨h1,h2⟩,u,hu=>by
   rcases List.mem_cons.1 hu with rfl|hu
   ·have hs2:=hl n (by simp)
    have hok:=(lstOK hH.lst).each _ (List.mem_of_getElem? (sgnAt_get hs2.1 hs2.2))
    exact (usesM_ok (p:=H.period) hok).2 _ h1
   ·exact usesIn_ok hH (fun s hs=>hl s (by simp [hs])) h2 u hu
theorem prg0_up (H:Hou):CliUp H prg0:=⟨rfl,by simp [prg0]⟩
def edgOf (H:Hou) (i:Nat) (w:Wrd):Edg:=⟨i,(i:Int)+w.uses.length,priceM H w,w⟩
theorem edgsAt_iff {H:Hou} {line:List Int} (hL:LineOK H line) (hle:lexErr H.lex=0) {i:Nat} (hi:i≤line.length) {x:Edg} :
  x∈edgsAt H line i↔(frmErr H.lex x.word.form=0∧i+x.word.uses.length≤line.length∧spellsM H ((line.drop i).take x.word.uses.length) x.word=true)∧x=edgOf H i x.word:=by
 have hH:=hL.hou
 have hmem:∀ s∈(line.drop i).take 12,0≤s∧s<H.list.signs.length:=fun s hs=>hL.signs s (List.mem_of_mem_drop (List.mem_of_mem_take hs))
 have htk:∀ n,n≤12→((line.drop i).take 12).take n=(line.drop i).take n:=fun n hn=>by rw [List.take_take];congr 1;omega
 unfold edgsAt sortE
 rw [sortL_mem]
 unfold wordsAll
 rw [List.mem_flatMap]
 constructor
 ·rintro ⟨e,he,hx⟩
  unfold wordsEnt at hx
  rw [List.mem_flatMap] at hx
  obtain ⟨k,hk,hx⟩:=hx
  rw [List.mem_range] at he hk
  unfold wordsOf at hx
  split at hx
  ·cases hx
  rename_i hsk
  unfold wordsF at hx
  rw [headW_nil,List.nil_append,wordsR_mem] at hx
  obtain ⟨us,q,h1,h2,h3,h4,h5⟩:=hx
  rw [List.nil_append] at h5
  unfold allAt at h2
  rw [inRows_uses] at h2
  have hl12:((line.drop i).take 12).length≤12:=by rw [List.length_take];omega
  have hl2:((line.drop i).take 12).length≤line.length - i:=by rw [List.length_take,List.length_drop];omega
  have hup:1≤us.length:=List.length_pos_iff.2 h1
  have hsp:SpOK (envAt H i e ((k:Int) - 1)).s:=spAt hH (by omega) (by omega) (by omega)
  have huo:=usesIn_ok hH (fun s hs=>hmem s (List.mem_of_mem_take hs)) h2.2
  obtain ⟨hqo,hqc⟩:=runP_ok hsp huo (prg0_ok _) (prg0_up _) h3
  rw [htk _ (by omega)] at h2
  subst h5
  have hwu:(mkEdge (envAt H i e ((k:Int) - 1)) q us).word.uses=us:=rfl
  have hwf:(mkEdge (envAt H i e ((k:Int) - 1)) q us).word.form=⟨e,(k:Int) - 1,q.cl⟩:=rfl
  rw [hwu,hwf]
  refine ⟨⟨?_,by omega,?_⟩,rfl⟩
  ·unfold frmErr
   rw [if_neg (by rw [hle];simp),if_neg (by rw [Bool.not_eq_false,wthn_iff];show 0≤(e:Int)∧(e:Int)≤_;omega),if_neg,if_neg (by have:=hqc.few;show ¬ 3<q.cl.length;omega),if_pos (show cliOK H.lex.clitics.length (Frm.mk (e:Int) ((k:Int) - 1) q.cl).clitics (-1)=true from hqc.up)]
   unfold badEnd
   unfold skipE at hsk
   simp only [Bool.and_eq_true,Bool.or_eq_true,Bool.not_eq_true',decide_eq_true_eq,decide_eq_false_iff_not,not_and,Classical.not_not,not_or] at hsk ⊢
   intro hne
   refine ⟨?_,hsk (by omega)⟩
   rw [Bool.eq_false_iff,ne_eq,Bool.not_eq_true,Bool.not_eq_false]
   rw [wthn_iff]
   omega
  ·unfold spellsM
   rw [Bool.and_eq_true,Bool.and_eq_true,wthn_iff,decide_eq_true_eq]
   have hll:((line.drop i).take us.length).length=us.length:=by rw [List.length_take,List.length_drop];omega
   refine ⟨⟨⟨by omega,by omega⟩,by show _=us.length;exact hll⟩,?_⟩
   rw [spGo_iff _ _ _ (by show _=us.length;exact hll)]
   exact ⟨h2.2,prg0,by simp,q,h3,h4,rfl⟩
 ·rintro ⟨⟨h1,h2,h3⟩,h4⟩
  obtain ⟨w,hw⟩:∃ w,w=x.word:=⟨_,rfl⟩
  rw [← hw] at h1 h2 h3 h4
  subst h4
  have hf:=frmOK h1
  unfold spellsM at h3
  rw [Bool.and_eq_true,Bool.and_eq_true,wthn_iff,decide_eq_true_eq] at h3
  obtain ⟨⟨h5,h6⟩,h7⟩:=h3
  rw [spGo_iff _ _ _ h6] at h7
  obtain ⟨h8,p,hp,q,h9,h10,h11⟩:=h7
  rw [List.mem_singleton] at hp
  subst hp
  have he:=hf.entry
  have hn:-1≤w.form.ending∧w.form.ending<H.lex.endings.length:=by rcases hf.ending with h|h<;>omega
  refine ⟨w.form.entry.toNat,List.mem_range.2 (by omega),?_⟩
  unfold wordsEnt
  refine List.mem_flatMap.2 ⟨(w.form.ending+1).toNat,List.mem_range.2 (by omega),?_⟩
  have e1:((w.form.entry.toNat:Nat):Int)=w.form.entry:=by omega
  have e2:(((w.form.ending+1).toNat:Nat):Int) - 1=w.form.ending:=by omega
  unfold wordsOf
  rw [e1,e2]
  have hsk:skipE H.lex w.form.entry w.form.ending≠true:=by
   unfold skipE
   simp only [Bool.and_eq_true,Bool.not_eq_true',decide_eq_true_eq,decide_eq_false_iff_not,ne_eq,not_and,Classical.not_not]
   intro h0
   rcases hf.ending with h|h
   ·omega
   ·exact h.2.2
  rw [if_neg hsk]
  unfold wordsF
  rw [headW_nil,List.nil_append,wordsR_mem]
  refine ⟨w.uses,q,?_,?_,h9,h10,?_⟩
  ·intro h0
   rw [h6,h0] at h5
   simp at h5
  ·unfold allAt
   rw [inRows_uses]
   have hll:((line.drop i).take 12).length=min 12 (line.length - i):=by rw [List.length_take,List.length_drop]
   refine ⟨by omega,?_⟩
   rw [htk _ (by omega)]
   exact h8
  ·obtain ⟨⟨fe,fn,fc⟩,us⟩:=w
   simp only at h11
   rw [List.nil_append]
   unfold mkEdge edgOf envAt
   simp only
   rw [h11]
end Go.Abs.Wall
namespace Go.Abs.Wall.Lst
open Go Go.Abs Go.Proofs Go.Abs.Wall
theorem stS_taken (cls:List (List Int)) (k:Nat):∀ (t r:Nat),r<stS cls t k→∃ t',t'<t∧∃ x,(mgW cls)[t']?=some x∧x.edge=k∧x.rank=r
 | 0,r,h=>by cases h
 | t+1,r,h=>by
   cases hm:(mgW cls)[t]? with
   | none=>
     rw [stS_stay hm] at h
     obtain ⟨t',h1,h2⟩:=stS_taken cls k t r h
     exact ⟨t',by omega,h2⟩
   | some x=>
     by_cases h3:r<stS cls t k
     ·obtain ⟨t',h1,h2⟩:=stS_taken cls k t r h3
      exact ⟨t',by omega,h2⟩
     ·rw [stS_succ hm] at h
      unfold up at h
      split at h
      ·rename_i he
       have h5:=(mgW_cand hm).1
       refine ⟨t,by omega,x,hm,he.symm,?_⟩
       rw [h5,← he]
       rw [← he] at h
       omega
      ·omega
theorem mgW_all {cls:List (List Int)} {k r:Nat} {l:List Int} {c:Int} (hl:cls[k]?=some l) (hc:l[r]?=some c):(⟨c,k,r⟩:Wy)∈mgW cls:=by
 have hlt:r<stS cls (mgW cls).length k:=by
  refine Classical.byContradiction fun hn=>?_
  have hb:best cls (stS cls (mgW cls).length)=none:=by
   rw [← mgW_get]
   exact List.getElem?_eq_none (Nat.le_refl _)
  have hr:stS cls (mgW cls).length k<l.length:=by
   have:=(List.getElem?_eq_some_iff.1 hc).1
   omega
  obtain ⟨c',hc'⟩:=get_lt hr
  exact best_none hb ⟨c',k,stS cls (mgW cls).length k⟩ ⟨rfl,l,hl,hc'⟩
 obtain ⟨t,_,x,hx,he,hr⟩:=stS_taken cls k _ r hlt
 obtain ⟨_,l',h2,h3⟩:=mgW_cand hx
 have:x=⟨c,k,r⟩:=by
  obtain ⟨xc,xe,xr⟩:=x
  simp only at he hr h2 h3
  subst he hr
  rw [hl] at h2
  cases h2
  rw [hc] at h3
  cases h3
  rfl
 rw [← this]
 exact List.mem_of_getElem? hx
def PathG (g:List (List Edg)):Nat→List Edg→Prop
 | i,[]=>i=g.length
 | i,x::l=>∃ es,g[i]?=some es∧x∈es∧PathG g x.to.toNat l
theorem rdV_path {g:List (List Edg)} (hg:GOK g):∀ (d i:Nat),i+d=g.length→∀ p,p∈rdV g i↔PathG g i p.2∧p.1=sumC p.2:=by
 intro d
 induction d using Nat.strongRecOn with
 | _ d ih=>
   intro i hi p
   by_cases h:i<g.length
   ·constructor
    ·intro hp
     refine ⟨?_,(rdV_sum hg d i hi p hp).symm⟩
     obtain ⟨es,x,q,hes,hx,hq,rfl⟩:=rdV_split hg h hp
     have ho:=hg.edge i es hes x hx
     have h5:=ho.lo;have h6:=ho.hi
     exact ⟨es,hes,hx,((ih (g.length - x.to.toNat) (by omega) x.to.toNat (by omega) q).1 hq).1⟩
    ·rintro ⟨hp,hc⟩
     obtain ⟨pc,pl⟩:=p
     simp only at hp hc
     cases pl with
     | nil=>have hp:i=g.length:=hp;omega
     | cons x l=>
       obtain ⟨es,hes,hx,hp⟩:=hp
       have hE:=hg.edge i es hes
       have ho:=hE x hx
       have h5:=ho.lo;have h6:=ho.hi
       have hq:=(ih (g.length - x.to.toNat) (by omega) x.to.toNat (by omega) (sumC l,l)).2 ⟨hp,rfl⟩
       obtain ⟨r,hr⟩:=List.mem_iff_getElem?.1 hq
       obtain ⟨k,hk⟩:=List.mem_iff_getElem?.1 hx
       rw [rdV_cons hes hE,List.mem_map]
       refine ⟨⟨x.cost+sumC l,k,r⟩,mgW_all (l:=extC x (rdV g x.to.toNat)) ?_ ?_,?_⟩
       ·unfold clsG;rw [List.getElem?_map,hk];rfl
       ·unfold extC;rw [List.getElem?_map,hr];rfl
       ·unfold mkR
        show (match es[k]? with|none=>_|some x=>_)=_
        rw [hk]
        show (x.cost+sumC l,x::((rdV g x.to.toNat).getD r (0,[])).2)=_
        rw [List.getD_eq_getElem?_getD,hr,hc,sumC_cons]
        rfl
   ·have:i=g.length:=by omega
    subst this
    rw [rdV_end,List.mem_singleton]
    constructor
    ·rintro rfl;exact ⟨rfl,rfl⟩
    ·rintro ⟨hp,hc⟩
     obtain ⟨pc,pl⟩:=p
     cases pl with
     | nil=>rw [show pc=0 from hc]
     | cons x l=>
       obtain ⟨es,hes,_⟩:=hp
       rw [List.getElem?_eq_none (Nat.le_refl _)] at hes
       cases hes
def Rows (g:List (List Edg)):Prop:=∀ (i:Nat) es,g[i]?=some es→∀ (j k:Nat) x y,j<k→es[j]?=some x→es[k]?=some y→wrdCmp x.word y.word<0
end Go.Abs.Wall.Lst
namespace Go.Abs.Wall.Lst
open Go Go.Abs Go.Proofs Go.Abs.Wall
theorem spellGo_pw {p:Prg} {u:Use}:∀ {l:List Cli} {c:Int},(spellGo p u l c).Pairwise fun a b=>a.cl.length=b.cl.length∧a.cl≠b.cl
 | [],_=>.nil
 | k::t,c=>by
   unfold spellGo
   rw [List.pairwise_append]
   refine ⟨?_,spellGo_pw,fun a ha b hb=>?_⟩
   ·split
    ·exact List.pairwise_singleton _ _
    ·exact .nil
   ·split at ha
    ·rw [List.mem_singleton] at ha
     subst ha
     obtain ⟨j,_,hj⟩:=spellGo_mem hb
     rw [hj]
     refine ⟨by simp,fun e=>?_⟩
     have:=List.append_cancel_left e
     simp at this
     omega
    ·cases ha
theorem nextM_pw (s:Sp) (p:Prg) (u:Use):(nextM s p u).Pairwise fun a b=>a.cl.length=b.cl.length∧a.cl≠b.cl:=by
 unfold nextM spellM
 repeat' split
 all_goals first|exact .nil|exact List.pairwise_singleton _ _|exact spellGo_pw
theorem nextM_pre {s:Sp} {p q:Prg} {u:Use} (h:q∈nextM s p u):p.cl <+: q.cl:=by
 unfold nextM spellM at h
 repeat' split at h
 all_goals first|(cases h;done)|(rw [List.mem_singleton] at h;subst h;exact List.prefix_rfl)|(obtain ⟨j,_,hj⟩:=spellGo_mem h;rw [hj];exact List.prefix_append _ _)
theorem runP_pre {s:Sp}:∀ {us:List Use} {p q:Prg},RunP s p us q→p.cl <+: q.cl
 | [],p,q,h=>by
   have h:q=p:=h
   rw [h];exact List.prefix_rfl
 | u::us,p,q,⟨r,h1,h2⟩=>List.IsPrefix.trans (nextM_pre h1) (runP_pre h2)
theorem pre_eq {α:Type} {a b z:List α} (h1:a <+: z) (h2:b <+: z) (hl:a.length=b.length):a=b:=
 (List.prefix_of_prefix_length_le h1 h2 (Nat.le_of_eq hl)).eq_of_length hl
theorem wordsF_mem {E:Env} {x:Edg} {r:List (List Use)} {q:Prg} {T:List Use} (h:x∈headW E q T++wordsR E r q T):∃ us,x.word.uses=T++us∧q.cl <+: x.word.form.clitics:=by
 rcases List.mem_append.1 h with h|h
 ·unfold headW at h
  split at h
  ·rw [List.mem_singleton] at h
   subst h
   exact ⟨[],(List.append_nil _).symm,List.prefix_rfl⟩
  ·cases h
 ·rw [wordsR_mem] at h
  obtain ⟨us,q',_,_,h3,_,rfl⟩:=h
  exact ⟨us,rfl,runP_pre h3⟩
theorem wordsR_pw {E:Env}:∀ (rest:List (List Use)) (p:Prg) (T:List Use),(∀ r∈rest,r.Nodup)→(wordsR E rest p T).Pairwise fun x y=>x.word≠y.word
 | [],_,_,_=>.nil
 | us::r,p,T,hn=>by
   unfold wordsR
   rw [List.pairwise_flatMap]
   constructor
   ·intro u hu
    rw [List.pairwise_flatMap]
    constructor
    ·intro q hq
     rw [List.pairwise_append]
     refine ⟨?_,wordsR_pw r q (T++[u]) (fun z hz=>hn z (by simp [hz])),fun a ha b hb e=>?_⟩
     ·unfold headW
      split
      ·exact List.pairwise_singleton _ _
      ·exact .nil
     ·unfold headW at ha
      split at ha
      ·rw [List.mem_singleton] at ha
       subst ha
       rw [wordsR_mem] at hb
       obtain ⟨us',q',h1,_,_,_,rfl⟩:=hb
       have:=congrArg (fun w=>w.uses.length) e
       simp only [mkEdge,List.length_append] at this
       have:=List.length_pos_iff.2 h1
       omega
      ·cases ha
    ·refine (nextM_pw E.s p u).imp ?_
     rintro a b ⟨h1,h2⟩ x hx y hy e
     obtain ⟨_,_,h3⟩:=wordsF_mem hx
     obtain ⟨_,_,h4⟩:=wordsF_mem hy
     rw [e] at h3
     exact h2 (pre_eq h3 h4 h1)
   ·refine (hn us (by simp)).imp ?_
    rintro a b hab x hx y hy e
    obtain ⟨q1,_,hx⟩:=List.mem_flatMap.1 hx
    obtain ⟨q2,_,hy⟩:=List.mem_flatMap.1 hy
    obtain ⟨u1,h3,_⟩:=wordsF_mem hx
    obtain ⟨u2,h4,_⟩:=wordsF_mem hy
    rw [e,h4] at h3
    rw [List.append_assoc,List.append_assoc] at h3
    have:=List.append_cancel_left h3
    simp at this
    exact hab this.1.symm
theorem usesAt_nodup {H:Hou} (hH:HouOK H) {n:Int} (h:0≤n∧n<H.list.signs.length):(usesAt H n).Nodup:=by
 have:=lst_sgn hH.lst _ (List.mem_of_getElem? (sgnAt_get h.1 h.2))
 unfold usesAt usesM sortU
 exact (sortL_perm.nodup_iff).2 (useGo_nodup (sgn_apart this _))
theorem wordsOf_form {H:Hou} {All:List (List Use)} {i e k:Nat} {x:Edg} (h:x∈wordsOf H All i e k):x.word.form.entry=e∧x.word.form.ending=(k:Int) - 1:=by
 unfold wordsOf at h
 split at h
 ·cases h
 unfold wordsF at h
 rcases List.mem_append.1 h with h|h
 ·unfold headW at h
  split at h
  ·rw [List.mem_singleton] at h
   subst h
   exact ⟨rfl,rfl⟩
  ·cases h
 ·rw [wordsR_mem] at h
  obtain ⟨us,q',_,_,_,_,rfl⟩:=h
  exact ⟨rfl,rfl⟩
theorem range_lt (n:Nat):(List.range n).Pairwise (·<·):=List.pairwise_lt_range
theorem wordsAll_pw {H:Hou} {All:List (List Use)} {i:Nat} (hn:∀ r∈All,r.Nodup):(wordsAll H All i).Pairwise fun x y=>x.word≠y.word:=by
 unfold wordsAll
 rw [List.pairwise_flatMap]
 constructor
 ·intro e he
  unfold wordsEnt
  rw [List.pairwise_flatMap]
  constructor
  ·intro k hk
   unfold wordsOf
   split
   ·exact .nil
   ·unfold wordsF
    rw [headW_nil,List.nil_append]
    exact wordsR_pw All _ _ hn
  ·refine (range_lt _).imp ?_
   intro a b hab x hx y hy e
   have h1:=(wordsOf_form hx).2
   have h2:=(wordsOf_form hy).2
   rw [e] at h1
   omega
 ·refine (range_lt _).imp ?_
  intro a b hab x hx y hy e
  unfold wordsEnt at hx hy
  obtain ⟨k1,_,hx⟩:=List.mem_flatMap.1 hx
  obtain ⟨k2,_,hy⟩:=List.mem_flatMap.1 hy
  have h1:=(wordsOf_form hx).1
  have h2:=(wordsOf_form hy).1
  rw [e] at h1
  omega
theorem edgsAt_up {H:Hou} {line:List Int} (hL:LineOK H line) (i:Nat):(edgsAt H line i).Pairwise fun x y=>wrdCmp x.word y.word<0:=by
 have hn:∀ r∈allAt H line i,r.Nodup:=by
  intro r hr
  unfold allAt at hr
  obtain ⟨n,hm,rfl⟩:=List.mem_map.1 hr
  exact usesAt_nodup hL.hou (hL.signs n (List.mem_of_mem_drop (List.mem_of_mem_take hm)))
 have h1:(edgsAt H line i).Pairwise fun x y=>x.word≠y.word:=by
  unfold edgsAt sortE
  exact (sortL_perm.pairwise_iff (fun {x y} h=>Ne.symm h)).2 (wordsAll_pw hn)
 have h2:(edgsAt H line i).Pairwise fun x y=>¬ edgCmp y x<0:=by
  unfold edgsAt sortE
  exact edgW.sorted _
 refine (h1.and h2).imp ?_
 rintro x y ⟨h3,h4⟩
 unfold edgCmp at h4
 rw [zW.sgn] at h4
 have h5:wrdCmp x.word y.word≠0:=fun e=>h3 ((zW.zero _ _).1 e)
 omega
end Go.Abs.Wall.Lst
