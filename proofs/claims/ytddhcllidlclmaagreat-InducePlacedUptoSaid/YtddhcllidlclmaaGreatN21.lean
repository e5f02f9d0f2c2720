/- What is proved: small laws for the walks of this seat, and contracts of its functions. No condition but those each theorem names. -/
import Derived.Test.YtddhcllidlclmaaGreatN19
import Derived.Test.YtddhcllidlclmaaGreatN11
import Derived.Test.YtddhcllidlclmaaGreatN20
set_option maxRecDepth 100000
set_option maxHeartbeats 2000000
set_option linter.unusedVariables false
set_option linter.unusedSimpArgs false
namespace Go.Abs.Wall
open Go Go.Abs Go.Proofs
structure Lnk where
 entry:Int
 to:Int
deriving DecidableEq
def lnkOf (x:Edg):Lnk:=⟨x.word.form.entry,x.to⟩
def mkL (want:Int→Bool) (a:Nat):List Lnk→List Bool→List Bool
 | [],l=>l
 | x::t,l=>mkL want a t (if (l.getD a false&&want x.entry)=true then l.set x.to.toNat true else l)
def rdGo (want:Int→Bool):List (List Lnk)→Nat→List Bool→List Bool
 | [],_,l=>l
 | es::g,i,l=>rdGo want g (i+1) (mkL want i es l)
def rdL (want:Int→Bool) (g:List (List Lnk)):List Bool:=rdGo want g 0 ((List.replicate (g.length+1) false).set 0 true)
def rdM (want:Int→Bool) (g:List (List Lnk)):Bool:=(rdL want g).getD g.length false
theorem mkL_len (want:Int→Bool) (a:Nat):∀ (es:List Lnk) (l:List Bool),(mkL want a es l).length=l.length
 | [],l=>rfl
 | x::t,l=>by
   unfold mkL
   rw [mkL_len want a t]
   split<;>simp
def LOK (g:List (List Lnk)):Prop:=∀ (i:Nat) es,g[i]?=some es→∀ x∈es,(i:Int)<x.to∧x.to≤g.length
inductive Rch (g:List (List Lnk)) (want:Int→Bool):Nat→Prop
 | zero:Rch g want 0
 | step {i:Nat} {es:List Lnk} {x:Lnk}:Rch g want i→g[i]?=some es→x∈es→want x.entry=true→Rch g want x.to.toNat
theorem gdSet {l:List Bool} {i j:Nat}:(l.set i true).getD j false=(decide (i=j∧j<l.length)||l.getD j false):=by
 rw [List.getD_eq_getElem?_getD,List.getD_eq_getElem?_getD,List.getElem?_set]
 by_cases h:i=j
 ·subst h
  by_cases h2:i<l.length
  ·simp [h2]
  ·simp [h2]
 ·simp [h]
theorem mkL_sound {g:List (List Lnk)} {want:Int→Bool} {a:Nat} {all:List Lnk} (ha:g[a]?=some all):∀ (es:List Lnk) (l:List Bool),(∀ x∈es,x∈all) →
  (∀ j,l.getD j false=true→Rch g want j)→∀ j,(mkL want a es l).getD j false=true→Rch g want j
 | [],l,_,h,j,hj=>h j hj
 | x::t,l,hs,h,j,hj=>by
   unfold mkL at hj
   refine mkL_sound ha t _ (fun y hy=>hs y (List.mem_cons_of_mem _ hy)) ?_ j hj
   intro k hk
   split at hk
   ·rename_i hc
    rw [Bool.and_eq_true] at hc
    rw [gdSet,Bool.or_eq_true,decide_eq_true_eq] at hk
    rcases hk with ⟨rfl,_⟩|hk
    ·exact .step (h a hc.1) ha (hs x (List.mem_cons_self ..)) hc.2
    ·exact h k hk
   ·exact h k hk
theorem rdGo_sound {g:List (List Lnk)} {want:Int→Bool}:∀ (d i:Nat) (l:List Bool),i+d=g.length →
  (∀ j,l.getD j false=true→Rch g want j)→∀ j,(rdGo want (g.drop i) i l).getD j false=true→Rch g want j
 | 0,i,l,hi,h,j,hj=>by
   rw [drop_nil (by omega)] at hj
   exact h j hj
 | d+1,i,l,hi,h,j,hj=>by
   obtain ⟨es,hes⟩:=get_lt (l:=g) (i:=i) (by omega)
   rw [drop_cons hes,rdGo] at hj
   exact rdGo_sound d (i+1) _ (by omega) (mkL_sound hes es l (fun _ h=>h) h) j hj
theorem mkL_keep {want:Int→Bool} {a:Nat}:∀ (es:List Lnk) (l:List Bool) (j:Nat),l.getD j false=true→(mkL want a es l).getD j false=true
 | [],l,j,h=>h
 | x::t,l,j,h=>by
   unfold mkL
   refine mkL_keep t _ j ?_
   split
   ·rw [gdSet,h,Bool.or_true]
   ·exact h
theorem mkL_all {want:Int→Bool} {a:Nat}:∀ (es:List Lnk) (l:List Bool),l.getD a false=true→∀ x∈es,want x.entry=true→x.to.toNat<l.length→(mkL want a es l).getD x.to.toNat false=true
 | [],l,h,x,hx,_,_=>by cases hx
 | y::t,l,h,x,hx,hw,hl=>by
   unfold mkL
   rcases List.mem_cons.1 hx with rfl|hx
   ·refine mkL_keep t _ _ ?_
    rw [if_pos (by rw [h,hw];rfl),gdSet]
    simp [hl]
   ·refine mkL_all t _ ?_ x hx hw ?_
    ·split
     ·rw [gdSet,h,Bool.or_true]
     ·exact h
    ·split
     ·rw [List.length_set];exact hl
     ·exact hl
theorem rdGo_full {g:List (List Lnk)} {want:Int→Bool} (hg:LOK g):∀ (d i:Nat) (l:List Bool),i+d=g.length→l.length=g.length+1→l.getD 0 false=true →
  (∀ (i':Nat) es x,i'<i→Rch g want i'→g[i']?=some es→x∈es→want x.entry=true→l.getD x.to.toNat false=true) →
  ∀ j,Rch g want j→(rdGo want (g.drop i) i l).getD j false=true
 | 0,i,l,hi,hl,h0,h,j,hj=>by
   rw [drop_nil (by omega)]
   cases hj with
   | zero=>exact h0
   | step h1 h2 h3 h4=>exact h _ _ _ (by have:=(List.getElem?_eq_some_iff.1 h2).1;omega) h1 h2 h3 h4
 | d+1,i,l,hi,hl,h0,h,j,hj=>by
   obtain ⟨es,hes⟩:=get_lt (l:=g) (i:=i) (by omega)
   rw [drop_cons hes,rdGo]
   refine rdGo_full hg d (i+1) _ (by omega) (by rw [mkL_len];exact hl) (mkL_keep es l 0 h0) ?_ j hj
   intro i' es' x hi' hr he hx hw
   by_cases hlt:i'<i
   ·exact mkL_keep es l _ (h i' es' x hlt hr he hx hw)
   ·have:i'=i:=by omega
    subst this
    rw [hes] at he
    cases he
    have hto:=hg i' es hes x hx
    refine mkL_all es l ?_ x hx hw (by omega)
    have hri:=hr
    generalize hk:i'=k at hr
    cases hr with
    | zero=>subst hk;exact h0
    | step h1 h2 h3 h4=>
      rename_i a esA y
      have:=hg a esA h2 y h3
      exact h a esA y (by omega) h1 h2 h3 h4
theorem rdM_iff {g:List (List Lnk)} {want:Int→Bool} (hg:LOK g):rdM want g=true↔Rch g want g.length:=by
 have h0:((List.replicate (g.length+1) false).set 0 true).getD 0 false=true:=by rw [gdSet];simp
 constructor
 ·intro h
  refine rdGo_sound g.length 0 _ (by omega) ?_ _ h
  intro j hj
  rw [gdSet,Bool.or_eq_true,decide_eq_true_eq] at hj
  rcases hj with ⟨rfl,_⟩|hj
  ·exact .zero
  ·rw [List.getD_eq_getElem?_getD,List.getElem?_replicate] at hj
   split at hj<;>cases hj
 ·intro h
  exact rdGo_full hg g.length 0 _ (by omega) (by simp) h0 (fun i' es x hi'=>absurd hi' (by omega)) _ h
theorem Rch.mono {g g':List (List Lnk)} {w w':Int→Bool} (h:∀ (i:Nat) es x,g[i]?=some es→x∈es→w x.entry=true→∃ es',g'[i]?=some es'∧∃ y∈es',y.to=x.to∧w' y.entry=true) {j:Nat} (hr:Rch g w j):Rch g' w' j:=by
 induction hr with
 | zero=>exact .zero
 | step h1 h2 h3 h4 ih=>
   obtain ⟨es',e1,y,e2,e3,e4⟩:=h _ _ _ h2 h3 h4
   rw [← e3]
   exact .step ih e1 e2 e4
theorem rdM_mono {g:List (List Lnk)} {w w':Int→Bool} (hg:LOK g) (h:∀ es∈g,∀ x∈es,w x.entry=true→w' x.entry=true) (hr:rdM w g=true):rdM w' g=true:=
 (rdM_iff hg).2 (((rdM_iff hg).1 hr).mono fun i es x h1 h2 h3=>⟨es,h1,x,h2,rfl,h es (List.mem_of_getElem? h1) x h2 h3⟩)
theorem rdM_congr {g:List (List Lnk)} {w w':Int→Bool} (hg:LOK g) (h:∀ es∈g,∀ x∈es,w x.entry=w' x.entry):rdM w g=rdM w' g:=by
 rw [Bool.eq_iff_iff]
 exact ⟨rdM_mono hg fun es h1 x h2 h3=>by rw [← h es h1 x h2];exact h3,rdM_mono hg fun es h1 x h2 h3=>by rw [h es h1 x h2];exact h3⟩
def cpt {α:Type} [DecidableEq α]:List α→List α
 | []=>[]
 | [x]=>[x]
 | x::y::r=>if x=y then cpt (y::r) else x::cpt (y::r)
theorem cpt_mem {α:Type} [DecidableEq α] {x:α}:∀ {l:List α},x∈cpt l↔x∈l
 | []=>by simp [cpt]
 | [y]=>by simp [cpt]
 | y::z::r=>by
   unfold cpt
   have ih:=cpt_mem (x:=x) (l:=z::r)
   split
   ·rename_i h
    subst h
    rw [ih]
    simp
   ·rw [List.mem_cons,ih,List.mem_cons (a:=x) (b:=y)]
theorem LOK.cpt {g:List (List Lnk)} (hg:LOK g):LOK (g.map cpt):=by
 intro i es hes x hx
 rw [List.getElem?_map] at hes
 obtain ⟨fs,hf,rfl⟩:=Option.map_eq_some_iff.1 hes
 rw [List.length_map]
 exact hg i fs hf x (cpt_mem.1 hx)
theorem rdM_cpt {g:List (List Lnk)} {w:Int→Bool} (hg:LOK g):rdM w (g.map cpt)=rdM w g:=by
 rw [Bool.eq_iff_iff,rdM_iff hg.cpt,rdM_iff hg,List.length_map]
 constructor
 ·refine Rch.mono fun i es x h1 h2 h3=>?_
  rw [List.getElem?_map] at h1
  obtain ⟨fs,hf,rfl⟩:=Option.map_eq_some_iff.1 h1
  exact ⟨fs,hf,x,cpt_mem.1 h2,rfl,h3⟩
 ·refine Rch.mono fun i es x h1 h2 h3=>?_
  exact ⟨_,by rw [List.getElem?_map,h1];rfl,x,cpt_mem.2 h2,rfl,h3⟩
end Go.Abs.Wall
namespace Go.Abs.Wall
open Go Go.Abs Go.Proofs
abbrev Cor:=List (List (List Lnk))
def allB (C:Cor) (w:Int→Bool):Bool:=C.all (rdM w)
def but (w:Int→Bool) (e:Int):Int→Bool:=fun x=>!decide (x=e)&&w x
def everyW:Int→Bool:=fun _=>true
def memW (keep:List Int):Int→Bool:=fun x=>decide (x∈keep)
def needsF (C:Cor) (w:Int→Bool) (e:Int) (i:Nat):Bool:=rdM w (C.getD i [])&&!rdM (but w e) (C.getD i [])
def needsM (C:Cor) (w:Int→Bool) (e:Int):List Int:=((List.range C.length).filter (needsF C w e)).map fun i:Nat=>(i:Int)
structure Nd where
 entry:Int
 lines:List Int
deriving DecidableEq
def indGo (C:Cor):Nat→(Int→Bool)→(Int→Bool)
 | 0,w=>w
 | e+1,w=>indGo C e (if allB C (but w e)=true then but w e else w)
def indW (C:Cor) (N:Nat):Int→Bool:=indGo C N everyW
def keepF (w:Int→Bool) (i:Nat):Bool:=w (i:Int)
def keepL (N:Nat) (w:Int→Bool):List Int:=((List.range N).filter (keepF w)).map fun i:Nat=>(i:Int)
def ndOf (C:Cor) (w:Int→Bool) (e:Int):Nd:=⟨e,needsM C w e⟩
def indL (C:Cor) (N:Nat):List Nd:=(keepL N (indW C N)).map (ndOf C (indW C N))
structure COK (N:Nat) (C:Cor):Prop where
 links:∀ g∈C,LOK g
 ents:∀ g∈C,∀ es∈g,∀ x∈es,0≤x.entry∧x.entry<N
theorem keepL_mem {N:Nat} {w:Int→Bool} {x:Int}:x∈keepL N w↔0≤x∧x<N∧w x=true:=by
 unfold keepL keepF
 rw [List.mem_map]
 constructor
 ·rintro ⟨i,hi,rfl⟩
  rw [List.mem_filter,List.mem_range] at hi
  exact ⟨by omega,by omega,hi.2⟩
 ·rintro ⟨h0,h1,h2⟩
  refine ⟨x.toNat,?_,by omega⟩
  rw [List.mem_filter,List.mem_range]
  exact ⟨by omega,by show w (x.toNat:Int)=true;rw [show (x.toNat:Int)=x by omega];exact h2⟩
theorem keepL_up {N:Nat} {w:Int→Bool}:(keepL N w).Pairwise (·<·):=by
 unfold keepL
 rw [List.pairwise_map]
 refine List.Pairwise.filter _ ?_
 exact List.pairwise_lt_range.imp fun h=>by omega
theorem up_unique:∀ {a b:List Int},a.Pairwise (·<·)→b.Pairwise (·<·)→(∀ x,x∈a↔x∈b)→a=b
 | [],[],_,_,_=>rfl
 | [],y::b,_,_,h=>absurd ((h y).2 (List.mem_cons_self ..)) (by simp)
 | x::a,[],_,_,h=>absurd ((h x).1 (List.mem_cons_self ..)) (by simp)
 | x::a,y::b,ha,hb,h=>by
   rw [List.pairwise_cons] at ha hb
   have h1:=(h x).1 (List.mem_cons_self ..)
   have h2:=(h y).2 (List.mem_cons_self ..)
   have hxy:x=y:=by
    rcases List.mem_cons.1 h1 with e|h1
    ·exact e
    rcases List.mem_cons.1 h2 with e|h2
    ·exact e.symm
    have:=hb.1 x h1
    have:=ha.1 y h2
    omega
   subst hxy
   rw [up_unique ha.2 hb.2 fun z=>⟨fun hz=>?_,fun hz=>?_⟩]
   ·have:=ha.1 z hz
    rcases List.mem_cons.1 ((h z).1 (List.mem_cons_of_mem _ hz)) with e|h3
    ·omega
    ·exact h3
   ·have:=hb.1 z hz
    rcases List.mem_cons.1 ((h z).2 (List.mem_cons_of_mem _ hz)) with e|h3
    ·omega
    ·exact h3
theorem rdM_mem {N:Nat} {C:Cor} (hc:COK N C) {w:Int→Bool} {g:List (List Lnk)} (hg:g∈C):rdM (memW (keepL N w)) g=rdM w g:=by
 refine rdM_congr (hc.links g hg) fun es hes x hx=>?_
 have h1:=hc.ents g hg es hes x hx
 rw [Bool.eq_iff_iff]
 unfold memW
 rw [decide_eq_true_eq,keepL_mem]
 exact ⟨fun h=>h.2.2,fun h=>⟨h1.1,h1.2,h⟩⟩
theorem allB_congr {C:Cor} {w w':Int→Bool} (h:∀ g∈C,rdM w g=rdM w' g):allB C w=allB C w':=by
 unfold allB
 rw [Bool.eq_iff_iff,List.all_eq_true,List.all_eq_true]
 exact ⟨fun h1 g hg=>by rw [← h g hg];exact h1 g hg,fun h1 g hg=>by rw [h g hg];exact h1 g hg⟩
theorem allB_mem {N:Nat} {C:Cor} (hc:COK N C) (w:Int→Bool):allB C (memW (keepL N w))=allB C w:=allB_congr fun g hg=>rdM_mem hc hg
theorem without_keep (N:Nat) (w:Int→Bool) (e:Int):(keepL N w).filter (fun x=>!decide (x=e))=keepL N (but w e):=by
 refine up_unique (keepL_up.filter _) keepL_up fun x=>?_
 rw [List.mem_filter,keepL_mem,keepL_mem]
 unfold but
 simp
 constructor
 ·rintro ⟨⟨a,b,c⟩,d⟩;exact ⟨a,b,d,c⟩
 ·rintro ⟨a,b,d,c⟩;exact ⟨⟨a,b,c⟩,d⟩
theorem getD_mem {C:Cor} {i:Nat} (hi:i<C.length):C.getD i []∈C:=by
 rw [List.getD_eq_getElem?_getD,List.getElem?_eq_getElem hi]
 exact List.getElem_mem hi
theorem needsM_congr {C:Cor} {w w':Int→Bool} {e:Int} (h:∀ g∈C,rdM w g=rdM w' g) (h2:∀ g∈C,rdM (but w e) g=rdM (but w' e) g):needsM C w e=needsM C w' e:=by
 unfold needsM
 congr 1
 refine List.filter_congr fun i hi=>?_
 have hm:=getD_mem (List.mem_range.1 hi)
 unfold needsF
 rw [h _ hm,h2 _ hm]
theorem but_mem (keep:List Int) (e:Int):but (memW keep) e=memW (keep.filter fun x=>!decide (x=e)):=by
 funext x
 rw [Bool.eq_iff_iff]
 unfold but memW
 simp
 exact ⟨fun h=>⟨h.2,h.1⟩,fun h=>⟨h.2,h.1⟩⟩
theorem needsM_mem {N:Nat} {C:Cor} (hc:COK N C) (w:Int→Bool) (e:Int):needsM C (memW (keepL N w)) e=needsM C w e:=
 needsM_congr (fun g hg=>rdM_mem hc hg) fun g hg=>by rw [but_mem,without_keep,rdM_mem hc hg]
theorem indGo_all {C:Cor}:∀ (n:Nat) (w:Int→Bool),allB C w=true→allB C (indGo C n w)=true
 | 0,w,h=>h
 | n+1,w,h=>by
   unfold indGo
   refine indGo_all n _ ?_
   split
   ·assumption
   ·exact h
end Go.Abs.Wall
namespace Go.Abs.Wall
open Go Go.Abs Go.Proofs
inductive Toe (g:List (List Lnk)):Nat→Prop
 | fin:Toe g g.length
 | step {i:Nat} {es:List Lnk} {x:Lnk}:g[i]?=some es→x∈es→Toe g x.to.toNat→Toe g i
theorem nodup_sub_len {α:Type} [DecidableEq α]:∀ {a b:List α},a.Nodup→(∀ x∈a,x∈b)→a.length≤b.length
 | [],b,_,_=>Nat.zero_le _
 | x::a,b,hn,h=>by
   rw [List.nodup_cons] at hn
   have hx:=h x (List.mem_cons_self ..)
   have:=nodup_sub_len (a:=a) (b:=b.erase x) hn.2 fun y hy=>by
    have hyx:y≠x:=fun e=>hn.1 (e ▸ hy)
    exact (List.mem_erase_of_ne hyx).2 (h y (List.mem_cons_of_mem _ hy))
   rw [List.length_erase_of_mem hx] at this
   have:0<b.length:=List.length_pos_of_mem hx
   simp
   omega
end Go.Abs.Wall
namespace Go.Abs.Wall
open Go Go.Abs Go.Proofs
theorem Toe.mono {g g':List (List Lnk)} (hl:g.length=g'.length) (h:∀ (i:Nat) es x,g[i]?=some es→x∈es→∃ es',g'[i]?=some es'∧∃ y∈es',y.to=x.to) {j:Nat} (hr:Toe g j):Toe g' j:=by
 induction hr with
 | fin=>rw [hl];exact .fin
 | step h1 h2 h3 ih=>
   obtain ⟨es',e1,y,e2,e3⟩:=h _ _ _ h1 h2
   rw [← e3] at ih
   exact .step e1 e2 ih
end Go.Abs.Wall
namespace Go.Abs.Wall.Lst
open Go Go.Abs Go.Proofs Go.Abs.Wall
def onlyX (x:Lex) (keep:List Int):Lex:={ x with entries:=keep.map (entAt x) }
def onlyH (H:Hou) (keep:List Int):Hou:={ H with lex:=onlyX H.lex keep }
def reF (keep:List Int) (f:Frm):Frm:={ f with entry:=keep.getD f.entry.toNat 0 }
def reW (keep:List Int) (w:Wrd):Wrd:={ w with form:=reF keep w.form }
def reE (keep:List Int) (x:Edg):Edg:={ x with word:=reW keep x.word }
structure KeepOK (H:Hou) (keep:List Int):Prop where
 up:keep.Pairwise (·<·)
 inr:∀ k∈keep,0≤k∧k<H.lex.entries.length
theorem only_ent {x:Lex} {keep:List Int} {j:Int} (h0:0≤j) (h1:j<keep.length):entAt (onlyX x keep) j=entAt x (keep.getD j.toNat 0):=by
 obtain ⟨k,hk⟩:=get_lt (l:=keep) (i:=j.toNat) (by omega)
 rw [getD_of hk]
 unfold entAt onlyX
 simp only
 rw [List.getD_eq_getElem?_getD,List.getElem?_map,hk]
 rfl
theorem spGo_only (H:Hou) (keep:List Int) (e:Ent) (b:List UInt8) (cl:List Int):∀ (line:List Int) (us:List Use) (st:List Prg),spGo (onlyH H keep) ⟨onlyH H keep,e,b⟩ cl line us st=spGo H ⟨H,e,b⟩ cl line us st
 | n::t,u::us,st=>by
   rw [spGo,spGo,spGo_only H keep e b cl t us]
   rfl
 | [],us,st=>by cases us<;>rfl
 | n::t,[],st=>rfl
theorem spells_only {H:Hou} {keep:List Int} {line:List Int} {w:Wrd} (h0:0≤w.form.entry) (h1:w.form.entry<keep.length):spellsM (onlyH H keep) line w=spellsM H line (reW keep w):=by
 unfold spellsM
 have e1:spOf (onlyH H keep) w.form=⟨onlyH H keep,entAt H.lex (keep.getD w.form.entry.toNat 0),(spOf H (reW keep w).form).body⟩:=by
  have hE:entAt (onlyH H keep).lex w.form.entry=entAt H.lex (keep.getD w.form.entry.toNat 0):=only_ent h0 h1
  unfold spOf bodyM
  rw [hE]
  rfl
 rw [e1,spGo_only]
 rfl
theorem price_only {H:Hou} {keep:List Int} {w:Wrd} (h0:0≤w.form.entry) (h1:w.form.entry<keep.length) (hf:frmErr (onlyX H.lex keep) w.form=0) (hf2:frmErr H.lex (reF keep w.form)=0):priceM (onlyH H keep) w=priceM H (reW keep w):=by
 unfold priceM frmW
 show (if frmErr (onlyX H.lex keep) w.form=0 then wgtM (onlyX H.lex keep) w.form else 0)+_+_=_
 rw [if_pos hf,if_pos (show frmErr H.lex (reW keep w).form=0 from hf2)]
 show wgtM (onlyX H.lex keep) w.form+_+(if (!closes w.uses&&!decide ((entAt (onlyX H.lex keep) w.form.entry).cls=[]))=true then _ else _)=_
 unfold wgtM
 rw [only_ent h0 h1]
 rfl
theorem frm_only {H:Hou} {keep:List Int} (hk:KeepOK H keep) (h1:lexErr (onlyX H.lex keep)=0) (h2:lexErr H.lex=0) {f:Frm} :
  frmErr (onlyX H.lex keep) f=0↔(0≤f.entry∧f.entry<keep.length)∧frmErr H.lex (reF keep f)=0:=by
 have hl:(onlyX H.lex keep).entries.length=keep.length:=by unfold onlyX;simp
 by_cases hw:0≤f.entry∧f.entry<keep.length
 ·have ha:wthn f.entry 0 (((onlyX H.lex keep).entries.length:Int) - 1)=true:=wthn_iff.2 ⟨hw.1,by omega⟩
  have hm:keep.getD f.entry.toNat 0∈keep:=by
   obtain ⟨k,hk⟩:=get_lt (l:=keep) (i:=f.entry.toNat) (by omega)
   rw [getD_of hk];exact List.mem_of_getElem? hk
  have hr:=hk.inr _ hm
  have hb:wthn (reF keep f).entry 0 ((H.lex.entries.length:Int) - 1)=true:=wthn_iff.2 ⟨hr.1,by show keep.getD f.entry.toNat 0≤_;omega⟩
  have hbad:badEnd (onlyX H.lex keep) f=badEnd H.lex (reF keep f):=by
   unfold badEnd
   rw [only_ent hw.1 hw.2]
   rfl
  have e1:frmErr (onlyX H.lex keep) f=if badEnd (onlyX H.lex keep) f=true then 46 else if 3<f.clitics.length then 47 else if cliOK (onlyX H.lex keep).clitics.length f.clitics (-1)=true then 0 else 47:=by
   unfold frmErr
   rw [if_neg (by rw [h1];simp),if_neg (by rw [ha];decide)]
  have e2:frmErr H.lex (reF keep f)=if badEnd H.lex (reF keep f)=true then 46 else if 3<f.clitics.length then 47 else if cliOK H.lex.clitics.length f.clitics (-1)=true then 0 else 47:=by
   unfold frmErr
   rw [if_neg (by rw [h2];simp),if_neg (by rw [hb];decide)]
   rfl
  rw [e1,e2,hbad]
  exact ⟨fun h=>⟨hw,h⟩,fun h=>h.2⟩
 ·have ha:wthn f.entry 0 (((onlyX H.lex keep).entries.length:Int) - 1)=false:=by
   rw [Bool.eq_false_iff,ne_eq,wthn_iff]
   omega
  constructor
  ·intro h
   unfold frmErr at h
   rw [if_neg (by omega),if_pos ha] at h
   cases h
  ·intro h
   exact absurd h.1 hw
theorem edgs_only {H:Hou} {keep:List Int} (hk:KeepOK H keep) {line:List Int} (hL:LineOK H line) (hL':LineOK (onlyH H keep) line) (h1:lexErr (onlyX H.lex keep)=0) (h2:lexErr H.lex=0)
  {i:Nat} (hi:i≤line.length) {x:Edg}:x∈edgsAt (onlyH H keep) line i↔(0≤x.word.form.entry∧x.word.form.entry<keep.length)∧reE keep x∈edgsAt H line i:=by
 rw [edgsAt_iff hL' h1 hi,edgsAt_iff hL h2 hi]
 show (frmErr (onlyX H.lex keep) _=0∧_)∧_↔_∧(frmErr H.lex (reF keep x.word.form)=0∧i+x.word.uses.length≤line.length∧spellsM H ((line.drop i).take x.word.uses.length) (reW keep x.word)=true)∧reE keep x=edgOf H i (reW keep x.word)
 constructor
 ·rintro ⟨⟨a,b,c⟩,d⟩
  have hf:=(frm_only hk h1 h2).1 a
  rw [spells_only hf.1.1 hf.1.2] at c
  refine ⟨hf.1,⟨hf.2,b,c⟩,?_⟩
  have hp:=price_only hf.1.1 hf.1.2 a hf.2
  obtain ⟨fr,to,co,w⟩:=x
  unfold edgOf at d ⊢
  rw [hp] at d
  simp only [Edg.mk.injEq] at d
  obtain ⟨d1,d2,d3,-⟩:=d
  unfold reE
  simp only [Edg.mk.injEq]
  exact ⟨d1,d2,d3,by trivial⟩
 ·rintro ⟨hr,⟨a,b,c⟩,d⟩
  have hf:=(frm_only hk h1 h2).2 ⟨hr,a⟩
  refine ⟨⟨hf,b,by rw [spells_only hr.1 hr.2];exact c⟩,?_⟩
  have hp:=price_only hr.1 hr.2 hf a
  obtain ⟨fr,to,co,w⟩:=x
  unfold edgOf at d ⊢
  unfold reE at d
  simp only [Edg.mk.injEq] at d
  obtain ⟨d1,d2,d3,-⟩:=d
  rw [hp]
  simp only [Edg.mk.injEq]
  exact ⟨d1,d2,d3,by trivial⟩
theorem reE_inj {keep:List Int} (hu:keep.Pairwise (·<·)) {x y:Edg} (hx:0≤x.word.form.entry∧x.word.form.entry<keep.length) (hy:0≤y.word.form.entry∧y.word.form.entry<keep.length) (h:reE keep x=reE keep y):x=y:=by
 obtain ⟨a1,a2,a3,⟨⟨f1,f2,f3⟩,u⟩⟩:=x
 obtain ⟨b1,b2,b3,⟨⟨g1,g2,g3⟩,v⟩⟩:=y
 unfold reE reW reF at h
 simp only [Edg.mk.injEq,Wrd.mk.injEq,Frm.mk.injEq] at h hx hy ⊢
 obtain ⟨h1,h2,h3,⟨h4,h5,h6⟩,h7⟩:=h
 refine ⟨h1,h2,h3,⟨?_,h5,h6⟩,h7⟩
 obtain ⟨p,hp⟩:=get_lt (l:=keep) (i:=f1.toNat) (by omega)
 obtain ⟨q,hq⟩:=get_lt (l:=keep) (i:=g1.toNat) (by omega)
 rw [getD_of hp,getD_of hq] at h4
 subst h4
 rw [List.pairwise_iff_getElem] at hu
 obtain ⟨p1,p2⟩:=List.getElem?_eq_some_iff.1 hp
 obtain ⟨q1,q2⟩:=List.getElem?_eq_some_iff.1 hq
 rcases Nat.lt_trichotomy f1.toNat g1.toNat with h|h|h
 ·have:=hu _ _ p1 q1 h
  omega
 ·omega
 ·have:=hu _ _ q1 p1 h
  omega
theorem edgs_only_len {H:Hou} {keep:List Int} (hk:KeepOK H keep) {line:List Int} (hL:LineOK H line) (hL':LineOK (onlyH H keep) line) (h1:lexErr (onlyX H.lex keep)=0) (h2:lexErr H.lex=0)
  {i:Nat} (hi:i≤line.length):(edgsAt (onlyH H keep) line i).length≤(edgsAt H line i).length:=by
 have hn:((edgsAt (onlyH H keep) line i).map (reE keep)).Nodup:=by
  have hu:=edgsAt_up hL' i
  show List.Pairwise _ _
  rw [List.pairwise_map]
  refine List.Pairwise.imp_of_mem ?_ hu
  intro x y hx hy hxy e
  have:=reE_inj hk.up ((edgs_only hk hL hL' h1 h2 hi).1 hx).1 ((edgs_only hk hL hL' h1 h2 hi).1 hy).1 e
  subst this
  exact absurd hxy (zW.c.irr _)
 have:=nodup_sub_len hn fun y hy=>by
  obtain ⟨x,hx,rfl⟩:=List.mem_map.1 hy
  exact ((edgs_only hk hL hL' h1 h2 hi).1 hx).2
 rwa [List.length_map] at this
theorem sumL_le {a b:List (List Edg)} (hl:a.length=b.length) (h:∀ (i:Nat) x y,a[i]?=some x→b[i]?=some y→x.length≤y.length):sumL a≤sumL b:=by
 unfold sumL
 induction a generalizing b with
 | nil=>simp
 | cons x a ih=>
   cases b with
   | nil=>simp at hl
   | cons y b=>
     have h0:=h 0 x y rfl rfl
     have:=ih (b:=b) (by simpa using hl) fun i x y h1 h2=>h (i+1) x y (by simpa using h1) (by simpa using h2)
     simp only [List.map_cons,List.sum_cons]
     omega
theorem grow_only {H:Hou} {keep:List Int} (hk:KeepOK H keep) (h1:lexErr (onlyX H.lex keep)=0) {line:List Int} (hg:growErr H line=0) (hl':lineErr (onlyH H keep) line=0):growErr (onlyH H keep) line=0:=by
 obtain ⟨hL,hs,_⟩:=growOK hg
 have hL':=lineOK hl'
 have h2:=line_lex (grow_line hg)
 unfold growErr
 rw [if_neg (by omega),if_neg]
 have:=sumL_le (a:=graphM (onlyH H keep) line) (b:=graphM H line) (by rw [graphM_len,graphM_len]) fun i x y hx hy=>by
  have hi:=(List.getElem?_eq_some_iff.1 hx).1
  rw [graphM_len] at hi
  rw [graphM_get hi] at hx hy
  cases hx;cases hy
  exact edgs_only_len hk hL hL' h1 h2 (by omega)
 omega
end Go.Abs.Wall.Lst
