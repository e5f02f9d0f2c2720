/- What is proved: small laws for the walks of this seat, and contracts of its functions. No condition but those each theorem names. -/
import Derived.Test.YtddhcllidlclmaaGreatN35
set_option maxRecDepth 100000
set_option maxHeartbeats 2000000
set_option linter.unusedVariables false
set_option linter.unusedSimpArgs false
namespace Go.Abs.Wall.Lst
open Go Go.Abs Go.Proofs Go.Abs.Wall
theorem plcGo_mem {num i:Int} {p:Plc}:∀ {ws:List Wrd} {a:Int},p∈plcGo num i ws a→p.line=i∧∃ pre w post,ws=pre++w::post∧w.form.entry=num∧p.frm=a+(pre.map fun w=>(w.uses.length:Int)).sum∧p.to=p.frm+w.uses.length
 | [],a,h=>by cases h
 | w::t,a,h=>by
   rw [plcGo,List.mem_append] at h
   rcases h with h|h
   ·split at h
    ·rename_i hw
     rw [List.mem_singleton] at h
     subst h
     exact ⟨rfl,[],w,t,rfl,hw,by simp,rfl⟩
    ·cases h
   ·obtain ⟨h1,pre,v,post,h2,h3,h4,h5⟩:=plcGo_mem h
    refine ⟨h1,w::pre,v,post,by rw [h2];rfl,h3,?_,h5⟩
    rw [h4,List.map_cons,List.sum_cons]
    omega
theorem plcGo_some {num i:Int} {w:Wrd}:∀ {ws:List Wrd} {a:Int},w∈ws→w.form.entry=num→∃ p∈plcGo num i ws a,p.line=i
 | [],a,h,_=>by cases h
 | v::t,a,h,hw=>by
   rw [plcGo]
   rcases List.mem_cons.1 h with rfl|h
   ·rw [if_pos hw]
    exact ⟨_,List.mem_append_left _ (List.mem_singleton.2 rfl),rfl⟩
   ·obtain ⟨p,h1,h2⟩:=plcGo_some (a:=a+v.uses.length) h hw
    exact ⟨p,List.mem_append_right _ h1,h2⟩
theorem plcAll_mem {F:Hou} {num:Int} {p:Plc}:∀ {lines:List (List Int)} {i:Int},p∈plcAll F num lines i↔∃ (j:Nat) (l:List Int),lines[j]?=some l∧p∈plcGo num (i+j) (bestL F l).words 0
 | [],i=>by simp [plcAll]
 | x::t,i=>by
   rw [plcAll,List.mem_append,plcAll_mem (lines:=t) (i:=i+1)]
   constructor
   ·rintro (h|⟨j,l,h1,h2⟩)
    ·exact ⟨0,x,rfl,by simpa using h⟩
    ·exact ⟨j+1,l,by simpa using h1,by rw [show i+((j+1:Nat):Int)=i+1+j by omega];exact h2⟩
   ·rintro ⟨j,l,h1,h2⟩
    cases j with
    | zero=>
      simp at h1
      subst h1
      exact .inl (by simpa using h2)
    | succ j=>exact .inr ⟨j,l,by simpa using h1,by rw [show i+1+(j:Int)=i+((j+1:Nat):Int) by omega];exact h2⟩
theorem path_split {g:List (List Edg)} (hg:GOK g):∀ (pre:List Edg) (i:Nat) (x:Edg) (post:List Edg),PathG g i (pre++x::post)→∃ (j:Nat) (es:List Edg),(j:Int)=i+((pre.map (·.word)).map fun w=>(w.uses.length:Int)).sum∧g[j]?=some es∧x∈es
 | [],i,x,post,⟨es,h1,h2,_⟩=>⟨i,es,by simp,h1,h2⟩
 | y::pre,i,x,post,⟨es,h1,h2,h3⟩=>by
   have hy:=hg.edge i es h1 y h2
   have hto:=hy.to
   have hlo:=hy.lo
   obtain ⟨j,fs,h4,h5,h6⟩:=path_split hg pre y.to.toNat x post h3
   refine ⟨j,fs,?_,h5,h6⟩
   rw [h4,List.map_cons,List.map_cons,List.sum_cons]
   omega
structure PlcOK (H:Hou) (lines:List (List Int)) (e:Int) (p:Plc):Prop where
 line:0≤p.line∧p.line<lines.length
 frm:0≤p.frm∧p.frm<p.to
 word:∀ l,lines[p.line.toNat]?=some l→p.to≤l.length∧(wordsE H ((l.take p.to.toNat).drop p.frm.toNat) 0=2∨(wordsE H ((l.take p.to.toNat).drop p.frm.toNat) 0=0∧∃ y∈wordsLs H ((l.take p.to.toNat).drop p.frm.toNat) 0,y.to=p.to - p.frm∧y.word.form.entry=e))
theorem line_sub {H:Hou} {l:List Int} (h:lineErr H l=0) (a b:Nat):lineErr H ((l.take b).drop a)=0:=by
 unfold lineErr at h ⊢
 split at h
 ·rename_i h1;exact absurd h h1
 rename_i h1
 split at h
 ·cases h
 rename_i h2
 split at h
 ·cases h
 rename_i h3
 rw [if_neg h1,if_neg (by simp;omega),if_neg]
 intro h4
 obtain ⟨s,hs,h5⟩:=List.any_eq_true.1 h4
 exact h3 (List.any_eq_true.2 ⟨s,List.mem_of_mem_take (List.mem_of_mem_drop hs),h5⟩)
theorem plc_ok {H:Hou} {keep:List Int} (hk:KeepOK H keep) {lines:List (List Int)} (hg:∀ l∈lines,growErr H l=0) (hb:∀ l∈lines,listErr (onlyH H keep) l 1=0) {n:Nat} {e:Int} (hn:keep[n]?=some e) :
  ∀ p∈plcAll (onlyH H keep) n lines 0,PlcOK H lines e p:=by
 intro p hp
 obtain ⟨j,l,hl,hp⟩:=plcAll_mem.1 hp
 rw [Int.zero_add] at hp
 have hlm:=List.mem_of_getElem? hl
 have hjl:=(List.getElem?_eq_some_iff.1 hl).1
 have hgl:=hg l hlm
 have hgl':=grow_keep hk hgl
 obtain ⟨hL,_,_⟩:=growOK hgl
 obtain ⟨hL',_,hG⟩:=growOK hgl'
 have hx:=line_lex (grow_line hgl)
 obtain ⟨path,hw,hP⟩:=best_words (hb l hlm)
 obtain ⟨h1,pre,w,post,h2,h3,h4,h5⟩:=plcGo_mem hp
 rw [Int.zero_add] at h4
 rw [hw] at h2
 obtain ⟨epre,rest,hep,hpre,hrest⟩:=List.map_eq_append_iff.1 h2
 obtain ⟨x,epost,hr,hxw,hpost⟩:=List.map_eq_cons_iff.1 hrest
 subst hr
 subst hep
 obtain ⟨f,es,hf,hes,hxe⟩:=path_split hG epre 0 x epost hP
 rw [hpre,← h4] at hf
 have hfp:p.frm=(f:Int):=by omega
 obtain ⟨hfl,rfl⟩:=graph_mem hes
 have hxo:=hG.edge f _ hes x hxe
 have hto:=hxo.to
 have hhi:=hxo.hi
 have hlo:=hxo.lo
 rw [graphM_len] at hhi
 rw [hxw] at hto
 have hpt:p.to=x.to:=by rw [h5,hto,hfp]
 obtain ⟨hr1,hr2⟩:=(edgs_only hk hL hL' (lex_only hk hx) hx (by omega)).1 hxe
 obtain ⟨⟨f1,f2,f3⟩,f4⟩:=(edgsAt_iff hL hx (by omega)).1 hr2
 have hul:(reE keep x).word.uses.length=w.uses.length:=by rw [← hxw];rfl
 rw [hul] at f2 f3
 have hent:(reE keep x).word.form.entry=e:=by
  show keep.getD x.word.form.entry.toNat 0=e
  rw [hxw,h3]
  exact getD_of hn
 refine ⟨by rw [h1];omega,by omega,fun l2 hl2=>?_⟩
 rw [h1,Int.toNat_natCast,hl] at hl2
 cases hl2
 refine ⟨by omega,?_⟩
 obtain ⟨l',hl'⟩:∃ l',l'=(l.take p.to.toNat).drop p.frm.toNat:=⟨_,rfl⟩
 rw [← hl']
 have hle:lineErr H l'=0:=by rw [hl'];exact line_sub (grow_line hgl) _ _
 have hll:l'.length=w.uses.length:=by rw [hl',List.length_drop,List.length_take];omega
 unfold wordsE
 rw [if_neg (by omega),if_neg (by rw [show wthn 0 0 (l'.length:Int)=true from wthn_iff.2 ⟨by omega,by omega⟩];decide)]
 by_cases hm:2000<(edgsAt H l' (0:Int).toNat).length
 ·rw [if_pos hm];exact .inl rfl
 ·refine .inr ⟨by rw [if_neg hm],edgOf H 0 (reE keep x).word,?_,?_,hent⟩
  ·have hw0:wordsE H l' 0=0:=by
    unfold wordsE
    rw [if_neg (by omega),if_neg (by rw [show wthn 0 0 (l'.length:Int)=true from wthn_iff.2 ⟨by omega,by omega⟩];decide),if_neg hm]
   unfold wordsLs
   rw [if_pos hw0]
   refine (edgsAt_iff (lineOK hle) hx (by simp)).2 ⟨⟨f1,?_,?_⟩,rfl⟩
   ·show (0:Int).toNat+(reE keep x).word.uses.length≤l'.length
    rw [hul,hll]
    simp
   ·show spellsM H ((l'.drop (0:Int).toNat).take (reE keep x).word.uses.length) (reE keep x).word=true
    have:(l'.drop (0:Int).toNat).take (reE keep x).word.uses.length=(l.drop f).take w.uses.length:=by
     rw [hul,hl',show (0:Int).toNat=0 from rfl,List.drop_zero,hfp,Int.toNat_natCast,List.drop_take,List.take_take]
     congr 1
     omega
    rw [this]
    exact f3
  ·show ((0:Nat):Int)+(reE keep x).word.uses.length=p.to - p.frm
   rw [hul]
   omega
theorem plc_need {H:Hou} {keep:List Int} (hk:KeepOK H keep) {lines:List (List Int)} (hg:∀ l∈lines,growErr H l=0) (hb:∀ l∈lines,listErr (onlyH H keep) l 1=0) {n:Nat} {e:Int} (hn:keep[n]?=some e)
  {k:Int} (hkm:k∈needsM (corM H lines) (memW keep) e):∃ p∈plcAll (onlyH H keep) n lines 0,p.line=k:=by
 unfold needsM at hkm
 obtain ⟨i,hi,rfl⟩:=List.mem_map.1 hkm
 rw [List.mem_filter,List.mem_range,cor_len] at hi
 obtain ⟨l,hl⟩:=get_lt hi.1
 have hlm:=List.mem_of_getElem? hl
 have hgl:=hg l hlm
 have hgl':=grow_keep hk hgl
 have hnf:=hi.2
 unfold needsF at hnf
 rw [cor_get hl,Bool.and_eq_true,Bool.not_eq_true'] at hnf
 obtain ⟨path,hw,hP⟩:=best_words (hb l hlm)
 have hex:∃ w∈(bestL (onlyH H keep) l).words,w.form.entry=(n:Int):=by
  by_cases hx:∃ w∈(bestL (onlyH H keep) l).words,w.form.entry=(n:Int)
  ·exact hx
  ·exfalso
   have h1:Rch (lnks (graphM (onlyH H keep) l)) (but everyW n) (lnks (graphM (onlyH H keep) l)).length:=by
    refine path_rch path 0 hP (fun x hxp=>?_) .zero
    unfold but everyW
    rw [Bool.and_true,Bool.not_eq_true',decide_eq_false_iff_not]
    intro he
    exact hx ⟨x.word,by rw [hw];exact List.mem_map.2 ⟨x,hxp,rfl⟩,he⟩
   have h2:rdM (but everyW n) (lnksM (onlyH H keep) l)=true:=(rdM_iff (lnk_ok hgl')).2 h1
   rw [rd_only hk hgl (but_hw hk.up hn),and_but,hnf.2] at h2
   cases h2
 obtain ⟨w,hwm,hwe⟩:=hex
 obtain ⟨p,h1,h2⟩:=plcGo_some (i:=(i:Int)) (a:=0) hwm hwe
 exact ⟨p,plcAll_mem.2 ⟨i,l,hl,by rw [Int.zero_add];exact h1⟩,h2⟩
end Go.Abs.Wall.Lst
namespace Go.Abs.Wall.Lst
open Go Go.Abs Go.Proofs Go.Abs.Wall
def c3:Cfg:=⟨[0,1,2,4,5,6,7,8,9,10,11,12,13,14,15,16,17,18,19,22,31,38,54,62,68,89,93,132,153,186],[],[15],[],[(10,[0,1,2,3,4,5,6,7,8,9,10,11,12,13],[]),(20,[0,1,2,3,4,5,6,7,8,9,10,11,12,13,14,15,16,17],[]),(27,[0,1,2,3,4,5,6,7,8,9,10,11,12,13,14,15,16,17,18,19,20,21,22,23,24,25,26,27,28,29,30,31,32],[]),(29,[0,1,2,3,4,5,6,7,8,9,10,11,12,13,14,15,16],[]),(34,[0,1,2,3,4,5,6,7,8,9,10,11,12,13,14,15,16,17,18,19,20,21,22,23,24,25,26,27,28,29],[])],[]⟩
def hitW (p:Plc) (e:Int) (y:Edg):Bool:=decide (y.to=p.to - p.frm)&&decide (y.word.form.entry=e)
theorem inducePlacedL (H:Hou) (lines:List (List Int)) (hf:CorFit H lines):QCall Tryz.prog 3 [.agg (encHou H),.sl 1 none (lines.map encIs)] [] (.bool true):=by
 have hr:=indR_fit hf
 refine QCall.of' ?_
 refine fcalls (F:=Tryz.f3) c3 rfl rfl rfl mixed rfl fun X=>?_
 conv=>whnf
 repeat (refine QCall.k0 (heavyW H lines hf.lines) ?_;conv=>whnf)
 refine ⟨fun hq=>?_,fun hq=>?_⟩
 ·conv=>whnf
  repeat (refine QCall.k0 (worksI) ?_;conv=>whnf)
 by_cases h0:indErr H lines≠0
 ·conv=>whnf
  repeat (refine QCall.k0 (induceW H lines hf) ?_;conv=>whnf)
  refine cT (by simpa using h0) ?_
  conv=>whnf
  repeat (refine QCall.k0 (worksI) ?_;conv=>whnf)
 have h0:indErr H lines=0:=by omega
 have hi:=induceW H lines hf
 have hk:keptL H lines=ntr (indR H lines):=(ntr_ind h0).symm
 have hkl:(keptL H lines).length=(indR H lines).length:=by rw [hk,ntr_len]
 have hen:=lentriesW (indR H lines) hr.1
 rw [← hk] at hen
 have hc0:=ind_cor h0
 have hae:allB (corM H lines) everyW=true:=by
  unfold indErr at h0
  rw [if_neg (by omega)] at h0
  split at h0
  ·assumption
  ·cases h0
 have hgr:=(corErr_zero hc0).2.2
 have hko:KeepOK H (keptL H lines):=keepL_ok
 have hbe:begErr H lines (keptL H lines)=0:=by
  unfold begErr
  rw [if_neg (by omega),if_pos (risM_iff.2 ⟨hko.up,hko.inr⟩)]
 have hall:allB (corM H lines) (memW (keptL H lines))=true:=by
  unfold keptL
  rw [allB_mem (cor_ok hc0)]
  exact indGo_all _ everyW hae
 have hbest:=(best_all hko hgr).1 hall
 rw [h0] at hi
 conv=>whnf
 repeat (refine QCall.k0 (hi) ?_;conv=>whnf)
 refine cF rfl ?_
 conv=>whnf
 repeat (refine QCall.k0 (hen) ?_;conv=>whnf)
 obtain ⟨L,hL⟩:∃ L,L=indR H lines:=⟨_,rfl⟩
 rw [← hL] at hkl hr
 rw [← hL]
 refine sloop rfl mixed [1,2,5,7,8] [] (fun m r h=>∃ (i:Nat),r=[(1,[],.sl 1 none (lines.map encIs)),(2,[],.iptr (encHou H)),(5,[],.sl 2 none (L.map encNd)),(7,[],.sl 1 none (ints (keptL H lines))),(8,[],.int .i64 i)]∧h=[]∧m=L.length - i∧i≤L.length) ?_ ?_
 ·conv=>whnf
  exact ⟨_,0,rfl,rfl,rfl,by omega⟩
 ·rintro m r h ⟨i,rfl,rfl,rfl,hi2⟩
  conv=>whnf
  skip
  refine ⟨fun hi3=>?_,fun hi3=>?_⟩<;>simp at hi3
  ·obtain ⟨x,hx⟩:=get_lt hi3
   have hxf:=(hr.2 x (List.mem_of_getElem? hx)).lines
   obtain ⟨hke,hxl⟩:=getNd h0 (i:=i) (x:=x) (by rw [← hL];exact hx)
   have hmem:memW (keptL H lines) x.entry=true:=by unfold memW;rw [decide_eq_true_eq];exact List.mem_of_getElem? hke
   have hpe:plcErr H lines (keptL H lines) x.entry=0:=by rw [plcErr,if_neg (by omega),if_neg (by rw [hmem];decide),if_pos hall]
   have hnum:numOf (keptL H lines) x.entry=(i:Int):=by
    have h1:=numOf_get hko.up hmem hke
    rw [decide_eq_true rfl] at h1
    exact (of_decide_eq_true h1.symm).symm
   have hpl:plcL H lines (keptL H lines) x.entry=plcAll (onlyH H (keptL H lines)) i lines 0:=by rw [plcL,if_pos hpe,hnum]
   have hpa:=PlacesA H lines (keptL H lines) x.entry hf (by omega)
   rw [PlcP,hpe,hpl] at hpa
   have hok:=plc_ok hko hgr hbest hke
   have hneed:∀ k∈x.lines,∃ p∈plcAll (onlyH H (keptL H lines)) i lines 0,p.line=k:=by
    intro k hkm
    rw [hxl] at hkm
    refine plc_need hko hgr hbest hke ?_
    have:=needsM_mem (cor_ok hc0) (keptW H lines) x.entry
    show k∈needsM (corM H lines) (memW (keptL H lines)) x.entry
    unfold keptL
    rw [this]
    exact hkm
   have hpll:(plcAll (onlyH H (keptL H lines)) i lines 0).length≤62914560:=by
    have:=plcAll_len (onlyH H (keptL H lines)) i lines 0
    have:=hf.lines
    omega
   obtain ⟨P,hP⟩:∃ P,P=plcAll (onlyH H (keptL H lines)) i lines 0:=⟨_,rfl⟩
   rw [← hP] at hpa hok hneed hpll
   conv=>whnf
   repeat ((first|refine ix (by assumption) ?_|refine gcall (hpa) ?_|refine And.intro (by show drawOK (opsAt Tryz.f3 _) _=true;decide +kernel) ?_);conv=>whnf)
   refine cF rfl ?_
   conv=>whnf
   skip
   refine sloop rfl mixed [1,2,5,7,8,9,11] [] (fun m r h=>∃ (k:Nat),r=[(1,[],.sl 1 none (lines.map encIs)),(2,[],.iptr (encHou H)),(5,[],.sl 2 none (L.map encNd)),(7,[],.sl 1 none (ints (keptL H lines))),(8,[],.int .i64 i),(9,[],.sl 3 none (P.map encPlc)),(11,[],.int .i64 k)]∧h=[]∧m=x.lines.length - k∧k≤x.lines.length) ?_ ?_
   ·conv=>whnf
    exact ⟨_,0,rfl,rfl,rfl,by omega⟩
   ·rintro m r h ⟨k,rfl,rfl,rfl,hk2⟩
    conv=>whnf
    repeat (refine ix (by assumption) ?_;conv=>whnf)
    refine ⟨fun hk3=>?_,fun hk3=>?_⟩<;>rw [ints_length] at hk3<;>simp at hk3
    ·obtain ⟨ln,hln⟩:=get_lt hk3
     obtain ⟨p0,hp0,hpl0⟩:=hneed ln (List.mem_of_getElem? hln)
     conv=>whnf
     skip
     refine sloop rfl mixed [1,2,5,7,8,9,11,12,13] [] (fun m r h=>∃ (j:Nat) (b:Bool),r=[(1,[],.sl 1 none (lines.map encIs)),(2,[],.iptr (encHou H)),(5,[],.sl 2 none (L.map encNd)),(7,[],.sl 1 none (ints (keptL H lines))),(8,[],.int .i64 i),(9,[],.sl 3 none (P.map encPlc)),(11,[],.int .i64 k),(12,[],.bool b),(13,[],.int .i64 j)]∧h=[]∧m=P.length - j∧j≤P.length∧b=(P.take j).any fun p=>decide (p.line=ln)) ?_ ?_
     ·conv=>whnf
      exact ⟨_,0,false,rfl,rfl,rfl,by omega,rfl⟩
     ·rintro m r h ⟨j,b,rfl,rfl,rfl,hj,hb⟩
      conv=>whnf
      skip
      refine ⟨fun hj2=>?_,fun hj2=>?_⟩<;>simp at hj2
      ·obtain ⟨p,hp⟩:=get_lt hj2
       conv=>whnf
       repeat ((first|refine ⟨gP_of ⟨by omega,by omega⟩,?_⟩|refine ix (by assumption) ?_|refine And.intro (by show drawOK (opsAt Tryz.f3 _) _=true;decide +kernel) ?_);conv=>whnf)
       exact ⟨_,by omega,j+1,_,rfl,rfl,rfl,by omega,by rw [take_snoc hp,List.any_append,← hb];simp⟩
      ·have hbt:b=true:=by
        rw [hb,List.take_of_length_le hj2,List.any_eq_true]
        exact ⟨p0,hp0,by simpa using hpl0⟩
       rw [hbt]
       conv=>whnf
       skip
       refine cF rfl ?_
       conv=>whnf
       repeat (refine ⟨gP_of ⟨by omega,by omega⟩,?_⟩;conv=>whnf)
       exact ⟨_,by omega,k+1,rfl,rfl,rfl,by omega⟩
    ·conv=>whnf
     skip
     refine sloop rfl mixed [1,2,5,7,8,9,14] [] (fun m r h=>∃ (j:Nat),r=[(1,[],.sl 1 none (lines.map encIs)),(2,[],.iptr (encHou H)),(5,[],.sl 2 none (L.map encNd)),(7,[],.sl 1 none (ints (keptL H lines))),(8,[],.int .i64 i),(9,[],.sl 3 none (P.map encPlc)),(14,[],.int .i64 j)]∧h=[]∧m=P.length - j∧j≤P.length) ?_ ?_
     ·conv=>whnf
      exact ⟨_,0,rfl,rfl,rfl,by omega⟩
     ·rintro m r h ⟨j,rfl,rfl,rfl,hj⟩
      conv=>whnf
      skip
      refine ⟨fun hj2=>?_,fun hj2=>?_⟩<;>simp at hj2
      ·obtain ⟨p,hp⟩:=get_lt hj2
       have hpo:=hok p (List.mem_of_getElem? hp)
       obtain ⟨hq1,hq2⟩:=hpo.line
       obtain ⟨hq3,hq4⟩:=hpo.frm
       obtain ⟨l,hl⟩:=get_lt (l:=lines) (i:=p.line.toNat) (by omega)
       obtain ⟨hq5,hq6⟩:=hpo.word l hl
       have hlm:=hf.line l (List.mem_of_getElem? hl)
       conv=>whnf
       repeat ((first|refine ix (by assumption) ?_|(intro (b9:Nat))|(refine ixn (enc:=encIs) p.line.toNat (by show p.line=_;omega) hl ?_)|refine ⟨_,_,Rem.here _,⟨Nat.le_of_ble_eq_true rfl,rfl⟩,?_⟩|refine And.intro (by show drawOK (opsAt Tryz.f3 _) _=true;decide +kernel) ?_);conv=>whnf)
       refine cF (by rw [List.length_map,ints_length];simp;omega) ?_
       obtain ⟨l',hl'⟩:∃ l',l'=(l.take p.to.toNat).drop p.frm.toNat:=⟨_,rfl⟩
       have e1:((ints l).take p.to.toNat).drop p.frm.toNat=ints l':=by rw [hl'];unfold ints;rw [List.map_drop,List.map_take]
       rw [← hl'] at hq6
       have hl2:l'.length≤1048576:=by rw [hl',List.length_drop,List.length_take];omega
       have hW:=wordsX H l' 0 hf.hou hl2
       rw [← e1] at hW
       have hend:(decide (wordsE H l' 0=2)||(wordsLs H l' 0).any (hitW p x.entry))=true:=by
        rcases hq6 with h1|⟨_,y,h1,h2,h3⟩
        ·rw [h1];rfl
        ·rw [Bool.or_eq_true]
         refine .inr (List.any_eq_true.2 ⟨y,h1,?_⟩)
         unfold hitW
         rw [h2,h3]
         simp
       have hwl:(wordsLs H l' 0).length≤2000:=by
        by_cases h9:wordsE H l' 0=0
        ·have h8:=h9
         unfold wordsE at h8
         unfold wordsLs
         rw [if_pos h9]
         split at h8
         ·rename_i h6;exact absurd h8 h6
         split at h8
         ·cases h8
         split at h8
         ·cases h8
         ·omega
        ·unfold wordsLs
         rw [if_neg h9]
         simp
       obtain ⟨W,hWe⟩:∃ W,W=wordsLs H l' 0:=⟨_,rfl⟩
       rw [← hWe] at hW hend hwl
       conv=>whnf
       repeat ((first|(refine ⟨gP_of ⟨by omega,by omega,by rw [ints_length];omega⟩,?_⟩)|(refine ixn (enc:=encIs) p.line.toNat (by show p.line=_;omega) hl ?_)|refine gcall (hW) ?_|refine And.intro (by show drawOK (opsAt Tryz.f3 _) _=true;decide +kernel) ?_);conv=>whnf)
       refine sloop rfl mixed [1,2,5,7,8,9,14,15,16,18,19] [] (fun m r h=>∃ (n:Nat) (b:Bool),r=[(1,[],.sl 1 none (lines.map encIs)),(2,[],.iptr (encHou H)),(5,[],.sl 2 none (L.map encNd)),(7,[],.sl 1 none (ints (keptL H lines))),(8,[],.int .i64 i),(9,[],.sl 3 none (P.map encPlc)),(14,[],.int .i64 j),(15,[],.iptr (encPlc p)),(16,[],.sl 7 none (W.map encEdg)),(18,[],.bool b),(19,[],.int .i64 n)]∧h=[]∧m=W.length - n∧n≤W.length∧b=(decide (wordsE H l' 0=2)||(W.take n).any (hitW p x.entry))) ?_ ?_
       ·conv=>whnf
        exact ⟨_,0,_,rfl,rfl,rfl,by omega,by simp⟩
       ·rintro m r h ⟨n,b,rfl,rfl,rfl,hn,hb⟩
        conv=>whnf
        skip
        refine ⟨fun hn2=>?_,fun hn2=>?_⟩<;>simp at hn2
        ·obtain ⟨y,hy⟩:=get_lt hn2
         conv=>whnf
         repeat ((first|refine ⟨gP_of ⟨by omega,by omega⟩,?_⟩|refine ix (by assumption) ?_|refine And.intro (by show drawOK (opsAt Tryz.f3 _) _=true;decide +kernel) ?_);conv=>whnf)
         exact ⟨_,by omega,n+1,_,rfl,rfl,rfl,by omega,by rw [take_snoc hy,List.any_append,← Bool.or_assoc,← hb];simp [hitW]⟩
        ·rw [List.take_of_length_le hn2,hend] at hb
         rw [hb]
         conv=>whnf
         skip
         refine cF rfl ?_
         conv=>whnf
         repeat (refine ⟨gP_of ⟨by omega,by omega⟩,?_⟩;conv=>whnf)
         exact ⟨_,by omega,j+1,rfl,rfl,rfl,by omega⟩
      ·conv=>whnf
       repeat (refine ⟨gP_of ⟨by omega,by omega⟩,?_⟩;conv=>whnf)
       exact ⟨_,by omega,i+1,rfl,rfl,rfl,by omega⟩
  ·conv=>whnf
   repeat (refine QCall.k0 (worksI) ?_;conv=>whnf)
end Go.Abs.Wall.Lst
