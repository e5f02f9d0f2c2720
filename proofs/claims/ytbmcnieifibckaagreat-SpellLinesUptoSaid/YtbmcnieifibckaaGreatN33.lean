/- What is proved: small laws for the walks of this seat, and contracts of its functions. No condition but those each theorem names. -/
import Derived.Test.YtbmcnieifibckaaGreatN31
set_option maxRecDepth 100000
set_option maxHeartbeats 2000000
set_option linter.unusedVariables false
set_option linter.unusedSimpArgs false
namespace Go.Abs.Wall.Spl
open Go Go.Abs Go.Proofs Go.Abs.Wall Go.Proofs.YtbmcnieifibckaaGreat.Br
def linE (H:Hou) (B:Hab):List Frm→Int
 | []=>0
 | f::t=>if listE H B f 1≠0 then listE H B f 1 else linE H B t
def linS (H:Hou) (B:Hab) (l:List Frm):List Int:=(l.map fun f=>(bestS H B f).signs).flatten
def linC (H:Hou) (B:Hab) (l:List Frm):Int:=(l.map fun f=>(bestS H B f).cost).sum
def lineE (H:Hou) (B:Hab) (l:List Frm):Int:=if habErr H B≠0 then habErr H B else if 60<l.length then 2 else if linE H B l≠0 then linE H B l else if 60<(linS H B l).length then 2 else 0
def lineS (H:Hou) (B:Hab) (l:List Frm):List Int:=if lineE H B l=0 then linS H B l else []
def lineC (H:Hou) (B:Hab) (l:List Frm):Int:=if lineE H B l=0 then linC H B l else 0
theorem linS_snoc {H:Hou} {B:Hab} {l:List Frm} {i:Nat} {f:Frm} (h:l[i]?=some f):linS H B (l.take (i+1))=linS H B (l.take i)++(bestS H B f).signs:=by
 unfold linS
 rw [take_snoc h,List.map_append,List.flatten_append]
 simp
theorem linC_snoc {H:Hou} {B:Hab} {l:List Frm} {i:Nat} {f:Frm} (h:l[i]?=some f):linC H B (l.take (i+1))=linC H B (l.take i)+(bestS H B f).cost:=by
 unfold linC
 rw [take_snoc h,List.map_append,List.sum_append]
 simp
theorem bestS_cost (H:Hou) (B:Hab) (f:Frm):0≤(bestS H B f).cost∧(bestS H B f).cost≤1000000:=by
 unfold bestS
 cases hl:listS H B f 1 with
 | nil=>exact ⟨by decide,by decide⟩
 | cons x t=>
   have hx:x∈listS H B f 1:=by rw [hl];exact List.mem_cons_self ..
   show 0≤x.cost∧x.cost≤1000000
   unfold listS at hx
   split at hx
   ·rename_i h
    unfold listE at h
    split at h
    ·rename_i h1;exact absurd h h1
    rename_i h1
    obtain ⟨h2,h3,h4⟩:=beg_ok (H:=H) (B:=B) (f:=f) (by omega)
    have hE:=env_ok h2 h3 (frmOK h4)
    unfold splsOf at hx
    obtain ⟨w,hw,rfl⟩:=List.mem_map.1 hx
    have h5:=way_bound hE _ st0 st0_ok rfl w (List.mem_of_mem_take hw)
    have h6:(12 - st0.n).toNat=12:=rfl
    show 0≤w.cost / 16∧w.cost / 16≤1000000
    omega
   ·cases hx
theorem linS_len (H:Hou) (B:Hab):∀ l:List Frm,(linS H B l).length≤12*l.length
 | []=>Nat.le_refl _
 | f::t=>by
   have h1:=linS_len H B t
   have h2:=(bestS_short H B f).1
   unfold linS at h1 ⊢
   rw [List.map_cons,List.flatten_cons,List.length_append,List.length_cons]
   omega
theorem linC_in (H:Hou) (B:Hab):∀ l:List Frm,0≤linC H B l∧linC H B l≤1000000*l.length
 | []=>by simp [linC]
 | f::t=>by
   have h1:=linC_in H B t
   have h2:=bestS_cost H B f
   unfold linC at h1 ⊢
   rw [List.map_cons,List.sum_cons,List.length_cons]
   push_cast
   omega
def c28:Cfg:=⟨[0,1,2,3,4,6,7,8,9,11,12,13,18,22,23,24,25,26,37,50],[],[11,12],[],[],[]⟩
def c29:Cfg:=⟨[0,1,2,3,4,6,7,8,9,10,11,12,13,14,19,23,27,41,53],[],[13],[],[(11,[0,1,2,3,4,5,6,7,8,9,10,11,12],[13])],[]⟩
def c6:Cfg:=⟨[0,1,2,3,4,6,7,8,9,10,11,12,24],[],[],[],[],[]⟩
theorem spLineW (H:Hou) (B:Hab) (l:List Frm) (hh:HouFit H) (hB:HabFit B) (hl:l.length≤1048576) (hfl:∀ f∈l,f.clitics.length≤1048576) :
  QCall Tryz.prog 28 [.agg (encHou H),.agg (encHab B),.sl 3 none (l.map encFrm)] [] (.tup [.sl 1 none (ints (lineS H B l)),.int .i64 (lineC H B l),.int .i64 (lineE H B l)]):=by
 refine QCall.of ?_
 refine fcalls (F:=Tryz.f28) c28 rfl rfl rfl mixed rfl fun X=>?_
 conv=>whnf
 repeat (refine QCall.k0 (spCheckHab H B hh hB) ?_;conv=>whnf)
 refine ⟨fun h0=>?_,fun h0=>?_⟩<;>simp at h0
 ·have he:lineE H B l=habErr H B:=by unfold lineE;rw [if_pos h0]
  unfold lineS lineC
  rw [he,if_neg h0,if_neg h0]
  conv=>whnf
  skip
  exact VLe.tup (.cons (VLe.nil (by decide)) (.cons (VLe.refl _) (.cons (VLe.refl _) .nil)))
 conv=>whnf
 skip
 refine ⟨fun h1=>?_,fun h1=>?_⟩<;>simp at h1
 ·have he:lineE H B l=2:=by unfold lineE;rw [if_neg (by omega),if_pos (by omega)]
  unfold lineS lineC
  rw [he,if_neg (by decide),if_neg (by decide)]
  conv=>whnf
  skip
  exact VLe.tup (.cons (VLe.nil (by decide)) (.cons (VLe.refl _) (.cons (VLe.refl _) .nil)))
 have he0:lineE H B l=if linE H B l≠0 then linE H B l else if 60<(linS H B l).length then 2 else 0:=by unfold lineE;rw [if_neg (by omega),if_neg (by omega)]
 conv=>whnf
 skip
 refine tloop rfl mixed [3,4,6,7,23,24,25] [(6,1)] (fun m r h=>∃ (i:Nat) (q:Nat),r=[(3,[],.iptr (encHou H)),(4,[],.iptr (encHab B)),(6,[],.sl 1 (some q) (ints (linS H B (l.take i)))),(7,[],.int .i64 (linC H B (l.take i))),(23,[],.sl 3 none (l.map encFrm)),(24,[],.int .i64 (l.map encFrm).length),(25,[],.int .i64 i)]∧h=(q,.tok)::[]∧m=l.length - i∧i≤l.length∧linE H B l=linE H B (l.drop i)) ?_ ?_
 ·conv=>whnf
  refine ⟨by decide,fun q=>?_⟩
  conv=>whnf
  exact ⟨_,_,Turn.refl _ _,_,0,q,rfl,rfl,rfl,by omega,rfl⟩
 ·rintro m r h' ⟨i,q,rfl,rfl,rfl,hi,hg⟩
  have hsl:=linS_len H B (l.take i)
  have hcl:=linC_in H B (l.take i)
  rw [List.length_take] at hsl hcl
  have hil:(ints (linS H B (l.take i))).length≤720:=by rw [ints_length];omega
  conv=>whnf
  refine ⟨fun hz=>?_,fun hz=>?_⟩<;>simp at hz
  ·obtain ⟨f,hfx⟩:=get_lt hz
   have hff:=hfl f (List.mem_of_getElem? hfx)
   have hbc:=bestS_cost H B f
   have hbs:=bestS_short H B f
   have hib:(ints (bestS H B f).signs).length≤12:=by rw [ints_length];exact hbs.1
   rw [drop_cons hfx,linE] at hg
   conv=>whnf
   repeat ((first|refine ix (by assumption) ?_|refine QCall.k0 (spBestW H B f hh hB (by unfold LMAX;omega)) ?_|refine ⟨_,_,Rem.here _,⟨Nat.le_of_ble_eq_true rfl,rfl⟩,?_⟩|intro (nb:Nat));conv=>whnf)
   refine ⟨fun h2=>?_,fun h2=>?_⟩<;>simp at h2
   ·rw [if_pos h2] at hg
    have he:lineE H B l=listE H B f 1:=by rw [he0,hg,if_pos h2]
    unfold lineS lineC
    rw [he,if_neg h2,if_neg h2]
    conv=>whnf
    skip
    exact VLe.tup (.cons (VLe.nil (by decide)) (.cons (VLe.refl _) (.cons (VLe.refl _) .nil)))
   ·rw [if_neg (by omega)] at hg
    conv=>whnf
    repeat ((first|refine ⟨gP_of ⟨by omega,by omega⟩,?_⟩|(refine ⟨(by rw [List.length_append];unfold AMAX;omega),fun q'=>⟨_,.here _,?_⟩⟩));conv=>whnf)
    refine ⟨_,_,Turn.refl _ _,_,(by omega),i+1,q',?_,rfl,rfl,by omega,hg⟩
    rw [linS_snoc hfx,linC_snoc hfx]
    unfold ints
    rw [List.map_append]
    rfl
  ·have hie:i=l.length:=by omega
   subst hie
   rw [List.drop_length] at hg
   have hg:linE H B l=0:=hg
   rw [hg,if_neg (by decide)] at he0
   rw [List.take_length]
   conv=>whnf
   skip
   refine ⟨fun h3=>?_,fun h3=>?_⟩<;>simp [ints_length] at h3
   ·have he:lineE H B l=2:=by rw [he0,if_pos (by omega)]
    unfold lineS lineC
    rw [he,if_neg (by decide),if_neg (by decide)]
    conv=>whnf
    skip
    exact VLe.tup (.cons (VLe.nil (by decide)) (.cons (VLe.refl _) (.cons (VLe.refl _) .nil)))
   ·have he:lineE H B l=0:=by rw [he0,if_neg (by omega)]
    unfold lineS lineC
    rw [he,if_pos rfl,if_pos rfl]
    conv=>whnf
    skip
    exact VLe.tup (.cons VLe.sl (.cons (VLe.refl _) (.cons (VLe.refl _) .nil)))
theorem r7LineW (H:Hou) (B:Hab) (l:List Frm) (hh:HouFit H) (hB:HabFit B) (hl:l.length≤1048576) (hfl:∀ f∈l,f.clitics.length≤1048576) :
  QCall Tryz.prog 29 [.agg (encHou H),.agg (encHab B),.sl 3 none (l.map encFrm)] [] (.tup [.sl 1 none (ints (lineS H B l)),.int .i64 (lineC H B l),.int .i64 (lineE H B l)]):=by
 refine QCall.of ?_
 refine fcalls (F:=Tryz.f29) c29 rfl rfl rfl mixed rfl fun X=>?_
 conv=>whnf
 repeat (refine QCall.k0 (r7CheckHab H B hh hB) ?_;conv=>whnf)
 refine ⟨fun h0=>?_,fun h0=>?_⟩<;>simp at h0
 ·have he:lineE H B l=habErr H B:=by unfold lineE;rw [if_pos h0]
  unfold lineS lineC
  rw [he,if_neg h0,if_neg h0]
  conv=>whnf
  skip
  exact VLe.tup (.cons (VLe.nil (by decide)) (.cons (VLe.refl _) (.cons (VLe.refl _) .nil)))
 conv=>whnf
 skip
 refine ⟨fun h1=>?_,fun h1=>?_⟩<;>simp at h1
 ·have he:lineE H B l=2:=by unfold lineE;rw [if_neg (by omega),if_pos (by omega)]
  unfold lineS lineC
  rw [he,if_neg (by decide),if_neg (by decide)]
  conv=>whnf
  skip
  exact VLe.tup (.cons (VLe.nil (by decide)) (.cons (VLe.refl _) (.cons (VLe.refl _) .nil)))
 have he0:lineE H B l=if linE H B l≠0 then linE H B l else if 60<(linS H B l).length then 2 else 0:=by unfold lineE;rw [if_neg (by omega),if_neg (by omega)]
 conv=>whnf
 skip
 refine tloop rfl mixed [2,3,4,10,11,12] [(10,1)] (fun m r h=>∃ (i:Nat) (q:Nat),r=[(2,[],.sl 3 none (l.map encFrm)),(3,[],.iptr (encHou H)),(4,[],.iptr (encHab B)),(10,[],.sl 1 (some q) (ints (linS H B (l.take i)))),(11,[],.int .i64 (linC H B (l.take i))),(12,[],.int .i64 i)]∧h=(q,.tok)::[]∧m=l.length - i∧i≤l.length∧linE H B l=linE H B (l.drop i)) ?_ ?_
 ·conv=>whnf
  refine ⟨by decide,fun q=>?_⟩
  conv=>whnf
  exact ⟨_,_,Turn.refl _ _,_,0,q,rfl,rfl,rfl,by omega,rfl⟩
 ·rintro m r h' ⟨i,q,rfl,rfl,rfl,hi,hg⟩
  have hsl:=linS_len H B (l.take i)
  have hcl:=linC_in H B (l.take i)
  rw [List.length_take] at hsl hcl
  have hil:(ints (linS H B (l.take i))).length≤720:=by rw [ints_length];omega
  conv=>whnf
  refine ⟨fun hz=>?_,fun hz=>?_⟩<;>simp at hz
  ·obtain ⟨f,hfx⟩:=get_lt hz
   have hff:=hfl f (List.mem_of_getElem? hfx)
   have hbc:=bestS_cost H B f
   have hbs:=bestS_short H B f
   have hib:(ints (bestS H B f).signs).length≤12:=by rw [ints_length];exact hbs.1
   rw [drop_cons hfx,linE] at hg
   conv=>whnf
   repeat ((first|refine ix (by assumption) ?_|refine gcall (r7Best H B f hh hB (by unfold LMAX;omega)) ?_|refine ⟨_,_,Rem.here _,?_⟩|refine ⟨_,_,.here _,leOK,?_⟩|refine And.intro (by show drawOK (opsAt Tryz.f29 _) _=true;decide +kernel) ?_|intro (nb:Nat));conv=>whnf)
   refine ⟨fun h2=>?_,fun h2=>?_⟩<;>simp at h2
   ·rw [if_pos h2] at hg
    have he:lineE H B l=listE H B f 1:=by rw [he0,hg,if_pos h2]
    unfold lineS lineC
    rw [he,if_neg h2,if_neg h2]
    conv=>whnf
    skip
    exact VLe.tup (.cons (VLe.nil (by decide)) (.cons (VLe.refl _) (.cons (VLe.refl _) .nil)))
   ·rw [if_neg (by omega)] at hg
    conv=>whnf
    repeat ((first|refine ⟨gP_of ⟨by omega,by omega⟩,?_⟩|(refine ⟨(by rw [List.length_append];unfold AMAX;omega),fun q'=>⟨_,.here _,?_⟩⟩));conv=>whnf)
    refine ⟨_,_,Turn.refl _ _,_,(by omega),i+1,q',?_,rfl,rfl,by omega,hg⟩
    rw [linS_snoc hfx,linC_snoc hfx]
    unfold ints
    rw [List.map_append]
    rfl
  ·have hie:i=l.length:=by omega
   subst hie
   rw [List.drop_length] at hg
   have hg:linE H B l=0:=hg
   rw [hg,if_neg (by decide)] at he0
   rw [List.take_length]
   conv=>whnf
   skip
   refine ⟨fun h3=>?_,fun h3=>?_⟩<;>simp [ints_length] at h3
   ·have he:lineE H B l=2:=by rw [he0,if_pos (by omega)]
    unfold lineS lineC
    rw [he,if_neg (by decide),if_neg (by decide)]
    conv=>whnf
    skip
    exact VLe.tup (.cons (VLe.nil (by decide)) (.cons (VLe.refl _) (.cons (VLe.refl _) .nil)))
   ·have he:lineE H B l=0:=by rw [he0,if_neg (by omega)]
    unfold lineS lineC
    rw [he,if_pos rfl,if_pos rfl]
    conv=>whnf
    skip
    exact VLe.tup (.cons VLe.sl (.cons (VLe.refl _) (.cons (VLe.refl _) .nil)))
theorem spellLinesL (H:Hou) (B:Hab) (l:List Frm) (hf:HouFit H) (hB:HabFit B) (hl:l.length≤1048576) (hc:∀ f∈l,f.clitics.length≤1048576):QCall Tryz.prog 6 [.agg (encHou H),.agg (encHab B),.sl 3 none (l.map encFrm)] [] (.bool true):=by
 have hs:(lineS H B l).length≤13000000:=by
  have:=linS_len H B l
  unfold lineS
  split
  ·omega
  ·simp
 have hsi:=sameInts (lineS H B l) (lineS H B l) (by unfold LMAX;omega) (by unfold LMAX;omega)
 refine fcalls (F:=Tryz.f6) c6 rfl rfl rfl mixed rfl fun X=>?_
 conv=>whnf
 repeat (refine QCall.k0 (heavyNil H) ?_;conv=>whnf)
 refine ⟨fun h0=>?_,fun h0=>?_⟩
 ·conv=>whnf
  repeat (refine QCall.k0 (spWorks) ?_;conv=>whnf)
  exact ⟨rfl,rfl⟩
 conv=>whnf
 repeat ((first|refine QCall.k0 (spLineW H B l hf hB hl hc) ?_|refine QCall.k0 (r7LineW H B l hf hB hl hc) ?_|refine gcall (hsi) ?_|refine gcall (spWorks) ?_);conv=>whnf)
 exact ⟨congrArg AV.bool (by simp),rfl⟩
end Go.Abs.Wall.Spl
