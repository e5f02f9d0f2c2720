/- What is proved: small laws for the walks of this seat, and contracts of its functions. No condition but those each theorem names. -/
import Derived.Test.YtbmcnieifibckaaGreatN9
import Derived.Test.YtbmcnieifibckaaGreatN7
import Derived.Test.YtbmcnieifibckaaGreatN10
set_option maxRecDepth 100000
set_option maxHeartbeats 2000000
set_option linter.unusedVariables false
set_option linter.unusedSimpArgs false
namespace Go.Abs.Wall
open Go Go.Abs Go.Proofs
structure Vld where
 cost:Int
 at_:Int
 err:Int
deriving DecidableEq
def useBad (H:Hou) (line:List Int) (w:Wrd):Bool:=decide ((line.length:Int)<w.uses.length)||!spellsM H (line.take w.uses.length) w
def validGo (H:Hou):List Int→List Wrd→Int→Int→Vld
 | line,[],c,i=>if 0<line.length then ⟨0,i,52⟩ else ⟨c,0,0⟩
 | line,w::t,c,i=>if frmErr H.lex w.form≠0 then ⟨0,i,frmErr H.lex w.form⟩ else if useBad H line w=true then ⟨0,i,51⟩ else validGo H (line.drop w.uses.length) t (c+priceM H w) (i+1)
def validM (H:Hou) (line:List Int) (ws:List Wrd):Vld:=if lineErr H line≠0 then ⟨0,0,lineErr H line⟩ else validGo H line ws 0 0
theorem spells_len {H:Hou} {line:List Int} {w:Wrd} (h:spellsM H line w=true):1≤w.uses.length∧w.uses.length≤12∧line.length=w.uses.length:=by
 unfold spellsM at h
 rw [Bool.and_eq_true,Bool.and_eq_true,wthn_iff,decide_eq_true_eq] at h
 omega
end Go.Abs.Wall
namespace Go.Abs.Wall
open Go Go.Abs Go.Proofs
structure EdgOK (n i:Nat) (x:Edg):Prop where
 to:x.to=i+x.word.uses.length
 lo:(i:Int)<x.to
 hi:x.to≤n
 cost:0≤x.cost∧x.cost≤18000
 fit:WrdFit x.word
structure GOK (g:List (List Edg)):Prop where
 few:g.length≤60
 many:∀ (i:Nat) es,g[i]?=some es→es.length≤2000
 edge:∀ (i:Nat) es,g[i]?=some es→∀ x∈es,EdgOK g.length i x
theorem graphM_len (H:Hou) (line:List Int):(graphM H line).length=line.length:=by simp [graphM]
theorem graphM_get {H:Hou} {line:List Int} {i:Nat} (hi:i<line.length):(graphM H line)[i]?=some (edgsAt H line i):=by rw [graphM,List.getElem?_map,List.getElem?_range hi];rfl
theorem growOK {H:Hou} {line:List Int} (h:growErr H line=0):LineOK H line∧sumL (graphM H line)≤2000∧GOK (graphM H line):=by
 unfold growErr at h
 split at h
 ·rename_i h1;exact absurd h h1
 rename_i h1
 split at h
 ·cases h
 rename_i h2
 have hL:=lineOK (H:=H) (line:=line) (by simpa using h1)
 refine ⟨hL,by omega,⟨by rw [graphM_len];exact hL.few,fun i es hes=>?_,fun i es hes x hx=>?_⟩⟩
 ·have h3:=sumL_take (g:=graphM H line) (i+1)
  rw [take_snoc hes,sumL_snoc] at h3
  omega
 ·have hi:i<line.length:=by have:=(List.getElem?_eq_some_iff.1 hes).1;rwa [graphM_len] at this
  rw [graphM_get hi] at hes
  cases hes
  obtain ⟨ha,hb,hc⟩:=edgsAt_mem hL.hou hL.signs (by omega) x hx
  have:=ha.to
  have:=ha.some
  have h5:=ha.cl
  have h6:=ha.few
  exact ⟨ha.to,by omega,by rw [graphM_len];omega,hc,⟨by omega,by omega⟩⟩
def graphL (H:Hou) (line:List Int):List (List Edg):=if growErr H line=0 then graphM H line else []
def c97:Cfg:=⟨[0,1,2,4,5,6,7,8,9,10,11,12,16,23,31,43],[],[],[],[],[]⟩
theorem refGraph (H:Hou) (line:List Int) (hf:HouFit H) (hl:line.length≤1048576) :
  QCall Tryz.prog 97 [.agg (encHou H),.sl 1 none (ints line)] [] (.tup [.sl 1 none ((graphL H line).map encEdgs),.int .i64 (growErr H line)]):=by
 refine QCall.of ?_
 refine fcalls (F:=Tryz.f97) c97 rfl rfl rfl mixed rfl fun X=>?_
 conv=>whnf
 repeat (refine QCall.k0 (refHouse H hf) ?_;conv=>whnf)
 refine ⟨fun h0=>?_,fun h0=>?_⟩<;>simp at h0
 ·have h1:lineErr H line=houErr H:=by rw [lineErr,if_pos h0]
  have he:growErr H line=houErr H:=by rw [growErr,h1,if_pos h0]
  conv=>whnf
  skip
  rw [graphL,he,if_neg h0]
  exact VLe.tup (.cons (VLe.nil (by decide)) (.cons (VLe.refl _) .nil))
 conv=>whnf
 repeat (refine QCall.k0 (refLineH hf h0 (line:=line) (by unfold LMAX;omega)) ?_;conv=>whnf)
 refine ⟨fun h1=>?_,fun h1=>?_⟩<;>simp at h1
 ·have he:growErr H line=lineErr H line:=by rw [growErr,if_pos h1]
  conv=>whnf
  skip
  rw [graphL,he,if_neg h1]
  exact VLe.tup (.cons (VLe.nil (by decide)) (.cons (VLe.refl _) .nil))
 have hL:=lineOK h1
 have hfew:=hL.few
 have hg:growErr H line=if 2000<sumL (graphM H line) then 2 else 0:=by rw [growErr,if_neg (by omega)]
 obtain ⟨G,hG⟩:∃ G,G=graphM H line:=⟨_,rfl⟩
 have hGl:G.length=line.length:=by rw [hG];exact graphM_len H line
 have hGi:∀ i,i<line.length→G[i]?=some (edgsAt H line i):=fun i hi=>by rw [hG];exact graphM_get hi
 rw [← hG] at hg
 conv=>whnf
 repeat (refine QCall.k0 (refTable H line hf hL) ?_;conv=>whnf)
 refine tloop rfl mixed [1,2,8,9,10,11] [] (fun m r h=>∃ (i:Nat) (v:AV) (hp:Heap),r=[(1,[],.sl 1 none (ints line)),(2,[],.iptr (encHou H)),(8,[],.sl 1 none ((line.map (usesAt H)).map encUses)),(9,[],v),(10,[],.int .i64 (sumL (G.take i):Nat)),(11,[],.int .i64 i)]∧h=hp∧m=line.length - i∧i≤line.length∧sumL (G.take i)≤2000∧Out 1 encEdgs (G.take i) v hp) ?_ ?_
 ·conv=>whnf
  exact ⟨_,_,Turn.refl _ _,_,0,_,[],by simp [sumL],rfl,rfl,by omega,by simp [sumL],.inl ⟨by simp,rfl,rfl⟩⟩
 ·rintro m r h' ⟨i,v,hp,rfl,rfl,rfl,hi,hsum,ho⟩
  conv=>whnf
  skip
  refine ⟨fun hi2=>?_,fun hi2=>?_⟩<;>simp at hi2
  ·have hgi:=hGi i hi2
   have htk:=take_snoc hgi
   have hsn:sumL (G.take (i+1))=sumL (G.take i)+(edgsAt H line i).length:=by rw [htk,sumL_snoc]
   have hst:=sumL_take (g:=G) (i+1)
   have hq:=refWordsQ H (line.map (usesAt H)) i (tabW_line hf hL (by omega))
   by_cases hb:(edgsAt H line i).length≤2000
   ·rw [refWords_fits hb] at hq
    have hel:((edgsAt H line i).map encEdg).length=(edgsAt H line i).length:=List.length_map _
    by_cases hbig:2000<sumL (G.take (i+1))
    ·have he:growErr H line=2:=by rw [hg,if_pos (by omega)]
     conv=>whnf
     repeat ((first|refine ⟨gP_of ⟨by omega,by omega⟩,?_⟩|refine QCall.k0 (hq) ?_);conv=>whnf)
     refine cT (by simp;omega) ?_
     conv=>whnf
     skip
     rw [graphL,he,if_neg (by decide)]
     exact VLe.tup (.cons (VLe.nil (by decide)) (.cons (VLe.refl _) .nil))
    ·rcases ho with ⟨he,rfl,rfl⟩|⟨q,rfl,rfl⟩
     all_goals
      conv=>whnf
      repeat ((first|refine ⟨gP_of ⟨by omega,by omega⟩,?_⟩|refine QCall.k0 (hq) ?_);conv=>whnf)
      refine cF (by simp;omega) ?_
      conv=>whnf
      repeat ((first|refine ⟨gP_of ⟨by omega,by omega⟩,?_⟩|(refine ⟨Nat.le_of_ble_eq_true rfl,fun q'=>?_⟩)|(refine ⟨(by simp;unfold AMAX;omega),fun q'=>⟨_,.here _,?_⟩⟩));conv=>whnf)
      rw [show ((sumL (G.take i):Nat):Int)+((((edgsAt H line i).map encEdg).length:Nat):Int)=((sumL (G.take (i+1)):Nat):Int) by rw [hsn,hel,Int.natCast_add]]
      refine ⟨_,_,Turn.refl _ _,_,(by omega),i+1,_,_,rfl,rfl,rfl,by omega,by omega,.inr ⟨q',?_,rfl⟩⟩
      rw [htk,List.map_append]
      first|done|rfl|(rw [he];done)|(rw [he];rfl)
   ·have hlg:=refWords_long (H:=H) (line:=line) (a:=i) (by omega)
    have he:growErr H line=2:=by rw [hg,if_pos (by omega)]
    have hel:((refWords H (line.map (usesAt H)) i).map encEdg).length=2001:=by rw [List.length_map,hlg]
    conv=>whnf
    repeat ((first|refine ⟨gP_of ⟨by omega,by omega⟩,?_⟩|refine QCall.k0 (hq) ?_);conv=>whnf)
    refine cT (by simp only [decide_eq_true_eq];omega) ?_
    conv=>whnf
    skip
    rw [graphL,he,if_neg (by decide)]
    exact VLe.tup (.cons (VLe.nil (by decide)) (.cons (VLe.refl _) .nil))
  ·rw [List.take_of_length_le (by omega)] at hsum ho
   have he:growErr H line=0:=by rw [hg,if_neg (by omega)]
   conv=>whnf
   skip
   rw [graphL,he,if_pos rfl,← hG]
   exact VLe.tup (.cons (ho.le (by decide)) (.cons (VLe.refl _) .nil))
end Go.Abs.Wall
namespace Go.Abs.Wall
open Go Go.Abs Go.Proofs
theorem getD_of {α:Type} {l:List α} {i:Nat} {x d:α} (h:l[i]?=some x):l.getD i d=x:=by rw [List.getD_eq_getElem?_getD,h];rfl
theorem GOK.costs {g:List (List Edg)} (h:GOK g):∀ es∈g,∀ x∈es,0≤x.cost∧x.cost≤18000:=by
 intro es hes x hx
 obtain ⟨i,hi⟩:=List.mem_iff_getElem?.1 hes
 exact (h.edge i es hi x hx).cost
theorem GOK.rest {g:List (List Edg)} (h:GOK g) (i:Nat) (hi:i≤g.length):-1≤restV g i∧restV g i≤1080000:=by
 have h1:=restT_get g i hi
 have h2:=restT_bound g h.costs _ (List.mem_of_getElem? h1)
 have:=h.few
 omega
end Go.Abs.Wall
namespace Go.Abs.Wall
open Go Go.Abs Go.Proofs
end Go.Abs.Wall
