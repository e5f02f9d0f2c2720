/- What is proved: small laws for the walks of this seat, and contracts of its functions. No condition but those each theorem names. -/
import Derived.Test.YthkokengobdgcaaGreatN33
import Derived.Test.YthkokengobdgcaaGreatN26
set_option maxRecDepth 100000
set_option maxHeartbeats 2000000
set_option linter.unusedVariables false
set_option linter.unusedSimpArgs false
namespace Go.Abs.Wall.Lst
open Go Go.Abs Go.Proofs Go.Abs.Wall
def c6:Cfg:=⟨[0,1,2,4,5,6,7,8,10],[],[5,7],[],[],[]⟩
structure OnlyFit (H:Hou) (keep:List Int):Prop where
 signs:H.list.signs.length≤1048576
 vals:∀ s∈H.list.signs,s.values.length≤1048576
 ends:H.lex.endings.length≤1048576
 clis:H.lex.clitics.length≤1048576
 inr:∀ k∈keep,0≤k∧k<H.lex.entries.length
theorem only_fit {H:Hou} {keep:List Int} (h:houErr H=0) (hk:risM keep H.lex.entries.length=true):OnlyFit H keep:=by
 have ho:=houOK h
 have hl:=lstOK ho.lst
 have hm:=ho.lex.many
 have h1:=hl.many
 exact ⟨by omega,fun s hs=>by have:=(hl.each s hs).few;omega,by omega,by omega,(risM_iff.1 hk).2⟩
end Go.Abs.Wall.Lst
namespace Go.Abs.Wall.Lst
open Go Go.Abs Go.Proofs Go.Abs.Wall
def dicK (H:Hou) (lines:List (List Int)):List Int:=ntr (indR H lines)
def dicX (H:Hou) (lines:List (List Int)):Lex:=if indErr H lines=0 then onlyX H.lex (dicK H lines) else ⟨[],[],[]⟩
def dicL (H:Hou) (lines:List (List Int)):List Nd:=renGo 0 (indR H lines)
def DicP (H:Hou) (lines:List (List Int)):AV:=.tup [.agg (encLex (dicX H lines)),.sl 2 none ((dicL H lines).map encNd),.int .i64 (indErr H lines)]
def c4:Cfg:=⟨[0,1,2,4,5,6,7,8,9,10,13],[],[5,8],[],[],[]⟩
def c5:Cfg:=⟨[0,1,2,4,5,6,7,8,9,10,13,23],[],[5,9],[],[],[]⟩
def DicR (H:Hou) (lines:List (List Int)) (v:AV) (h':Heap):Prop:=
 VLe v (DicP H lines)∨∃ b h2,v=.tup [.agg (encLex (dicX H lines)),.osl b 0 (dicL H lines).length 2,.int .i64 (indErr H lines)]∧Rem b (.vec ((dicL H lines).map encNd).flatten) h' h2
theorem DicR.ok {H:Hou} {lines:List (List Int)} {f:FuncId} {vs:List AV} (h:ACalls Tryz.prog f vs [] (DicR H lines)):QCall Tryz.prog f vs [] (DicP H lines):=by
 refine QCall.of (ACalls.frzOr h ?_)
 rintro v h1 (hv|⟨b,h2,rfl,hr⟩)
 ·exact .inl hv
 ·exact .inr ⟨b,_,_,_,_,hr,FzH.refl _,.tup (.cons (.refl _) (.cons (fzEnc encNd_len rfl) (.cons (.refl _) .nil))),VLe.refl _⟩
end Go.Abs.Wall.Lst
namespace Go.Abs.Wall.Lst
open Go Go.Abs Go.Proofs Go.Abs.Wall
theorem ind_cor {H:Hou} {lines:List (List Int)} (h0:indErr H lines=0):corErr H lines=0:=by
 unfold indErr at h0
 split at h0
 ·rename_i h1;exact absurd h0 h1
 ·rename_i h1;omega
theorem only_houfit {H:Hou} (hf:HouFit H) {keep:List Int} (hk:keep.length≤1048576) (hin:∀ k∈keep,0≤k∧k<H.lex.entries.length):HouFit (onlyH H keep):=by
 refine ⟨hf.list,⟨?_,hf.lex.endings,hf.lex.clitics,?_,hf.lex.edn,hf.lex.cli⟩⟩
 ·show (keep.map (entAt H.lex)).length≤LMAX
  rw [List.length_map]
  unfold LMAX
  omega
 ·intro e he
  obtain ⟨k,hkm,rfl⟩:=List.mem_map.1 he
  have hr:=hin k hkm
  exact hf.lex.ent _ (List.mem_of_getElem? (entAt_get hr.1 hr.2))
end Go.Abs.Wall.Lst
