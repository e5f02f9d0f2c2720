/- What is proved: small laws for the walks of this seat, and contracts of its functions. No condition but those each theorem names. -/
import Derived.Test.YtddhcllidlclmaaGreatN33
import Derived.Test.YtddhcllidlclmaaGreatN26
set_option maxRecDepth 100000
set_option maxHeartbeats 2000000
set_option linter.unusedVariables false
set_option linter.unusedSimpArgs false
namespace Go.Abs.Wall.Lst
open Go Go.Abs Go.Proofs Go.Abs.Wall
structure OnlyFit (H:Hou) (keep:List Int):Prop where
 signs:H.list.signs.length≤1048576
 vals:∀ s∈H.list.signs,s.values.length≤1048576
 ends:H.lex.endings.length≤1048576
 clis:H.lex.clitics.length≤1048576
 inr:∀ k∈keep,0≤k∧k<H.lex.entries.length
theorem only_fit {H:Hou} {keep:List Int} (h:houErr H=0) (hk:risM keep H.lex.entries.length=true):OnlyFit H keep:=by
 have ho:=houOK h
 have hl:=lstOK ho.lst
 have hm:=ho.lex.many
 have h1:=hl.many
 exact ⟨by omega,fun s hs=>by have:=(hl.each s hs).few;omega,by omega,by omega,(risM_iff.1 hk).2⟩
end Go.Abs.Wall.Lst
namespace Go.Abs.Wall.Lst
open Go Go.Abs Go.Proofs Go.Abs.Wall
end Go.Abs.Wall.Lst
namespace Go.Abs.Wall.Lst
open Go Go.Abs Go.Proofs Go.Abs.Wall
theorem ind_cor {H:Hou} {lines:List (List Int)} (h0:indErr H lines=0):corErr H lines=0:=by
 unfold indErr at h0
 split at h0
 ·rename_i h1;exact absurd h0 h1
 ·rename_i h1;omega
theorem only_houfit {H:Hou} (hf:HouFit H) {keep:List Int} (hk:keep.length≤1048576) (hin:∀ k∈keep,0≤k∧k<H.lex.entries.length):HouFit (onlyH H keep):=by
 refine ⟨hf.list,⟨?_,hf.lex.endings,hf.lex.clitics,?_,hf.lex.edn,hf.lex.cli⟩⟩
 ·show (keep.map (entAt H.lex)).length≤LMAX
  rw [List.length_map]
  unfold LMAX
  omega
 ·intro e he
  obtain ⟨k,hkm,rfl⟩:=List.mem_map.1 he
  have hr:=hin k hkm
  exact hf.lex.ent _ (List.mem_of_getElem? (entAt_get hr.1 hr.2))
end Go.Abs.Wall.Lst
