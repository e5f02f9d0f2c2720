/- What is proved: small laws for the walks of this seat, and contracts of its functions. No condition but those each theorem names. -/
import Derived.Test.YtbmcnieifibckaaGreatN25
import Derived.Test.YtbmcnieifibckaaGreatN9
import Derived.Test.YtbmcnieifibckaaGreatN24
set_option maxRecDepth 100000
set_option maxHeartbeats 2000000
set_option linter.unusedVariables false
set_option linter.unusedSimpArgs false
namespace Go.Abs.Wall.Spl
open Go Go.Abs Go.Proofs Go.Abs.Wall
theorem price_line {H:Hou} {line:List Int} {w:Wrd} (h:priceE H line w=0):lineErr H line=0∧frmErr H.lex w.form=0∧spellsM H line w=true:=by
 unfold priceE at h
 split at h
 ·rename_i h1;exact absurd h h1
 rename_i h1
 split at h
 ·rename_i h2;exact absurd h h2
 rename_i h2
 split at h
 ·rename_i h3;exact ⟨by omega,by omega,h3⟩
 ·cases h
theorem spells_len {H:Hou} {line:List Int} {w:Wrd} (h:spellsM H line w=true):(1≤line.length∧line.length≤12)∧line.length=w.uses.length:=by
 unfold spellsM at h
 rw [Bool.and_eq_true,Bool.and_eq_true,wthn_iff,decide_eq_true_eq] at h
 omega
theorem line_in {H:Hou} {line:List Int} (h:lineErr H line=0):∀ s∈line,0≤s∧s<H.list.signs.length:=by
 unfold lineErr at h
 split at h
 ·rename_i h1;exact absurd h h1
 split at h
 ·cases h
 split at h
 ·cases h
 rename_i h3
 intro s hs
 rw [List.any_eq_true] at h3
 have h4:¬ (!wthn s 0 ((H.list.signs.length:Int) - 1))=true:=fun hq=>h3 ⟨s,hs,hq⟩
 rw [Bool.not_eq_true',Bool.not_eq_false] at h4
 have:=wthn_iff.1 h4
 omega
theorem signs_get {B:Hab} {s:Int} (h:0≤s∧s<B.signs.length):B.signs[s.toNat]?=some (B.signs.getD s.toNat 0):=by
 obtain ⟨n,hn⟩:=get_lt (l:=B.signs) (i:=s.toNat) (by omega)
 rw [getD_of hn,hn]
theorem spNeg (B:Hab) (s:Int) (hs:0≤s∧s<B.signs.length):QCall Tryz.prog 129 [.int .i64 s,.iptr (encHab B)] [] (.bool (negS B s)):=by
 refine fcalls (F:=Tryz.f129) c129 rfl rfl rfl mixed rfl fun X=>?_
 conv=>whnf
 repeat ((refine ixn (enc:=fun n=>[AV.int .i64 n]) s.toNat (by omega) (signs_get hs) ?_);conv=>whnf)
 exact ⟨rfl,rfl⟩
theorem spKeeps (H:Hou) (B:Hab) (line:List Int) (w:Wrd) (hl:line.length≤1048576) (hu:w.uses.length≤1048576) (hf:FrmOK H.lex w.form) (hin:∀ s∈line,0≤s∧s<B.signs.length) :
  QCall Tryz.prog 71 [.agg (encHou H),.agg (encHab B),.sl 1 none (ints line),.agg (encWrd w)] [] (.bool (keepsM H B line w)):=by
 have hc:=cfInts line (by unfold LMAX;omega) 129 [.iptr (encHab B)] (negS B) fun s hs=>spNeg B s (hin s hs)
 have hct:=spCounts w.uses hu
 have h3:=spHas w.uses 3 (by unfold LMAX;omega)
 have h4:=spHas w.uses 4 (by unfold LMAX;omega)
 obtain ⟨R,hR⟩:∃ R,R=keepsM H B line w:=⟨_,rfl⟩
 rw [← hR]
 unfold keepsM at hR
 refine fcalls (F:=Tryz.f71) c71 rfl rfl rfl mixed rfl fun X=>?_
 conv=>whnf
 repeat (refine QCall.k0 (hc) ?_;conv=>whnf)
 refine ⟨fun q1=>?_,fun q1=>?_⟩
 ·rw [q1] at hR
  conv=>whnf
  skip
  exact ⟨by rw [hR];rfl,rfl⟩
 rw [q1,Bool.not_false,Bool.true_and] at hR
 conv=>whnf
 repeat ((first|refine QCall.k0 (hct) ?_|(refine ixn w.form.entry.toNat (by have:=hf.entry;omega) (entAt_get hf.entry.1 hf.entry.2) ?_)|refine gcall (h3) ?_);conv=>whnf)
 refine ⟨fun q2=>?_,fun q2=>?_⟩
 ·have q2:(decide (B.rpt=0)&&hasK 3 w.uses)=true:=q2
  rw [q2] at hR
  conv=>whnf
  skip
  exact ⟨by rw [hR];rfl,rfl⟩
 have q2:(decide (B.rpt=0)&&hasK 3 w.uses)=false:=q2
 rw [q2,Bool.not_false,Bool.true_and] at hR
 conv=>whnf
 skip
 refine ⟨fun q3=>?_,fun q3=>?_⟩
 ·have q3:(decide (B.rpt=2)&&!decide (canU w.uses=areU w.uses))=true:=q3
  rw [q3] at hR
  conv=>whnf
  skip
  exact ⟨by rw [hR];rfl,rfl⟩
 have q3:(decide (B.rpt=2)&&!decide (canU w.uses=areU w.uses))=false:=q3
 rw [q3,Bool.not_false,Bool.true_and] at hR
 conv=>whnf
 repeat (refine gcall (h4) ?_;conv=>whnf)
 refine ⟨fun q4=>?_,fun q4=>?_⟩
 ·have q4:(decide (B.cls=0)&&hasK 4 w.uses)=true:=q4
  rw [q4] at hR
  conv=>whnf
  skip
  exact ⟨by rw [hR];rfl,rfl⟩
 have q4:(decide (B.cls=0)&&hasK 4 w.uses)=false:=q4
 rw [q4,Bool.not_false,Bool.true_and] at hR
 conv=>whnf
 repeat (refine gcall (h4) ?_;conv=>whnf)
 refine ⟨fun q5=>?_,fun q5=>?_⟩
 ·have q5:((decide (B.cls=2)&&!decide ((entAt H.lex w.form.entry).cls=[]))&&!hasK 4 w.uses)=true:=q5
  rw [q5] at hR
  conv=>whnf
  skip
  exact ⟨by rw [hR];rfl,rfl⟩
 ·have q5:((decide (B.cls=2)&&!decide ((entAt H.lex w.form.entry).cls=[]))&&!hasK 4 w.uses)=false:=q5
  rw [q5] at hR
  conv=>whnf
  skip
  exact ⟨by rw [hR];rfl,rfl⟩
theorem sumS_in {B:Hab} (hB:∀ n∈B.signs,-1≤n∧n≤1000):∀ (l:List Int),-1*(l.length:Int)≤sumS B l∧sumS B l≤1000*l.length
 | []=>by simp [sumS]
 | s::l=>by
   have h:=sumS_in hB l
   rw [sumS,List.length_cons]
   have:-1≤B.signs.getD s.toNat 0∧B.signs.getD s.toNat 0≤1000:=by
    rw [List.getD_eq_getElem?_getD]
    cases hq:B.signs[s.toNat]? with
    | none=>exact ⟨by decide,by decide⟩
    | some n=>exact hB n (List.mem_of_getElem? hq)
   push_cast
   omega
theorem spExtra (B:Hab) (hB:∀ n∈B.signs,-1≤n∧n≤1000) (line:List Int) (hl:line.length≤1048576) (hin:∀ s∈line,0≤s∧s<B.signs.length):QCall Tryz.prog 72 [.agg (encHab B),.sl 1 none (ints line)] [] (.int .i64 (sumS B line)):=by
 refine fcalls (F:=Tryz.f72) c72 rfl rfl rfl mixed rfl fun X=>?_
 conv=>whnf
 skip
 refine sloop rfl mixed [2,4,7,8,9] [] (fun m r h=>∃ (i:Nat) (n:Int),r=[(2,[],.iptr (encHab B)),(4,[],.int .i64 n),(7,[],.sl 1 none (ints line)),(8,[],.int .i64 (ints line).length),(9,[],.int .i64 i)]∧h=[]∧m=line.length - i∧i≤line.length∧(-1*(i:Int)≤n∧n≤1000*i)∧sumS B line=n+sumS B (line.drop i)) ?_ ?_
 ·conv=>whnf
  exact ⟨_,0,0,rfl,rfl,rfl,by omega,by omega,by simp⟩
 ·rintro m r h ⟨i,n,rfl,rfl,rfl,hi,hn,hg⟩
  conv=>whnf
  refine ⟨fun hz=>?_,fun hz=>?_⟩<;>simp [ints_length] at hz
  ·obtain ⟨s,hs⟩:=get_lt hz
   have hsi:=hin s (List.mem_of_getElem? hs)
   have hsg:=signs_get hsi
   have hsb:=hB _ (List.mem_of_getElem? hsg)
   rw [drop_cons hs,sumS] at hg
   conv=>whnf
   repeat ((first|refine ⟨gP_of ⟨by omega,by omega⟩,?_⟩|refine ix (by assumption) ?_|(refine ixn (enc:=fun n=>[AV.int .i64 n]) s.toNat (by omega) hsg ?_));conv=>whnf)
   exact ⟨_,by omega,i+1,_,rfl,rfl,rfl,by omega,by push_cast;omega,by rw [hg];omega⟩
  ·rw [drop_nil (by omega)] at hg
   conv=>whnf
   skip
   exact ⟨by rw [hg];simp [sumS],rfl⟩
def sprE (H:Hou) (B:Hab) (line:List Int) (w:Wrd):Int:=if habErr H B≠0 then habErr H B else if priceE H line w≠0 then priceE H line w else if keepsM H B line w=true then 0 else 61
def sprL (H:Hou) (B:Hab) (line:List Int) (w:Wrd):Int:=if sprE H B line w=0 then priceM H w+sumS B line else 0
theorem rightSg {H:Hou} {B:Hab} (h:rightM H B=true):B.signs.length=H.list.signs.length∧∀ n∈B.signs,-1≤n∧n≤1000:=by
 unfold rightM at h
 simp only [Bool.and_eq_true,decide_eq_true_eq,wthn_iff,Bool.not_eq_true',List.any_eq_false] at h
 obtain ⟨⟨⟨h1,h2⟩,h3⟩,h4⟩:=h
 refine ⟨by omega,fun n hn=>?_⟩
 have:=h4 n hn
 unfold badN at this
 rw [Bool.not_eq_true',Bool.not_eq_false] at this
 exact wthn_iff.1 this
theorem priceM_bound {H:Hou} (h0:houErr H=0) {line:List Int} {w:Wrd} (h:priceE H line w=0):0≤priceM H w∧priceM H w≤100000:=by
 have hH:=houOK h0
 obtain ⟨_,hfe,hsp⟩:=price_line h
 have hl:=spells_len hsp
 have hw:=(frmOK hfe).wgt
 have hu:=usesCost_bound hH w.uses
 have ho:=hH.costs H.costs.opn (by simp [costL])
 unfold priceM frmW
 rw [if_pos hfe]
 split<;>omega
structure WrdFit (w:Wrd):Prop where
 cl:w.form.clitics.length≤1048576
 text:∀ u∈w.uses,u.text.length≤1048576
 us:w.uses.length≤1048576
theorem spPrice (H:Hou) (B:Hab) (line:List Int) (w:Wrd) (hf:HouFit H) (hB:HabFit B) (hl:line.length≤1048576) (hw:WrdFit w) :
  QCall Tryz.prog 35 [.agg (encHou H),.agg (encHab B),.sl 1 none (ints line),.agg (encWrd w)] [] (.tup [.int .i64 (sprL H B line w),.int .i64 (sprE H B line w)]):=by
 have hp:=PriceW H line w hf hl hw.cl hw.text hw.us
 refine fcalls (F:=Tryz.f35) c35 rfl rfl rfl mixed rfl fun X=>?_
 conv=>whnf
 repeat (refine QCall.k0 (spCheckHab H B hf hB) ?_;conv=>whnf)
 refine ⟨fun h0=>?_,fun h0=>?_⟩<;>simp at h0
 ·have he:sprE H B line w=habErr H B:=by unfold sprE;rw [if_pos h0]
  unfold sprL
  rw [he,if_neg h0]
  conv=>whnf
  skip
  exact ⟨rfl,rfl⟩
 obtain ⟨hok,hr⟩:=habOK h0
 obtain ⟨hbl,hbs⟩:=rightSg hr
 conv=>whnf
 repeat (refine QCall.k0 (hp) ?_;conv=>whnf)
 refine ⟨fun h1=>?_,fun h1=>?_⟩<;>simp at h1
 ·have he:sprE H B line w=priceE H line w:=by unfold sprE;rw [if_neg (by omega),if_pos h1]
  unfold sprL
  rw [he,if_neg h1]
  conv=>whnf
  skip
  exact ⟨rfl,rfl⟩
 obtain ⟨hle,hfe,hsp⟩:=price_line h1
 have hln:=spells_len hsp
 have hin:∀ s∈line,0≤s∧s<B.signs.length:=by rw [hbl];exact line_in hle
 have hk:=spKeeps H B line w hl hw.us (frmOK hfe) hin
 have he:sprE H B line w=if keepsM H B line w=true then 0 else 61:=by unfold sprE;rw [if_neg (by omega),if_neg (by omega)]
 conv=>whnf
 repeat (refine QCall.k0 (hk) ?_;conv=>whnf)
 refine ⟨fun h2=>?_,fun h2=>?_⟩
 ·have h2:(!keepsM H B line w)=true:=h2
  rw [Bool.not_eq_true'] at h2
  rw [if_neg (by rw [h2];decide)] at he
  unfold sprL
  rw [he,if_neg (by decide)]
  conv=>whnf
  skip
  exact ⟨rfl,rfl⟩
 ·have h2:(!keepsM H B line w)=false:=h2
  rw [Bool.not_eq_false'] at h2
  rw [if_pos h2] at he
  have hx:=spExtra B hbs line hl hin
  have hsi:=sumS_in hbs line
  have hpb:=priceM_bound hok h1
  have hpl:priceL H line w=priceM H w:=by unfold priceL;rw [if_pos h1]
  unfold sprL
  rw [he,if_pos rfl]
  rw [hpl]
  conv=>whnf
  repeat ((first|refine ⟨gP_of ⟨by omega,by omega⟩,?_⟩|refine QCall.k0 (hx) ?_);conv=>whnf)
  exact ⟨rfl,rfl⟩
end Go.Abs.Wall.Spl
namespace Go.Abs.Wall.Spl
open Go Go.Abs Go.Proofs Go.Abs.Wall
end Go.Abs.Wall.Spl
