/- What is proved: small laws for the walks of this seat, and contracts of its functions. No condition but those each theorem names. -/
import Derived.Test.YtmkmflcemegikaaGreatN7
import Derived.Test.YtmkmflcemegikaaGreatN8
set_option maxRecDepth 100000
set_option maxHeartbeats 2000000
set_option linter.unusedVariables false
set_option linter.unusedSimpArgs false
namespace Go.Abs.Wall
open Go Go.Abs Go.Proofs
def spGo (H:Hou) (s:Sp) (cl:List Int):List Int→List Use→List Prg→Bool
 | n::t,u::us,st=>(usesAt H n).any (useEq u)&&spGo H s cl t us (st.flatMap fun p=>nextM s p u)
 | _,_,st=>st.any fun p=>endsM s p&&decide (p.cl=cl)
def spOf (H:Hou) (f:Frm):Sp:=⟨H,entAt H.lex f.entry,bodyM H.lex f.entry f.ending⟩
def spellsM (H:Hou) (line:List Int) (w:Wrd):Bool:=(wthn line.length 1 12&&decide (line.length=w.uses.length))&&spGo H (spOf H w.form) w.form.clitics line w.uses [prg0]
end Go.Abs.Wall
namespace Go.Abs.Wall
open Go Go.Abs Go.Proofs
def lastPart (s:Sp) (cl:List Int):List UInt8:=match cl.getLast? with
 | some c=>(cliAt s.H.lex c).text
 | none=>s.body
def baseL (s:Sp) (cl:List Int):Nat:=(tot s cl).length - (lastPart s cl).length
theorem lastPart_snoc (s:Sp) (cl:List Int) (c:Int):lastPart s (cl++[c])=(cliAt s.H.lex c).text:=by unfold lastPart;simp
theorem tot_last (s:Sp) (cl:List Int):∃ pre,tot s cl=pre++lastPart s cl∧pre.length=baseL s cl:=by
 rcases List.eq_nil_or_concat cl with rfl|⟨l,c,hcl⟩
 ·refine ⟨[],?_,?_⟩
  ·simp [tot,cliT,lastPart]
  ·simp [baseL,tot,cliT,lastPart]
 ·rw [List.concat_eq_append] at hcl
  subst hcl
  refine ⟨tot s l,?_,?_⟩
  ·rw [lastPart_snoc,tot_snoc]
  ·unfold baseL
   rw [lastPart_snoc,tot_snoc,List.length_append]
   omega
structure HOK (s:Sp) (p:Prg) (T:List Use):Prop where
 ok:PrgOK s p
 base:baseL s p.cl≤p.sounds.length
 new:T=[]→p.last.kind=0
 last:T≠[]→T.getLast?=some p.last∧p.last.kind≠0
 few:T.length≤12
 len:p.last.text.length≤8
theorem HOK.part {s:Sp} {p:Prg} {T:List Use} (h:HOK s p T):partM s p=(lastPart s p.cl).drop ((p.sounds.length:Int) - baseL s p.cl).toNat∧(p.sounds.length:Int) - baseL s p.cl≤(lastPart s p.cl).length:=by
 obtain ⟨pre,h1,h2⟩:=tot_last s p.cl
 have h3:=h.base
 have h4:=h.ok.sounds
 rw [h1,List.length_append] at h4
 refine ⟨?_,by omega⟩
 unfold partM
 rw [h1,List.drop_append,List.drop_eq_nil_of_le (by omega),List.nil_append]
 congr 1
 omega
theorem hok0 (s:Sp):HOK s prg0 []:=⟨prg0_ok s,by simp [baseL,tot,cliT,lastPart,prg0],fun _=>rfl,fun h=>absurd rfl h,by simp,by simp [prg0]⟩
theorem VLe.one {k:Nat} {t:Option Nat} {x y:List AV} (h:VsLe x y):VLe (.sl k t [x]) (.sl k none [y]):=by
 refine fun c u hu=>VLe.sl c u (VLe.els (.cons h .nil) c u hu)
end Go.Abs.Wall
namespace Go.Abs.Wall
open Go Go.Abs Go.Proofs
end Go.Abs.Wall
namespace Go.Abs.Wall
open Go Go.Abs Go.Proofs
end Go.Abs.Wall
