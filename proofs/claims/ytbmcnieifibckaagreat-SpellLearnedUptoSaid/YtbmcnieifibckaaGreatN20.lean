/- What is proved: small laws for the walks of this seat, and contracts of its functions. No condition but those each theorem names. -/
import Derived.Test.YtbmcnieifibckaaGreatN19
import Derived.Test.YtbmcnieifibckaaGreatN9
import Derived.Test.YtbmcnieifibckaaGreatN10
import Derived.Test.YtbmcnieifibckaaGreatN11
import Derived.Test.YtbmcnieifibckaaGreatN8
set_option maxRecDepth 100000
set_option maxHeartbeats 2000000
set_option linter.unusedVariables false
set_option linter.unusedSimpArgs false
namespace Go.Abs.Wall.Lst
open Go Go.Abs Go.Proofs Go.Abs.Wall
end Go.Abs.Wall.Lst
namespace Go.Abs.Wall.Lst
open Go Go.Abs Go.Proofs Go.Abs.Wall
theorem xf {H:aj} {line:List Int} (h:dX H line=0):iz H.lex=0:=by
 unfold dX at h;split at h
 ·rename_i h1;exact absurd h h1
 rename_i h1;have h1:eo H=0:=(by simpa using h1);unfold eo at h1;split at h1
 ·rename_i h2;exact absurd h1 h2
 split at h1
 ·rename_i h2;exact absurd h1 h2
 rename_i h2;simpa using h2
structure Good (w:bU):Prop where
 fit:pz w
 small:Ch w
 text:∀ u∈w.ai,u.text.length<=8
theorem PV {H:aj} {line:List Int} (hL:rF H line) (hle:iz H.lex=0) {i:Nat} (hi:i<=line.length) {x:av} (hx:x∈dE H line i):Good x.word:=by
 obtain ⟨⟨h1,h2,h3⟩,h4⟩:=(AH hL hle hi).1 hx;have hf:=mn h1;have hm:=hf.lex.many;have hlen:=rG h3;have Gu:=hf.bB;refine ⟨⟨by omega,by omega⟩,⟨⟨?_,?_,?_,by omega⟩,by omega⟩,?_⟩
 ·have:=hf.entry;omega
 ·rcases hf.ending with h|h<;>omega
 ·intro c hc;have:=hf.ed c hc;omega
 unfold jl at h3;rw [Bool.and_eq_true,Bool.and_eq_true,dY,decide_eq_true_eq] at h3;obtain ⟨⟨h5,h6⟩,h7⟩:=h3;rw [yR _ _ _ h6] at h7;intro u hu;exact (JL hL.ia (fun s hs=>hL.aA s (List.mem_of_mem_drop (List.mem_of_mem_take hs))) h7.1 u hu).2.2.2
theorem PW {H:aj} {line:List Int} (hL:rF H line) (hle:iz H.lex=0):∀ (l:List av) (i:Nat),i<=line.length->gG (bX H line) i l->∀ x∈l,Good x.word
 | [],_,_,_,x,hx=>by cases hx
 | y::l,i,hi,⟨es,bc,hy,hp⟩,x,hx=>by
   have aI:=(List.getElem?_eq_some_iff.1 bc).1;rw [oK] at aI;rw [rH aI] at bc;cases bc
   rcases List.mem_cons.1 hx with rfl|hx
   ·exact PV hL hle hi hy
   obtain ⟨⟨_,h2,_⟩,h4⟩:=(AH hL hle hi).1 hy;have eS:y.to.toNat=i+y.word.ai.length:=(congrArg (fun e:av=>e.to.toNat) h4).trans (by show ((i:Int)+y.word.ai.length).toNat=_;omega);rw [eS] at hp;exact PW hL hle l _ h2 hp x hx
theorem Dk {H:aj} {line:List Int} (h0:dX H line=0) (ws:List bU) :
  ((kX H line ws).err=0↔gG (bX H line) 0 (kJ H 0 ws))/\((kX H line ws).err=0->(kX H line ws).cost=cn (kJ H 0 ws)):=by
 have:=Pt (mS h0) (xf h0) ws 0 0 0 (Nat.zero_le _);unfold kX;rw [if_neg (by rw [h0];simp)];rw [List.drop_zero] at this;exact ⟨this.1,fun h=>by rw [this.2 h];omega⟩
theorem pM {H:aj} {line:List Int} (h:df H line=0):dX H line=0:=by
 unfold df at h;split at h
 ·rename_i h1;exact absurd h h1
 rename_i h1;simpa using h1
theorem tf {H:aj} {line:List Int} {most:Int} (h:cC H line most=0):df H line=0/\1<=most/\most<=64/\bk (bX H line) 0≠[]/\eI H line most=fA (bX H line) most.toNat:=by
 have h':=h;unfold cC at h;split at h
 ·rename_i h1;exact absurd h h1
 rename_i h1;split at h
 ·rename_i h2;split at h
  ·cases h
  rename_i h3;exact ⟨by simpa using h1,h2.1,h2.2,h3,by unfold eI;rw [if_pos h']⟩
 cases h
theorem XA {H:aj} {line:List Int} {most:Int} (h:cC H line most=0) {i:Nat} {r:sT} (hr:(eI H line most)[i]?=some r) :
  (i:Int)<most/\∃ p,(bk (bX H line) 0)[i]?=some p/\r=gF p/\gG (bX H line) 0 p.2/\p.1=cn p.2:=by
 obtain ⟨h0,h1,h2,h3,h4⟩:=tf h;obtain ⟨-,-,hg⟩:=oL h0;rw [h4] at hr;unfold fA at hr;rw [List.getElem?_map] at hr;cases hp:((bk (bX H line) 0).take most.toNat)[i]? with
 | none=>rw [hp] at hr;cases hr
 | some p=>
   rw [hp] at hr;have hi:i<most.toNat:=by have:=(List.getElem?_eq_some_iff.1 hp).1;rw [List.length_take] at this;omega
   rw [List.getElem?_take_of_lt hi] at hp;have:=(mu hg (bX H line).length 0 (by omega) p).1 (List.mem_of_getElem? hp);exact ⟨by omega,p,hp,(Option.some.inj hr).symm,this.1,this.2⟩
theorem Kl {H:aj} {line:List Int} {most:Int} (h:cC H line most=0) {i:Nat} {r:sT} (hr:(eI H line most)[i]?=some r) :
  (kX H line r.words).err=0/\(kX H line r.words).cost=r.cost/\∀ w∈r.words,Good w:=by
 obtain ⟨h0,-⟩:=tf h;have hl:=pM h0;obtain ⟨-,p,hp,rfl,h2,h3⟩:=XA h hr;have he:=Ps (mS hl) (xf hl) p.2 0 (Nat.zero_le _) h2;have hv:=Dk hl (gF p).words;have he:kJ H 0 (gF p).words=p.2:=he.symm;rw [he] at hv;have h5:=hv.1.2 h2;refine ⟨h5,(hv.2 h5).trans h3.symm,fun w hw=>?_⟩;obtain ⟨x,hx,rfl⟩:=List.mem_map.1 hw;exact PW (mS hl) (xf hl) p.2 0 (Nat.zero_le _) h2 x hx
theorem Gv {H:aj} {line:List Int} {ws:List bU} (h0:df H line=0) (h:(kX H line ws).err=0):((kX H line ws).cost,kJ H 0 ws)∈bk (bX H line) 0:=by obtain ⟨-,-,hg⟩:=oL h0;have hv:=Dk (pM h0) ws;exact (mu hg (bX H line).length 0 (by omega) _).2 ⟨hv.1.1 h,hv.2 h⟩
end Go.Abs.Wall.Lst
namespace Go.Abs.Wall.Lst
open Go Go.Abs Go.Proofs Go.Abs.Wall
end Go.Abs.Wall.Lst
