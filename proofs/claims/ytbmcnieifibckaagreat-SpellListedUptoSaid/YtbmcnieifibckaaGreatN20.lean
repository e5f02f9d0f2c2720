/- What is proved: small laws for the walks of this seat, and contracts of its functions. No condition but those each theorem names. -/
import Derived.Test.YtbmcnieifibckaaGreatN19
import Derived.Test.YtbmcnieifibckaaGreatN9
import Derived.Test.YtbmcnieifibckaaGreatN10
import Derived.Test.YtbmcnieifibckaaGreatN11
import Derived.Test.YtbmcnieifibckaaGreatN8
set_option maxRecDepth 100000
set_option maxHeartbeats 2000000
set_option linter.unusedVariables false
set_option linter.unusedSimpArgs false
namespace Go.Abs.Wall.Lst
open Go Go.Abs Go.Proofs Go.Abs.Wall
end Go.Abs.Wall.Lst
namespace Go.Abs.Wall.Lst
open Go Go.Abs Go.Proofs Go.Abs.Wall
theorem wu {H:ax} {line:List Int} (h:eb H line=0):gN H.lex=0:=by
 unfold eb at h;split at h
 ·rename_i h1;exact absurd h h1
 rename_i h1;have h1:eG H=0:=(by simpa using h1);unfold eG at h1;split at h1
 ·rename_i h2;exact absurd h1 h2
 split at h1
 ·rename_i h2;exact absurd h1 h2
 rename_i h2;simpa using h2
structure Good (w:cO):Prop where
 fit:od w
 small:Bh w
 text:∀ u∈w.aj,u.text.length<=8
theorem II {H:ax} {line:List Int} (hL:qR H line) (hle:gN H.lex=0) {i:Nat} (hi:i<=line.length) {x:az} (hx:x∈cD H line i):Good x.word:=by
 obtain ⟨⟨h1,h2,h3⟩,h4⟩:=(yb hL hle hi).1 hx;have hf:=mG h1;have hm:=hf.lex.many;have hlen:=xL h3;have EM:=hf.bE;refine ⟨⟨by omega,by omega⟩,⟨⟨?_,?_,?_,by omega⟩,by omega⟩,?_⟩
 ·have:=hf.entry;omega
 ·rcases hf.ending with h|h<;>omega
 ·intro c hc;have:=hf.dO c hc;omega
 unfold kC at h3;rw [Bool.and_eq_true,Bool.and_eq_true,dS,decide_eq_true_eq] at h3;obtain ⟨⟨h5,h6⟩,h7⟩:=h3;rw [zx _ _ _ h6] at h7;intro u hu;exact (HY hL.jc (fun s hs=>hL.aB s (List.mem_of_mem_drop (List.mem_of_mem_take hs))) h7.1 u hu).2.2.2
theorem Oq {H:ax} {line:List Int} (hL:qR H line) (hle:gN H.lex=0):∀ (l:List az) (i:Nat),i<=line.length->jH (dn H line) i l->∀ x∈l,Good x.word
 | [],_,_,_,x,hx=>by cases hx
 | y::l,i,hi,⟨es,bp,hy,hp⟩,x,hx=>by
   have aL:=(List.getElem?_eq_some_iff.1 bp).1;rw [tq] at aL;rw [vS aL] at bp;cases bp
   rcases List.mem_cons.1 hx with rfl|hx
   ·exact II hL hle hi hy
   obtain ⟨⟨_,h2,_⟩,h4⟩:=(yb hL hle hi).1 hy;have gz:y.to.toNat=i+y.word.aj.length:=(congrArg (fun e:az=>e.to.toNat) h4).trans (by show ((i:Int)+y.word.aj.length).toNat=_;omega);rw [gz] at hp;exact Oq hL hle l _ h2 hp x hx
theorem EN {H:ax} {line:List Int} (h0:eb H line=0) (ws:List cO) :
  ((vR H line ws).err=0↔jH (dn H line) 0 (nC H 0 ws))/\((vR H line ws).err=0->(vR H line ws).cost=cp (nC H 0 ws)):=by
 have:=NM (qS h0) (wu h0) ws 0 0 0 (Nat.zero_le _);unfold vR;rw [if_neg (by rw [h0];simp)];rw [List.drop_zero] at this;exact ⟨this.1,fun h=>by rw [this.2 h];omega⟩
theorem zK {H:ax} {line:List Int} (h:ed H line=0):eb H line=0:=by
 unfold ed at h;split at h
 ·rename_i h1;exact absurd h h1
 rename_i h1;simpa using h1
theorem Cd {H:ax} {line:List Int} {most:Int} (h:ew H line most=0):ed H line=0/\1<=most/\most<=64/\bu (dn H line) 0≠[]/\fx H line most=jk (dn H line) most.toNat:=by
 have h':=h;unfold ew at h;split at h
 ·rename_i h1;exact absurd h h1
 rename_i h1;split at h
 ·rename_i h2;split at h
  ·cases h
  rename_i h3;exact ⟨by simpa using h1,h2.1,h2.2,h3,by unfold fx;rw [if_pos h']⟩
 cases h
theorem VJ {H:ax} {line:List Int} {most:Int} (h:ew H line most=0) {i:Nat} {r:tB} (hr:(fx H line most)[i]?=some r) :
  (i:Int)<most/\∃ p,(bu (dn H line) 0)[i]?=some p/\r=gA p/\jH (dn H line) 0 p.2/\p.1=cp p.2:=by
 obtain ⟨h0,h1,h2,h3,h4⟩:=Cd h;obtain ⟨-,-,hg⟩:=Bo h0;rw [h4] at hr;unfold jk at hr;rw [List.getElem?_map] at hr;cases hp:((bu (dn H line) 0).take most.toNat)[i]? with
 | none=>rw [hp] at hr;cases hr
 | some p=>
   rw [hp] at hr;have hi:i<most.toNat:=by have:=(List.getElem?_eq_some_iff.1 hp).1;rw [List.length_take] at this;omega
   rw [List.getElem?_take_of_lt hi] at hp;have:=(pk hg (dn H line).length 0 (by omega) p).1 (List.mem_of_getElem? hp);exact ⟨by omega,p,hp,(Option.some.inj hr).symm,this.1,this.2⟩
theorem Ot {H:ax} {line:List Int} {most:Int} (h:ew H line most=0) {i:Nat} {r:tB} (hr:(fx H line most)[i]?=some r) :
  (vR H line r.words).err=0/\(vR H line r.words).cost=r.cost/\∀ w∈r.words,Good w:=by
 obtain ⟨h0,-⟩:=Cd h;have hl:=zK h0;obtain ⟨-,p,hp,rfl,h2,h3⟩:=VJ h hr;have he:=NL (qS hl) (wu hl) p.2 0 (Nat.zero_le _) h2;have hv:=EN hl (gA p).words;have he:nC H 0 (gA p).words=p.2:=he.symm;rw [he] at hv;have h5:=hv.1.2 h2;refine ⟨h5,(hv.2 h5).trans h3.symm,fun w hw=>?_⟩;obtain ⟨x,hx,rfl⟩:=List.mem_map.1 hw;exact Oq (qS hl) (wu hl) p.2 0 (Nat.zero_le _) h2 x hx
theorem IJ {H:ax} {line:List Int} {ws:List cO} (h0:ed H line=0) (h:(vR H line ws).err=0):((vR H line ws).cost,nC H 0 ws)∈bu (dn H line) 0:=by obtain ⟨-,-,hg⟩:=Bo h0;have hv:=EN (zK h0) ws;exact (pk hg (dn H line).length 0 (by omega) _).2 ⟨hv.1.1 h,hv.2 h⟩
end Go.Abs.Wall.Lst
namespace Go.Abs.Wall.Lst
open Go Go.Abs Go.Proofs Go.Abs.Wall
end Go.Abs.Wall.Lst
