/- Small laws for the walks and contracts of functions; each theorem names its conditions. -/
import Derived.Test.YthmcbjcgdfmmaaaGreatN9
import Derived.Test.YthmcbjcgdfmmaaaGreatN7
import Derived.Test.YthmcbjcgdfmmaaaGreatN10
set_option maxRecDepth 100000
set_option maxHeartbeats 2000000
namespace Go.Abs.Wall
open Go Go.Abs Go.Proofs
theorem Io {H:aD} {line:List Int} {w:eJ} (h:tY H line w=true):1<=w.ay.length/\w.ay.length<=12/\line.length=w.ay.length:=by unfold tY at h;rw [Bool.and_eq_true,Bool.and_eq_true,dL,decide_eq_true_eq] at h;omega
end Go.Abs.Wall
namespace Go.Abs.Wall
open Go Go.Abs Go.Proofs
structure Fe (n i:Nat) (x:ar):Prop where
 to:x.to=i+x.word.ay.length
 lo:(i:Int)<x.to
 hi:x.to<=n
 cost:0<=x.cost/\x.cost<=18000
 fit:nE x.word
structure fJ (g:List (List ar)):Prop where
 bB:g.length<=60
 many:∀ (i:Nat) es,g[i]?=some es->es.length<=2000
 aR:∀ (i:Nat) es,g[i]?=some es->∀ x∈es,Fe g.length i x
theorem sM (H:aD) (line:List Int):(cZ H line).length=line.length:=by simp [cZ]
theorem wH {H:aD} {line:List Int} {i:Nat} (hi:i<line.length):(cZ H line)[i]?=some (ei H line i):=by rw [cZ,List.getElem?_map,List.getElem?_range hi];rfl
theorem wI {H:aD} {line:List Int} (h:dU H line=0):Aq H line/\eK (cZ H line)<=2000/\fJ (cZ H line):=by
 unfold dU at h;split at h
 ·rename_i h1;exact absurd h h1
 rename_i h1;split at h
 ·cases h
 rename_i h2;have hL:=Ar (H:=H) (line:=line) (by simpa using h1);refine ⟨hL,by omega,⟨by rw [sM];exact hL.bB,fun i es bp=>?_,fun i es bp x hx=>?_⟩⟩
 ·have h3:=Ff (g:=cZ H line) (i+1);rw [cN bp,Fg] at h3;omega
 have hi:i<line.length:=by have:=(List.getElem?_eq_some_iff.1 bp).1;rwa [sM] at this
 rw [wH hi] at bp;cases bp
 obtain ⟨ha,hb,hc⟩:=Fh hL.ka hL.aK (by omega) x hx;have:=ha.to;have:=ha.some;have h5:=ha.cl;have h6:=ha.bB;exact ⟨ha.to,by omega,by rw [sM];omega,hc,⟨by omega,by omega⟩⟩
def tZ (H:aD) (line:List Int):List (List ar):=if dU H line=0 then cZ H line else []
def c21:av:=⟨[0,1,2,4,5,6,7,8,9,10,11,12,16,23,31,43],[],[],[],[],[]⟩
theorem Nz (H:aD) (line:List Int) (hf:dx H) (hl:line.length<=1048576) :
  ab Tryz.prog 21 [.agg (aZ H),.sl 1 none (ints line)] [] (.aB [.sl 1 none ((tZ H line).map kg),.int .i64 (dU H line)]):=by
 refine ab.of ?_;refine aA (F:=Tryz.f21) c21 rfl rfl rfl mixed rfl fun X=>?_;(conv=>whnf);repeat (refine ab.k0 (Ip H hf) ?_;conv=>whnf)
 refine ⟨fun h0=>?_,fun h0=>?_⟩<;>simp at h0
 ·have h1:gN H line=fA H:=(by rw [gN,if_pos h0]);have he:dU H line=fA H:=(by rw [dU,h1,if_pos h0]);(conv=>whnf);skip;rw [tZ,he,if_neg h0];exact aa.aB (.cons (aa.nil (by decide)) (.cons (aa.refl _) .nil))
 (conv=>whnf);repeat (refine ab.k0 (UG hf h0 (line:=line) (by unfold aq;omega)) ?_;conv=>whnf)
 refine ⟨fun h1=>?_,fun h1=>?_⟩<;>simp at h1
 ·have he:dU H line=gN H line:=(by rw [dU,if_pos h1]);(conv=>whnf);skip;rw [tZ,he,if_neg h1];exact aa.aB (.cons (aa.nil (by decide)) (.cons (aa.refl _) .nil))
 have hL:=Ar h1;have dG:=hL.bB;have hg:dU H line=if 2000<eK (cZ H line) then 2 else 0:=(by rw [dU,if_neg (by omega)]);obtain ⟨G,hG⟩:∃ G,G=cZ H line:=⟨_,rfl⟩;have Fi:G.length=line.length:=by rw [hG];exact sM H line
 have Ci:∀ i,i<line.length->G[i]?=some (ei H line i):=fun i hi=>by rw [hG];exact wH hi
 rw [<- hG] at hg;(conv=>whnf);repeat (refine ab.k0 (Ux H line hf hL) ?_;conv=>whnf)
 refine bD rfl mixed [1,2,8,9,10,11] [] (fun m r h=>∃ (i:Nat) (v:AV) (hp:af),r=[(1,[],.sl 1 none (ints line)),(2,[],.ai (aZ H)),(8,[],.sl 1 none ((line.map (gM H)).map eD)),(9,[],v),(10,[],.int .i64 (eK (G.take i):Nat)),(11,[],.int .i64 i)]/\h=hp/\m=line.length - i/\i<=line.length/\eK (G.take i)<=2000/\Out 1 kg (G.take i) v hp) ?_ ?_
 ·(conv=>whnf);exact ⟨_,_,ah.refl _ _,_,0,_,[],by simp [eK],rfl,rfl,by omega,by simp [eK],.inl ⟨by simp,rfl,rfl⟩⟩
 rintro m r h' ⟨i,v,hp,rfl,rfl,rfl,hi,wJ,ho⟩;(conv=>whnf);skip;refine ⟨fun aG=>?_,fun aG=>?_⟩<;>simp at aG
 ·have As:=Ci i aG;have cd:=cN As;have ej:eK (G.take (i+1))=eK (G.take i)+(ei H line i).length:=(by rw [cd,Fg]);have ax:=Ff (g:=G) (i+1);have hq:=Uw H (line.map (gM H)) i (Uy hf hL (by omega));by_cases hb:(ei H line i).length<=2000
  ·rw [Uz hb] at hq;have dM:((ei H line i).map bZ).length=(ei H line i).length:=List.length_map _;by_cases Ig:2000<eK (G.take (i+1))
   ·have he:dU H line=2:=(by rw [hg,if_pos (by omega)]);(conv=>whnf);repeat ((first|refine ⟨ag ⟨by omega,by omega⟩,?_⟩|refine ab.k0 (hq) ?_);conv=>whnf)
    refine cT (by simp;omega) ?_;(conv=>whnf);skip;rw [tZ,he,if_neg (by decide)];exact aa.aB (.cons (aa.nil (by decide)) (.cons (aa.refl _) .nil))
   rcases ho with ⟨he,rfl,rfl⟩|⟨q,rfl,rfl⟩
   all_goals
    (conv=>whnf);repeat ((first|refine ⟨ag ⟨by omega,by omega⟩,?_⟩|refine ab.k0 (hq) ?_);conv=>whnf)
    refine cF (by simp;omega) ?_;(conv=>whnf);repeat ((first|refine ⟨ag ⟨by omega,by omega⟩,?_⟩|(refine ⟨Nat.le_of_ble_eq_true rfl,fun q'=>?_⟩)|(refine ⟨(by simp;unfold aN;omega),fun q'=>⟨_,.here _,?_⟩⟩));conv=>whnf)
    rw [show ((eK (G.take i):Nat):Int)+((((ei H line i).map bZ).length:Nat):Int)=((eK (G.take (i+1)):Nat):Int) by rw [ej,dM,Int.natCast_add]];refine ⟨_,_,ah.refl _ _,_,(by omega),i+1,_,_,rfl,rfl,rfl,by omega,by omega,.inr ⟨q',?_,rfl⟩⟩;rw [cd,List.map_append];first|done|rfl|(rw [he];done)|(rw [he];rfl)
  have Il:=UA (H:=H) (line:=line) (a:=i) (by omega);have he:dU H line=2:=(by rw [hg,if_pos (by omega)]);have dM:((qt H (line.map (gM H)) i).map bZ).length=2001:=(by rw [List.length_map,Il]);(conv=>whnf);repeat ((first|refine ⟨ag ⟨by omega,by omega⟩,?_⟩|refine ab.k0 (hq) ?_);conv=>whnf)
  refine cT (by simp only [decide_eq_true_eq];omega) ?_;(conv=>whnf);skip;rw [tZ,he,if_neg (by decide)];exact aa.aB (.cons (aa.nil (by decide)) (.cons (aa.refl _) .nil))
 rw [List.take_of_length_le (by omega)] at wJ ho;have he:dU H line=0:=(by rw [hg,if_neg (by omega)]);(conv=>whnf);skip;rw [tZ,he,if_pos rfl,<- hG];exact aa.aB (.cons (ho.le (by decide)) (.cons (aa.refl _) .nil))
end Go.Abs.Wall
namespace Go.Abs.Wall
open Go Go.Abs Go.Proofs
theorem Fj {α:Type} {l:List α} {i:Nat} {x d:α} (h:l[i]?=some x):l.getD i d=x:=by rw [List.getD_eq_getElem?_getD,h];rfl
theorem fJ.cC {g:List (List ar)} (h:fJ g):∀ es∈g,∀ x∈es,0<=x.cost/\x.cost<=18000:=by intro es bp x hx;obtain ⟨i,hi⟩:=List.mem_iff_getElem?.1 bp;exact (h.aR i es hi x hx).cost
theorem fJ.rest {g:List (List ar)} (h:fJ g) (i:Nat) (hi:i<=g.length):-1<=eE g i/\eE g i<=1080000:=by have h1:=yD g i hi;have h2:=Iq g h.cC _ (List.mem_of_getElem? h1);have:=h.bB;omega
end Go.Abs.Wall
namespace Go.Abs.Wall
open Go Go.Abs Go.Proofs
end Go.Abs.Wall
