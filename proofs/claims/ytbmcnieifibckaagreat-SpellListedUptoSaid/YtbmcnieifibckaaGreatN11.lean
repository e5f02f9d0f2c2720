/- What is proved: small laws for the walks of this seat, and contracts of its functions. No condition but those each theorem names. -/
import Derived.Test.YtbmcnieifibckaaGreatN9
import Derived.Test.YtbmcnieifibckaaGreatN7
import Derived.Test.YtbmcnieifibckaaGreatN10
set_option maxRecDepth 100000
set_option maxHeartbeats 2000000
set_option linter.unusedVariables false
set_option linter.unusedSimpArgs false
namespace Go.Abs.Wall
open Go Go.Abs Go.Proofs
structure Mw where
 cost:Int
 at_:Int
 err:Int
deriving DecidableEq
def DW (H:ax) (line:List Int) (w:cO):Bool:=decide ((line.length:Int)<w.aj.length)||!kC H (line.take w.aj.length) w
def xK (H:ax):List Int->List cO->Int->Int->Mw
 | line,[],c,i=>if 0<line.length then ⟨0,i,52⟩ else ⟨c,0,0⟩
 | line,w::t,c,i=>if dT H.lex w.form≠0 then ⟨0,i,dT H.lex w.form⟩ else if DW H line w=true then ⟨0,i,51⟩ else xK H (line.drop w.aj.length) t (c+iM H w) (i+1)
def vR (H:ax) (line:List Int) (ws:List cO):Mw:=if eb H line≠0 then ⟨0,0,eb H line⟩ else xK H line ws 0 0
theorem xL {H:ax} {line:List Int} {w:cO} (h:kC H line w=true):1<=w.aj.length/\w.aj.length<=12/\line.length=w.aj.length:=by unfold kC at h;rw [Bool.and_eq_true,Bool.and_eq_true,dS,decide_eq_true_eq] at h;omega
end Go.Abs.Wall
namespace Go.Abs.Wall
open Go Go.Abs Go.Proofs
structure DX (n i:Nat) (x:az):Prop where
 to:x.to=i+x.word.aj.length
 lo:(i:Int)<x.to
 hi:x.to<=n
 cost:0<=x.cost/\x.cost<=18000
 fit:od x.word
structure gV (g:List (List az)):Prop where
 bE:g.length<=60
 many:∀ (i:Nat) es,g[i]?=some es->es.length<=2000
 aP:∀ (i:Nat) es,g[i]?=some es->∀ x∈es,DX g.length i x
theorem tq (H:ax) (line:List Int):(dn H line).length=line.length:=by simp [dn]
theorem vS {H:ax} {line:List Int} {i:Nat} (hi:i<line.length):(dn H line)[i]?=some (cD H line i):=by rw [dn,List.getElem?_map,List.getElem?_range hi];rfl
theorem Bo {H:ax} {line:List Int} (h:ed H line=0):qR H line/\eu (dn H line)<=2000/\gV (dn H line):=by
 unfold ed at h;split at h
 ·rename_i h1;exact absurd h h1
 rename_i h1;split at h
 ·cases h
 rename_i h2;have hL:=qS (H:=H) (line:=line) (by simpa using h1);refine ⟨hL,by omega,⟨by rw [tq];exact hL.bE,fun i es bp=>?_,fun i es bp x hx=>?_⟩⟩
 ·have h3:=DY (g:=dn H line) (i+1);rw [dg bp,DZ] at h3;omega
 have hi:i<line.length:=by have:=(List.getElem?_eq_some_iff.1 bp).1;rwa [tq] at this
 rw [vS hi] at bp;cases bp
 obtain ⟨ha,hb,hc⟩:=Hb hL.jc hL.aB (by omega) x hx;have:=ha.to;have:=ha.some;have h5:=ha.cl;have h6:=ha.bE;exact ⟨ha.to,by omega,by rw [tq];omega,hc,⟨by omega,by omega⟩⟩
def vT (H:ax) (line:List Int):List (List az):=if ed H line=0 then dn H line else []
def c97:aw:=⟨[0,1,2,4,5,6,7,8,9,10,11,12,16,23,31,43],[],[],[],[],[]⟩
theorem TY (H:ax) (line:List Int) (hf:eP H) (hl:line.length<=1048576) :
  ae Tryz.prog 97 [.agg (bJ H),.sl 1 none (ints line)] [] (.aQ [.sl 1 none ((vT H line).map oW),.int .i64 (ed H line)]):=by
 refine ae.of ?_;refine aG (F:=Tryz.f97) c97 rfl rfl rfl mixed rfl fun X=>?_;(conv=>whnf);repeat (refine ae.k0 (TZ H hf) ?_;conv=>whnf)
 refine ⟨fun h0=>?_,fun h0=>?_⟩<;>simp at h0
 ·have h1:eb H line=eG H:=(by rw [eb,if_pos h0]);have he:ed H line=eG H:=(by rw [ed,h1,if_pos h0]);(conv=>whnf);skip;rw [vT,he,if_neg h0];exact ag.aQ (.cons (ag.nil (by decide)) (.cons (ag.refl _) .nil))
 (conv=>whnf);repeat (refine ae.k0 (Ua hf h0 (line:=line) (by unfold aq;omega)) ?_;conv=>whnf)
 refine ⟨fun h1=>?_,fun h1=>?_⟩<;>simp at h1
 ·have he:ed H line=eb H line:=(by rw [ed,if_pos h1]);(conv=>whnf);skip;rw [vT,he,if_neg h1];exact ag.aQ (.cons (ag.nil (by decide)) (.cons (ag.refl _) .nil))
 have hL:=qS h1;have dI:=hL.bE;have hg:ed H line=if 2000<eu (dn H line) then 2 else 0:=(by rw [ed,if_neg (by omega)]);obtain ⟨G,hG⟩:∃ G,G=dn H line:=⟨_,rfl⟩;have Ea:G.length=line.length:=by rw [hG];exact tq H line
 have Bp:∀ i,i<line.length->G[i]?=some (cD H line i):=fun i hi=>by rw [hG];exact vS hi
 rw [<- hG] at hg;(conv=>whnf);repeat (refine ae.k0 (TQ H line hf hL) ?_;conv=>whnf)
 refine cy rfl mixed [1,2,8,9,10,11] [] (fun m r h=>∃ (i:Nat) (v:AV) (hp:ab),r=[(1,[],.sl 1 none (ints line)),(2,[],.au (bJ H)),(8,[],.sl 1 none ((line.map (fg H)).map fD)),(9,[],v),(10,[],.int .i64 (eu (G.take i):Nat)),(11,[],.int .i64 i)]/\h=hp/\m=line.length - i/\i<=line.length/\eu (G.take i)<=2000/\Out 1 oW (G.take i) v hp) ?_ ?_
 ·(conv=>whnf);exact ⟨_,_,ar.refl _ _,_,0,_,[],by simp [eu],rfl,rfl,by omega,by simp [eu],.inl ⟨by simp,rfl,rfl⟩⟩
 rintro m r h' ⟨i,v,hp,rfl,rfl,rfl,hi,vU,ho⟩;(conv=>whnf);skip;refine ⟨fun aD=>?_,fun aD=>?_⟩<;>simp at aD
 ·have Hc:=Bp i aD;have ch:=dg Hc;have gJ:eu (G.take (i+1))=eu (G.take i)+(cD H line i).length:=(by rw [ch,DZ]);have aA:=DY (g:=G) (i+1);have hq:=TP H (line.map (fg H)) i (TS hf hL (by omega));by_cases hb:(cD H line i).length<=2000
  ·rw [TU hb] at hq;have jf:((cD H line i).map cx).length=(cD H line i).length:=List.length_map _;by_cases GS:2000<eu (G.take (i+1))
   ·have he:ed H line=2:=(by rw [hg,if_pos (by omega)]);(conv=>whnf);repeat ((first|refine ⟨af ⟨by omega,by omega⟩,?_⟩|refine ae.k0 (hq) ?_);conv=>whnf)
    refine cT (by simp;omega) ?_;(conv=>whnf);skip;rw [vT,he,if_neg (by decide)];exact ag.aQ (.cons (ag.nil (by decide)) (.cons (ag.refl _) .nil))
   rcases ho with ⟨he,rfl,rfl⟩|⟨q,rfl,rfl⟩
   all_goals
    (conv=>whnf);repeat ((first|refine ⟨af ⟨by omega,by omega⟩,?_⟩|refine ae.k0 (hq) ?_);conv=>whnf)
    refine cF (by simp;omega) ?_;(conv=>whnf);repeat ((first|refine ⟨af ⟨by omega,by omega⟩,?_⟩|(refine ⟨Nat.le_of_ble_eq_true rfl,fun q'=>?_⟩)|(refine ⟨(by simp;unfold aV;omega),fun q'=>⟨_,.here _,?_⟩⟩));conv=>whnf)
    rw [show ((eu (G.take i):Nat):Int)+((((cD H line i).map cx).length:Nat):Int)=((eu (G.take (i+1)):Nat):Int) by rw [gJ,jf,Int.natCast_add]];refine ⟨_,_,ar.refl _ _,_,(by omega),i+1,_,_,rfl,rfl,rfl,by omega,by omega,.inr ⟨q',?_,rfl⟩⟩;rw [ch,List.map_append];first|done|rfl|(rw [he];done)|(rw [he];rfl)
  have GZ:=TV (H:=H) (line:=line) (a:=i) (by omega);have he:ed H line=2:=(by rw [hg,if_pos (by omega)]);have jf:((pV H (line.map (fg H)) i).map cx).length=2001:=(by rw [List.length_map,GZ]);(conv=>whnf);repeat ((first|refine ⟨af ⟨by omega,by omega⟩,?_⟩|refine ae.k0 (hq) ?_);conv=>whnf)
  refine cT (by simp only [decide_eq_true_eq];omega) ?_;(conv=>whnf);skip;rw [vT,he,if_neg (by decide)];exact ag.aQ (.cons (ag.nil (by decide)) (.cons (ag.refl _) .nil))
 rw [List.take_of_length_le (by omega)] at vU ho;have he:ed H line=0:=(by rw [hg,if_neg (by omega)]);(conv=>whnf);skip;rw [vT,he,if_pos rfl,<- hG];exact ag.aQ (.cons (ho.le (by decide)) (.cons (ag.refl _) .nil))
end Go.Abs.Wall
namespace Go.Abs.Wall
open Go Go.Abs Go.Proofs
theorem xM {α:Type} {l:List α} {i:Nat} {x d:α} (h:l[i]?=some x):l.getD i d=x:=by rw [List.getD_eq_getElem?_getD,h];rfl
theorem gV.cq {g:List (List az)} (h:gV g):∀ es∈g,∀ x∈es,0<=x.cost/\x.cost<=18000:=by intro es bp x hx;obtain ⟨i,hi⟩:=List.mem_iff_getElem?.1 bp;exact (h.aP i es hi x hx).cost
theorem gV.rest {g:List (List az)} (h:gV g) (i:Nat) (hi:i<=g.length):-1<=ij g i/\ij g i<=1080000:=by have h1:=xN g i hi;have h2:=Hd g h.cq _ (List.mem_of_getElem? h1);have:=h.bE;omega
end Go.Abs.Wall
namespace Go.Abs.Wall
open Go Go.Abs Go.Proofs
end Go.Abs.Wall
