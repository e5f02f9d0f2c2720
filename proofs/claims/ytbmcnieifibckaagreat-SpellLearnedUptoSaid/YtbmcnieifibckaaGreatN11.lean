/- What is proved: small laws for the walks of this seat, and contracts of its functions. No condition but those each theorem names. -/
import Derived.Test.YtbmcnieifibckaaGreatN9
import Derived.Test.YtbmcnieifibckaaGreatN7
import Derived.Test.YtbmcnieifibckaaGreatN10
set_option maxRecDepth 100000
set_option maxHeartbeats 2000000
set_option linter.unusedVariables false
set_option linter.unusedSimpArgs false
namespace Go.Abs.Wall
open Go Go.Abs Go.Proofs
structure IQ where
 cost:Int
 at_:Int
 err:Int
deriving DecidableEq
def vh (H:aj) (line:List Int) (w:bU):Bool:=decide ((line.length:Int)<w.ai.length)||!jl H (line.take w.ai.length) w
def oJ (H:aj):List Int->List bU->Int->Int->IQ
 | line,[],c,i=>if 0<line.length then ⟨0,i,52⟩ else ⟨c,0,0⟩
 | line,w::t,c,i=>if dZ H.lex w.form≠0 then ⟨0,i,dZ H.lex w.form⟩ else if vh H line w=true then ⟨0,i,51⟩ else oJ H (line.drop w.ai.length) t (c+gC H w) (i+1)
def kX (H:aj) (line:List Int) (ws:List bU):IQ:=if dX H line≠0 then ⟨0,0,dX H line⟩ else oJ H line ws 0 0
def VO (v:IQ):AV:=.aH [.int .i64 v.cost,.int .i64 v.at_,.int .i64 v.err]
structure Od (ws:List bU):Prop where
 many:ws.length<=1048576
 cl:∀ w∈ws,w.form.ar.length<=1048576
 us:∀ w∈ws,w.ai.length<=1048576
 text:∀ w∈ws,∀ u∈w.ai,u.text.length<=1048576
theorem rG {H:aj} {line:List Int} {w:bU} (h:jl H line w=true):1<=w.ai.length/\w.ai.length<=12/\line.length=w.ai.length:=by unfold jl at h;rw [Bool.and_eq_true,Bool.and_eq_true,dY,decide_eq_true_eq] at h;omega
theorem Oe {H:aj} {line:List Int} {w:bU} (h:vh H line w=false):1<=w.ai.length/\w.ai.length<=12/\w.ai.length<=line.length/\jl H (line.take w.ai.length) w=true:=by unfold vh at h;rw [Bool.or_eq_false_iff,decide_eq_false_iff_not,Bool.not_eq_false'] at h;have:=rG h.2;exact ⟨this.1,this.2.1,by omega,h.2⟩
def c47:az:=⟨[0,1,2,3,6,7,8,9,10,11,12,13,18,20,21,22,23,33,51,64],[],[11],[],[(11,[0,1,2,3,4,5,6,7,8,9,10,11,12],[])],[]⟩
theorem Of (H:aj) (line:List Int) (ws:List bU) (hf:dU H) (hl:line.length<=1048576) (hw:Od ws) :
  ae Tryz.prog 47 [.agg (bu H),.sl 1 none (ints line),.sl 4 none (ws.map cr)] [] (VO (kX H line ws)):=by
 have yA:=hw.many;refine aG (F:=Tryz.f47) c47 rfl rfl rfl mixed rfl fun X=>?_;(conv=>whnf);repeat (refine ae.k0 (Fy H line hf (by unfold aw;omega)) ?_;conv=>whnf)
 refine ⟨fun h1=>?_,fun h1=>?_⟩<;>simp at h1
 ·have he:kX H line ws=⟨0,0,dX H line⟩:=(by rw [kX,if_pos h1]);(conv=>whnf);skip;rw [he];exact ⟨rfl,rfl⟩
 have hL:=mS h1;have dw:=hL.bB;have h0:kX H line ws=oJ H line ws 0 0:=(by rw [kX,if_neg (by omega)]);(conv=>whnf);skip;refine bR rfl mixed [1,2,3,6,20,21,22] [] (fun m r h=>∃ (i:Nat) (ln:List Int) (c:Int),r=[(1,[],.sl 1 none (ints ln)),(2,[],.sl 4 none (ws.map cr)),(3,[],.au (bu H)),(6,[],.int .i64 c),(20,[],.sl 4 none (ws.map cr)),(21,[],.int .i64 (ws.map cr).length),(22,[],.int .i64 i)]/\h=[]/\m=ws.length - i/\i<=ws.length/\ln.length<=60/\(∀ s∈ln,0<=s/\s<H.list.aA.length)/\0<=c/\c<=18000*i/\kX H line ws=oJ H ln (ws.drop i) c i) ?_ ?_
 ·(conv=>whnf);exact ⟨_,0,line,0,rfl,rfl,rfl,by omega,dw,hL.aA,by omega,by omega,h0⟩
 rintro m r h ⟨i,ln,c,rfl,rfl,rfl,hi,gD,wI,kY,eO,hg⟩;(conv=>whnf);refine ⟨fun aD=>?_,fun aD=>?_⟩<;>simp at aD
 ·obtain ⟨w,kZ⟩:=aL aD;have hm:=List.mem_of_getElem? kZ;have bz:=hw.cl w hm;have gT:=hw.us w hm;have Au:=hw.text w hm;rw [drop_cons kZ,oJ] at hg;(conv=>whnf);repeat ((first|refine ix (by assumption) ?_|refine ae.k0 (Cp H.lex w.form hf.lex (by unfold aw;omega)) ?_|(intro (NN:Nat))|refine ⟨_,_,bo.here _,⟨Nat.le_of_ble_eq_true rfl,rfl⟩,?_⟩);conv=>whnf)
  refine ⟨fun h2=>?_,fun h2=>?_⟩<;>simp at h2
  ·rw [if_pos h2] at hg;rw [hg];(conv=>whnf);skip;exact ⟨rfl,rfl⟩
  rw [if_neg (by simpa using h2)] at hg;have hF:=mn h2;have jf:=Og H (ln.take w.ai.length) w hL.ia (fun s hs=>wI s (List.mem_of_mem_take hs)) (by rw [List.length_take];omega) hF Au gT;rw [show ints (ln.take w.ai.length)=((ints ln).take ((w.ai.map aV).length:Int).toNat).drop (0:Int).toNat by unfold ints;rw [List.length_map,<- List.map_take];rfl] at jf;(conv=>whnf);repeat ((first|(refine And.intro ?_ ?_;(focus ((conv=>whnf);intro g0;have g0:=of_decide_eq_false g0;refine ⟨?_,?_,?_⟩<;>omega)))|refine ba (jf) ?_|refine And.intro (by show aP (aN Tryz.f47 _) _=true;decide +kernel) ?_);conv=>whnf)
  refine ⟨fun h3=>?_,fun h3=>?_⟩
  ·have h3:(decide (((ints ln).length:Int)<((w.ai.map aV).length:Int))||!jl H (ln.take w.ai.length) w)=true:=h3;rw [cg,List.length_map] at h3;have h3:vh H ln w=true:=h3;rw [if_pos h3] at hg;rw [hg];(conv=>whnf);skip;exact ⟨rfl,rfl⟩
  have h3:(decide (((ints ln).length:Int)<((w.ai.map aV).length:Int))||!jl H (ln.take w.ai.length) w)=false:=h3;rw [cg,List.length_map] at h3;have h3:vh H ln w=false:=h3;rw [if_neg (by rw [h3];decide)] at hg;have hn:=Oe h3;have wJ:=FA hL.ia (w:=w);(conv=>whnf);repeat ((first|refine ⟨ah ⟨by omega,by omega⟩,?_⟩|refine ae.k0 (FB H w hf.lex hL.ia (by unfold aw;omega) hF.entry gT) ?_|(refine ⟨ah ⟨by rw [List.length_map];omega,by rw [List.length_map,cg];omega,by rw [cg];omega⟩,?_⟩));conv=>whnf)
  have sJ:List.drop ((w.ai.map aV).length:Int).toNat ((ints ln).take ((ints ln).length:Int).toNat)=ints (ln.drop w.ai.length):=by rw [show ((ints ln).length:Int).toNat=(ints ln).length from rfl,List.take_length,List.length_map];unfold ints;rw [List.map_drop];rfl
  rw [sJ];exact ⟨_,by omega,i+1,ln.drop w.ai.length,c+gC H w,rfl,rfl,rfl,by omega,by rw [List.length_drop];omega,fun s hs=>wI s (List.mem_of_mem_drop hs),by omega,by omega,hg⟩
 rw [drop_nil aD,oJ] at hg;have bC:i=ws.length:=(by omega);(conv=>whnf);skip;refine ⟨fun h2=>?_,fun h2=>?_⟩<;>simp at h2
 ·rw [if_pos h2] at hg;rw [hg,bC];(conv=>whnf);skip;refine ⟨?_,rfl⟩;rw [List.length_map];rfl
 rw [if_neg (by simp [h2])] at hg;rw [hg];(conv=>whnf);skip;exact ⟨rfl,rfl⟩
end Go.Abs.Wall
namespace Go.Abs.Wall
open Go Go.Abs Go.Proofs
structure FC (n i:Nat) (x:av):Prop where
 to:x.to=i+x.word.ai.length
 lo:(i:Int)<x.to
 hi:x.to<=n
 cost:0<=x.cost/\x.cost<=18000
 fit:pz x.word
structure fX (g:List (List av)):Prop where
 bB:g.length<=60
 many:∀ (i:Nat) es,g[i]?=some es->es.length<=2000
 aO:∀ (i:Nat) es,g[i]?=some es->∀ x∈es,FC g.length i x
theorem oK (H:aj) (line:List Int):(bX H line).length=line.length:=by simp [bX]
theorem rH {H:aj} {line:List Int} {i:Nat} (hi:i<line.length):(bX H line)[i]?=some (dE H line i):=by rw [bX,List.getElem?_map,List.getElem?_range hi];rfl
theorem oL {H:aj} {line:List Int} (h:df H line=0):rF H line/\eH (bX H line)<=2000/\fX (bX H line):=by
 unfold df at h;split at h
 ·rename_i h1;exact absurd h h1
 rename_i h1;split at h
 ·cases h
 rename_i h2;have hL:=mS (H:=H) (line:=line) (by simpa using h1);refine ⟨hL,by omega,⟨by rw [oK];exact hL.bB,fun i es bc=>?_,fun i es bc x hx=>?_⟩⟩
 ·have h3:=FD (g:=bX H line) (i+1);rw [dj bc,FE] at h3;omega
 have hi:i<line.length:=by have:=(List.getElem?_eq_some_iff.1 bc).1;rwa [oK] at this
 rw [rH hi] at bc;cases bc
 obtain ⟨ha,hb,hc⟩:=FF hL.ia hL.aA (by omega) x hx;have:=ha.to;have:=ha.some;have h5:=ha.cl;have h6:=ha.bB;exact ⟨ha.to,by omega,by rw [oK];omega,hc,⟨by omega,by omega⟩⟩
def wK (H:aj) (line:List Int):List (List av):=if df H line=0 then bX H line else []
def c97:az:=⟨[0,1,2,4,5,6,7,8,9,10,11,12,16,23,31,43],[],[],[],[],[]⟩
theorem VP (H:aj) (line:List Int) (hf:dU H) (hl:line.length<=1048576) :
  ae Tryz.prog 97 [.agg (bu H),.sl 1 none (ints line)] [] (.aH [.sl 1 none ((wK H line).map pA),.int .i64 (df H line)]):=by
 refine ae.of ?_;refine aG (F:=Tryz.f97) c97 rfl rfl rfl mixed rfl fun X=>?_;(conv=>whnf);repeat (refine ae.k0 (VQ H hf) ?_;conv=>whnf)
 refine ⟨fun h0=>?_,fun h0=>?_⟩<;>simp at h0
 ·have h1:dX H line=eo H:=(by rw [dX,if_pos h0]);have he:df H line=eo H:=(by rw [df,h1,if_pos h0]);(conv=>whnf);skip;rw [wK,he,if_neg h0];exact ag.aH (.cons (ag.nil (by decide)) (.cons (ag.refl _) .nil))
 (conv=>whnf);repeat (refine ae.k0 (VR hf h0 (line:=line) (by unfold aw;omega)) ?_;conv=>whnf)
 refine ⟨fun h1=>?_,fun h1=>?_⟩<;>simp at h1
 ·have he:df H line=dX H line:=(by rw [df,if_pos h1]);(conv=>whnf);skip;rw [wK,he,if_neg h1];exact ag.aH (.cons (ag.nil (by decide)) (.cons (ag.refl _) .nil))
 have hL:=mS h1;have dw:=hL.bB;have hg:df H line=if 2000<eH (bX H line) then 2 else 0:=(by rw [df,if_neg (by omega)]);obtain ⟨G,hG⟩:∃ G,G=bX H line:=⟨_,rfl⟩;have FG:G.length=line.length:=by rw [hG];exact oK H line
 have Cq:∀ i,i<line.length->G[i]?=some (dE H line i):=fun i hi=>by rw [hG];exact rH hi
 rw [<- hG] at hg;(conv=>whnf);repeat (refine ae.k0 (VI H line hf hL) ?_;conv=>whnf)
 refine bW rfl mixed [1,2,8,9,10,11] [] (fun m r h=>∃ (i:Nat) (v:AV) (hp:af),r=[(1,[],.sl 1 none (ints line)),(2,[],.au (bu H)),(8,[],.sl 1 none ((line.map (gn H)).map fW)),(9,[],v),(10,[],.int .i64 (eH (G.take i):Nat)),(11,[],.int .i64 i)]/\h=hp/\m=line.length - i/\i<=line.length/\eH (G.take i)<=2000/\Out 1 pA (G.take i) v hp) ?_ ?_
 ·(conv=>whnf);exact ⟨_,_,ao.refl _ _,_,0,_,[],by simp [eH],rfl,rfl,by omega,by simp [eH],.inl ⟨by simp,rfl,rfl⟩⟩
 rintro m r h' ⟨i,v,hp,rfl,rfl,rfl,hi,wL,ho⟩;(conv=>whnf);skip;refine ⟨fun aD=>?_,fun aD=>?_⟩<;>simp at aD
 ·have IS:=Cq i aD;have cj:=dj IS;have dG:eH (G.take (i+1))=eH (G.take i)+(dE H line i).length:=(by rw [cj,FE]);have aF:=FD (g:=G) (i+1);have hq:=VH H (line.map (gn H)) i (VK hf hL (by omega));by_cases hb:(dE H line i).length<=2000
  ·rw [VL hb] at hq;have ju:((dE H line i).map cz).length=(dE H line i).length:=List.length_map _;by_cases II:2000<eH (G.take (i+1))
   ·have he:df H line=2:=(by rw [hg,if_pos (by omega)]);(conv=>whnf);repeat ((first|refine ⟨ah ⟨by omega,by omega⟩,?_⟩|refine ae.k0 (hq) ?_);conv=>whnf)
    refine cT (by simp;omega) ?_;(conv=>whnf);skip;rw [wK,he,if_neg (by decide)];exact ag.aH (.cons (ag.nil (by decide)) (.cons (ag.refl _) .nil))
   rcases ho with ⟨he,rfl,rfl⟩|⟨q,rfl,rfl⟩
   all_goals
    (conv=>whnf);repeat ((first|refine ⟨ah ⟨by omega,by omega⟩,?_⟩|refine ae.k0 (hq) ?_);conv=>whnf)
    refine cF (by simp;omega) ?_;(conv=>whnf);repeat ((first|refine ⟨ah ⟨by omega,by omega⟩,?_⟩|(refine ⟨Nat.le_of_ble_eq_true rfl,fun q'=>?_⟩)|(refine ⟨(by simp;unfold aU;omega),fun q'=>⟨_,.here _,?_⟩⟩));conv=>whnf)
    rw [show ((eH (G.take i):Nat):Int)+((((dE H line i).map cz).length:Nat):Int)=((eH (G.take (i+1)):Nat):Int) by rw [dG,ju,Int.natCast_add]];refine ⟨_,_,ao.refl _ _,_,(by omega),i+1,_,_,rfl,rfl,rfl,by omega,by omega,.inr ⟨q',?_,rfl⟩⟩;rw [cj,List.map_append];first|done|rfl|(rw [he];done)|(rw [he];rfl)
  have IP:=VM (H:=H) (line:=line) (a:=i) (by omega);have he:df H line=2:=(by rw [hg,if_pos (by omega)]);have ju:((qz H (line.map (gn H)) i).map cz).length=2001:=(by rw [List.length_map,IP]);(conv=>whnf);repeat ((first|refine ⟨ah ⟨by omega,by omega⟩,?_⟩|refine ae.k0 (hq) ?_);conv=>whnf)
  refine cT (by simp only [decide_eq_true_eq];omega) ?_;(conv=>whnf);skip;rw [wK,he,if_neg (by decide)];exact ag.aH (.cons (ag.nil (by decide)) (.cons (ag.refl _) .nil))
 rw [List.take_of_length_le (by omega)] at wL ho;have he:df H line=0:=(by rw [hg,if_neg (by omega)]);(conv=>whnf);skip;rw [wK,he,if_pos rfl,<- hG];exact ag.aH (.cons (ho.le (by decide)) (.cons (ag.refl _) .nil))
end Go.Abs.Wall
namespace Go.Abs.Wall
open Go Go.Abs Go.Proofs
theorem vj {α:Type} {l:List α} {i:Nat} {x d:α} (h:l[i]?=some x):l.getD i d=x:=by rw [List.getD_eq_getElem?_getD,h];rfl
theorem fX.ct {g:List (List av)} (h:fX g):∀ es∈g,∀ x∈es,0<=x.cost/\x.cost<=18000:=by intro es bc x hx;obtain ⟨i,hi⟩:=List.mem_iff_getElem?.1 bc;exact (h.aO i es hi x hx).cost
theorem fX.rest {g:List (List av)} (h:fX g) (i:Nat) (hi:i<=g.length):-1<=ez g i/\ez g i<=1080000:=by have h1:=yB g i hi;have h2:=IT g h.ct _ (List.mem_of_getElem? h1);have:=h.bB;omega
end Go.Abs.Wall
namespace Go.Abs.Wall
open Go Go.Abs Go.Proofs
end Go.Abs.Wall
