/- What is proved: small laws for the walks of this seat, and contracts of its functions. No condition but those each theorem names. -/
import Derived.Test.YtbmcnieifibckaaGreatN37
import Derived.Test.YtbmcnieifibckaaGreatN30
import Derived.Test.YtbmcnieifibckaaGreatN33
set_option maxRecDepth 100000
set_option maxHeartbeats 2000000
set_option linter.unusedVariables false
set_option linter.unusedSimpArgs false
namespace Go.Abs.Wall.Spl
open Go Go.Abs Go.Proofs Go.Abs.Wall
open Go.Abs.Wall.Lst (ea cC eI fA gF gG mu pH)
end Go.Abs.Wall.Spl
namespace Go.Abs.Wall.Spl
open Go Go.Abs Go.Proofs Go.Abs.Wall
open Go.Abs.Wall.Lst (ea cC eI fA gF gG mu pH rM FY CQ yP yQ)
def c45:az:=⟨[0,1,2,3,4,6,7,8,9,10,11,13,14,20,29,32,33,34,35],[],[9,13],[],[],[]⟩
def tG (H:aj) (line:List Int):List aZ:=(ea H line).words.map (·.form)
def zD (H:aj) (B:bl) (line:List Int):Int:=if iB H B≠0 then iB H B else if cC H line 1≠0 then cC H line 1 else iE H B (tG H line)
def xF (H:aj) (B:bl) (line:List Int):List Int:=if iB H B≠0 then [] else if cC H line 1≠0 then [] else tE H B (tG H line)
theorem Se (H:aj) (line:List Int):(tG H line).length<=60/\∀ f∈tG H line,f.ar.length<=1048576:=by have h:=CQ (H:=H) (line:=line);refine ⟨by unfold tG;rw [List.length_map];exact h.1,fun f hf=>?_⟩;obtain ⟨w,hw,rfl⟩:=List.mem_map.1 hf;exact (h.2 w hw).cl
theorem ZX (H:aj) (B:bl) (line:List Int) (hf:dU H) (hB:pS B) (hl:line.length<=1048576) :
  ae Tryz.prog 45 [.agg (bu H),.agg (fN B),.sl 1 none (ints line)] [] (.aH [.sl 1 none (ints (xF H B line)),.int .i64 (zD H B line)]):=by
 have uL:∀ e:Int,ag (.aH [.aT,.int .i64 e]) (.aH [.sl 1 none (ints []),.int .i64 e]):=fun e=>ag.aH (.cons (ag.nil (by decide)) (.cons (ag.refl _) .nil));obtain ⟨dP,iU⟩:=Se H line;refine ae.of ?_;refine aG (F:=Tryz.f45) c45 rfl rfl rfl mixed rfl fun X=>?_;(conv=>whnf);repeat (refine ae.k0 (Ba H B hf hB) ?_;conv=>whnf)
 refine ⟨fun h0=>?_,fun h0=>?_⟩<;>simp at h0
 ·unfold zD xF;rw [if_pos h0,if_pos h0];(conv=>whnf);skip;exact uL _
 (conv=>whnf);repeat ((first|refine ae.k0 (rM H line hf hl) ?_|refine ⟨_,_,bo.here _,⟨Nat.le_of_ble_eq_true rfl,rfl⟩,?_⟩|intro (nb:Nat));conv=>whnf)
 refine ⟨fun h1=>?_,fun h1=>?_⟩<;>simp at h1
 ·have e1:zD H B line=cC H line 1:=by unfold zD;rw [if_neg (by omega),if_pos h1]
  have e2:xF H B line=[]:=by unfold xF;rw [if_neg (by omega),if_pos h1]
  rw [e1,e2];(conv=>whnf);skip;exact uL _
 have e1:zD H B line=iE H B (tG H line):=by unfold zD;rw [if_neg (by omega),if_neg (by omega)]
 have e2:xF H B line=tE H B (tG H line):=by unfold xF;rw [if_neg (by omega),if_neg (by omega)]
 rw [e1,e2];obtain ⟨ws,yA⟩:∃ ws,ws=(ea H line).words:=⟨_,rfl⟩;have zF:tG H line=ws.map (·.form):=by rw [yA];rfl
 rw [zF] at dP iU ⊢;rw [List.length_map] at dP;(conv=>whnf);skip;rw [<- yA];refine bW rfl mixed [3,4,11,32,33,34] [] (fun m r h=>∃ (i:Nat) (v:AV) (hp:af),r=[(3,[],.au (bu H)),(4,[],.au (fN B)),(11,[],v),(32,[],.sl 4 none (ws.map cr)),(33,[],.int .i64 (ws.map cr).length),(34,[],.int .i64 i)]/\h=hp/\m=ws.length - i/\i<=ws.length/\Out 3 eZ ((ws.take i).map (·.form)) v hp) ?_ ?_
 ·(conv=>whnf);exact ⟨_,_,ao.refl _ _,_,0,.aT,[],rfl,rfl,rfl,by omega,.inl ⟨rfl,rfl,rfl⟩⟩
 rintro m r h' ⟨i,v,hp,rfl,rfl,rfl,hi,ho⟩;(conv=>whnf);refine ⟨fun hc=>?_,fun hc=>?_⟩<;>simp at hc
 ·obtain ⟨w,hw⟩:=aL hc;have dG:(ws.take (i+1)).map (·.form)=(ws.take i).map (·.form)++[w.form]:=by rw [dj hw,List.map_append];rfl
  have gQ:(((ws.take i).map (·.form)).map eZ).length<=60:=by rw [List.length_map,List.length_map,List.length_take];omega
  rcases ho with ⟨ml,rfl,rfl⟩|⟨q,rfl,rfl⟩
  ·(conv=>whnf);repeat ((first|refine ⟨ah ⟨by omega,by omega⟩,?_⟩|refine ix (by assumption) ?_|(refine ⟨Nat.le_of_ble_eq_true rfl,fun q=>?_⟩)|refine ⟨_,_,bo.here _,⟨Nat.le_of_ble_eq_true rfl,rfl⟩,?_⟩|intro (nb:Nat));conv=>whnf)
   exact ⟨_,_,ao.refl _ _,_,(by omega),i+1,.sl 3 (some q) [eZ w.form],[(q,.tok)],rfl,rfl,rfl,by omega,.inr ⟨q,by rw [dG,ml];rfl,rfl⟩⟩
  (conv=>whnf);repeat ((first|refine ⟨ah ⟨by omega,by omega⟩,?_⟩|refine ix (by assumption) ?_|(refine ⟨(by rw [List.length_append,List.length_singleton];unfold aU;omega),fun q2=>⟨_,.here _,?_⟩⟩)|refine ⟨_,_,bo.here _,⟨Nat.le_of_ble_eq_true rfl,rfl⟩,?_⟩|intro (nb:Nat));conv=>whnf)
  exact ⟨_,_,ao.refl _ _,_,(by omega),i+1,_,[(q2,.tok)],rfl,rfl,rfl,by omega,.inr ⟨q2,by rw [dG,List.map_append];rfl,rfl⟩⟩
 rw [List.take_of_length_le (by omega)] at ho;have wI:=ae.args (RI H B (ws.map (·.form)) hf hB (by rw [List.length_map];omega) iU) (.cons (ag.refl _) (.cons (ag.refl _) (.cons (ho.le (by decide)) .nil)));(conv=>whnf);repeat ((refine (wI.wide _).k ?_);conv=>whnf)
 (conv=>whnf);skip;exact ag.refl _
theorem ZY (H:aj) (B:bl) (line:List Int):yQ (nx H B line):=by
 unfold nx;split
 ·rename_i h0
  have iP:df H line=0:=by
   unfold kR at h0;split at h0
   ·rename_i h;exact absurd h0 h
   split at h0
   ·rename_i h;exact absurd h0 h
   rename_i h;exact (Lst.tf (by simpa using h)).1
  have we:=DX (B:=B) (oL iP).2.2;cases hq:fA (gx H B line) 1 with
  | nil=>exact ⟨by show 0<=60;omega,fun w hw=>by cases hw⟩
  | cons r t=>
    have hr:r∈fA (gx H B line) 1:=by rw [hq];exact List.mem_cons_self ..
    unfold fA at hr;obtain ⟨p,hp,rfl⟩:=List.mem_map.1 hr;obtain ⟨h3,h4⟩:=Lst.OW we (gx H B line).length 0 (by omega) p (List.mem_of_mem_take hp);have:=we.bB;refine ⟨by show (List.map _ _).length<=60;rw [List.length_map];omega,fun w hw=>?_⟩;obtain ⟨x,hx,rfl⟩:=List.mem_map.1 hw;exact h4 x hx
 exact ⟨by show 0<=60;omega,fun w hw=>by cases hw⟩
end Go.Abs.Wall.Spl
