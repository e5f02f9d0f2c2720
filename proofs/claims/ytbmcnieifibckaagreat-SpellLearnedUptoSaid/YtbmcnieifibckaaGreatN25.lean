/- What is proved: small laws for the walks of this seat, and contracts of its functions. No condition but those each theorem names. -/
import Derived.Test.YtbmcnieifibckaaGreatN23
import Derived.Test.YtbmcnieifibckaaGreatN24
import Derived.Test.YtbmcnieifibckaaGreatN8
import Derived.Test.YtbmcnieifibckaaGreatN9
set_option maxRecDepth 100000
set_option maxHeartbeats 2000000
set_option linter.unusedVariables false
set_option linter.unusedSimpArgs false
namespace Go.Abs.Wall.Spl
open Go Go.Abs Go.Proofs Go.Abs.Wall
end Go.Abs.Wall.Spl
namespace Go.Abs.Wall.Spl
open Go Go.Abs Go.Proofs Go.Abs.Wall
end Go.Abs.Wall.Spl
namespace Go.Abs.Wall.Spl
open Go Go.Abs Go.Proofs Go.Abs.Wall
def rU (B:bl) (s:Int):Bool:=decide (B.aA.getD s.toNat 0<0)
def Bd (k:Int) (u:ay):Bool:=decide (u.kind=k)
def dv (k:Int) (us:List ay):Bool:=us.any (Bd k)
def qR:List ay->Bool
 | []=>false
 | v::_=>decide (v.kind=3)
def gY:List ay->Int
 | []=>0
 | u::t=>gY t+(if jZ u=true then 1 else 0)
def fC:List ay->Int
 | []=>0
 | u::t=>fC t+(if (jZ u&&qR t)=true then 1 else 0)
def kN (H:aj) (B:bl) (line:List Int) (w:bU):Bool:=
 (((!line.any (rU B)&&!(decide (B.dy=0)&&dv 3 w.ai))&&!(decide (B.dy=2)&&!decide (gY w.ai=fC w.ai)))&&!(decide (B.cls=0)&&dv 4 w.ai))&&!((decide (B.cls=2)&&!decide ((bZ H.lex w.form.entry).cls=[]))&&!dv 4 w.ai)
def mC (B:bl):List Int->Int
 | []=>0
 | s::l=>B.aA.getD s.toNat 0+mC B l
def KJ (B:bl) (s:Int) (u:ay):Bool:=(rU B s||(decide (u.kind=3)&&decide (B.dy=0)))||(decide (u.kind=4)&&decide (B.cls=0))
def KK (B:bl) (u:ay) (t:List ay):Bool:=(decide (B.dy=2)&&jZ u)&&!qR t
def uH (B:bl):List Int->List ay->Bool->Option Bool
 | s::l,u::us,c=>if KJ B s u=true then none else if KK B u us=true then none else uH B l us (c||decide (u.kind=4))
 | _,_,c=>some c
def KL (H:aj) (B:bl) (line:List Int) (w:bU):Bool:=match uH B line w.ai false with
 | none=>false
 | some c=>(!decide (B.cls=2)||c)||decide ((bZ H.lex w.form.entry).cls=[])
theorem xp:∀ us:List ay,0<=fC us/\fC us<=gY us/\gY us<=us.length
 | []=>by simp [fC,gY]
 | u::t=>by have h:=xp t;rw [fC,gY,List.length_cons];cases jZ u<;>cases qR t<;>simp<;>omega
theorem QP (B:bl):∀ (l:List Int) (us:List ay) (c:Bool),l.length=us.length ->
  uH B l us c=if (((l.any (rU B)||(decide (B.dy=0)&&dv 3 us))||(decide (B.dy=2)&&!decide (gY us=fC us)))||(decide (B.cls=0)&&dv 4 us))=true then none else some (c||dv 4 us)
 | [],[],c,_=>by simp [uH,dv,gY,fC]
 | s::l,u::us,c,h=>by
   have ih:=QP B l us (c||decide (u.kind=4)) (by simpa using h);have hc:=xp us;rw [uH,ih];unfold KJ KK;rw [gY,fC,List.any_cons];unfold dv at *;rw [List.any_cons,List.any_cons];unfold Bd;have hq:decide (gY us+(if jZ u=true then 1 else 0)=fC us+(if (jZ u&&qR us)=true then 1 else 0))=((!jZ u||qR us)&&decide (gY us=fC us)):=by cases jZ u<;>cases qR us<;>simp<;>omega
   rw [hq];generalize rU B s=a1;generalize l.any (rU B)=a2;generalize decide (u.kind=3)=a3;generalize decide (u.kind=4)=a4;generalize decide (B.dy=0)=a5;generalize decide (B.dy=2)=a6;generalize decide (B.cls=0)=a7;generalize jZ u=a8;generalize qR us=a9;generalize decide (gY us=fC us)=b1;generalize (us.any fun u=>decide (u.kind=3))=b2;generalize (us.any fun u=>decide (u.kind=4))=b3;clear ih hc hq h;revert a1 a2 a3 a4 a5 a6 a7 a8 a9 b1 b2 b3 c;decide +kernel
theorem YB (H:aj) (B:bl) {line:List Int} {w:bU} (h:line.length=w.ai.length):KL H B line w=kN H B line w:=by unfold KL kN;rw [QP B line w.ai false h];generalize line.any (rU B)=a1;generalize dv 3 w.ai=a2;generalize dv 4 w.ai=a3;generalize decide (gY w.ai=fC w.ai)=a4;generalize decide (B.dy=0)=a5;generalize decide (B.dy=2)=a6;generalize decide (B.cls=0)=a7;generalize decide (B.cls=2)=a8;generalize decide ((bZ H.lex w.form.entry).cls=[])=a9;revert a1 a2 a3 a4 a5 a6 a7 a8 a9;decide +kernel
def c85:az:=⟨[0,2,3,4,5,6,7,8,9,15,31],[],[5],[],[],[]⟩
def c144:az:=⟨[0,1,2,3],[],[],[],[],[]⟩
def c86:az:=⟨[0,1,3,4],[],[],[],[],[]⟩
def c129:az:=⟨[0,1,3],[],[],[],[],[]⟩
def c71:az:=⟨[0,1,2,3,4,5,7,8,9,10,11,14,30,39,48,57],[],[],[],[],[]⟩
def c72:az:=⟨[0,1,2,4,6,7,8,9,10],[],[],[],[],[]⟩
def c35:az:=⟨[0,1,2,3,4,5,7,8,9,10,11,12,17,27,34],[],[],[],[],[]⟩
theorem YC (k:Int) (u:ay):ae Tryz.prog 144 [.agg (aV u),.au [.int .i64 k]] [] (.bool (Bd k u)):=by refine aG (F:=Tryz.f144) c144 rfl rfl rfl mixed rfl fun X=>?_;(conv=>whnf);skip;exact ⟨rfl,rfl⟩
theorem KM (us:List ay) (k:Int) (hl:us.length<=aw):ae Tryz.prog 86 [.sl 2 none (us.map aV),.int .i64 k] [] (.bool (dv k us)):=by
 have hc:=XU us hl 144 [.au [.int .i64 k]] (Bd k) fun u _=>YC k u;refine aG (F:=Tryz.f86) c86 rfl rfl rfl mixed rfl fun X=>?_;(conv=>whnf);repeat (refine ae.k0 (hc) ?_;conv=>whnf)
 exact ⟨rfl,rfl⟩
theorem QQ (us:List ay) (hl:us.length<=1048576):ae Tryz.prog 85 [.sl 2 none (us.map aV)] [] (.aH [.int .i64 (gY us),.int .i64 (fC us)]):=by
 have nr:=xp us;refine aG (F:=Tryz.f85) c85 rfl rfl rfl mixed rfl fun X=>?_;(conv=>whnf);skip;refine bR rfl mixed [0,2,3,6,7,8] [] (fun m r h=>∃ (i:Nat) (c a:Int),r=[(0,[],.sl 2 none (us.map aV)),(2,[],.int .i64 c),(3,[],.int .i64 a),(6,[],.sl 2 none (us.map aV)),(7,[],.int .i64 (us.map aV).length),(8,[],.int .i64 i)]/\h=[]/\m=us.length - i/\i<=us.length/\(0<=c/\c<=i)/\(0<=a/\a<=i)/\gY us=c+gY (us.drop i)/\fC us=a+fC (us.drop i)) ?_ ?_
 ·(conv=>whnf);exact ⟨_,0,0,0,rfl,rfl,rfl,by omega,⟨by omega,by omega⟩,⟨by omega,by omega⟩,by simp,by simp⟩
 rintro m r h ⟨i,c,a,rfl,rfl,rfl,hi,hc,ha,h1,h2⟩;(conv=>whnf);refine ⟨fun hz=>?_,fun hz=>?_⟩<;>simp at hz
 ·obtain ⟨u,hu⟩:=aL hz;rw [drop_cons hu,gY] at h1;rw [drop_cons hu,fC] at h2;(conv=>whnf);repeat ((first|refine ix (by assumption) ?_|refine ae.k0 (PX u) ?_|refine ⟨_,_,bo.here _,⟨Nat.le_of_ble_eq_true rfl,rfl⟩,?_⟩|intro (nb:Nat));conv=>whnf)
  refine ⟨fun hq=>?_,fun hq=>?_⟩
  ·have hq:(!jZ u)=true:=hq;rw [Bool.not_eq_true'] at hq;rw [hq] at h1 h2;(conv=>whnf);repeat (refine ⟨ah ⟨by omega,by omega⟩,?_⟩;conv=>whnf)
   exact ⟨_,by omega,i+1,c,a,rfl,rfl,rfl,by omega,⟨by omega,by omega⟩,⟨by omega,by omega⟩,by simpa using h1,by simpa using h2⟩
  have hq:(!jZ u)=false:=hq;rw [Bool.not_eq_false'] at hq;rw [hq] at h1 h2;simp only [if_true,Bool.true_and] at h1 h2;by_cases hn:i+1<us.length
  ·obtain ⟨v,hv⟩:=aL hn;have qS:qR (us.drop (i+1))=decide (v.kind=3):=by rw [drop_cons hv];rfl
   rw [qS] at h2;(conv=>whnf);repeat ((first|refine ⟨ah ⟨by omega,by omega⟩,?_⟩|refine ix (by assumption) ?_);conv=>whnf)
   refine ⟨fun hr=>?_,fun hr=>?_⟩
   ·have hr:(decide ((i:Int)+1<((us.map aV).length:Int))&&decide (v.kind=3))=true:=hr;rw [Bool.and_eq_true] at hr;rw [if_pos hr.2] at h2;(conv=>whnf);repeat (refine ⟨ah ⟨by omega,by omega⟩,?_⟩;conv=>whnf)
    exact ⟨_,by omega,i+1,c+1,a+1,rfl,rfl,rfl,by omega,⟨by omega,by omega⟩,⟨by omega,by omega⟩,by omega,by omega⟩
   have hr:(decide ((i:Int)+1<((us.map aV).length:Int))&&decide (v.kind=3))=false:=hr;rw [List.length_map,decide_eq_true (by omega),Bool.true_and] at hr;rw [if_neg (by rw [hr];decide)] at h2;(conv=>whnf);repeat (refine ⟨ah ⟨by omega,by omega⟩,?_⟩;conv=>whnf)
   exact ⟨_,by omega,i+1,c+1,a,rfl,rfl,rfl,by omega,⟨by omega,by omega⟩,⟨by omega,by omega⟩,by omega,by omega⟩
  have qS:qR (us.drop (i+1))=false:=by rw [List.drop_eq_nil_of_le (by omega)];rfl
  rw [qS] at h2;(conv=>whnf);repeat ((first|refine ⟨ah ⟨by omega,by omega⟩,?_⟩|(refine ⟨0,aV u,?_,?_⟩;(focus (conv=>whnf;skip));(focus (intro KN;exact absurd (of_decide_eq_true KN) (by rw [List.length_map];omega)))));conv=>whnf)
  refine cF (by simp;omega) ?_;rw [if_neg (by decide)] at h2;(conv=>whnf);repeat (refine ⟨ah ⟨by omega,by omega⟩,?_⟩;conv=>whnf)
  exact ⟨_,by omega,i+1,c+1,a,rfl,rfl,rfl,by omega,⟨by omega,by omega⟩,⟨by omega,by omega⟩,by omega,by omega⟩
 rw [drop_nil (by omega)] at h1 h2;(conv=>whnf);skip;refine ⟨?_,rfl⟩;rw [h1,h2];simp [gY,fC]
end Go.Abs.Wall.Spl
