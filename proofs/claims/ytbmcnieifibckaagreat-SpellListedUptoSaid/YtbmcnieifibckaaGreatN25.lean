/- What is proved: small laws for the walks of this seat, and contracts of its functions. No condition but those each theorem names. -/
import Derived.Test.YtbmcnieifibckaaGreatN23
import Derived.Test.YtbmcnieifibckaaGreatN24
import Derived.Test.YtbmcnieifibckaaGreatN8
import Derived.Test.YtbmcnieifibckaaGreatN9
set_option maxRecDepth 100000
set_option maxHeartbeats 2000000
set_option linter.unusedVariables false
set_option linter.unusedSimpArgs false
namespace Go.Abs.Wall.Spl
open Go Go.Abs Go.Proofs Go.Abs.Wall
end Go.Abs.Wall.Spl
namespace Go.Abs.Wall.Spl
open Go Go.Abs Go.Proofs Go.Abs.Wall
end Go.Abs.Wall.Spl
namespace Go.Abs.Wall.Spl
open Go Go.Abs Go.Proofs Go.Abs.Wall
def sB (B:bX) (s:Int):Bool:=decide (B.aB.getD s.toNat 0<0)
def Ct (k:Int) (u:ao):Bool:=decide (u.kind=k)
def iV (k:Int) (us:List ao):Bool:=us.any (Ct k)
def qk:List ao->Bool
 | []=>false
 | v::_=>decide (v.kind=3)
def kO:List ao->Int
 | []=>0
 | u::t=>kO t+(if ko u=true then 1 else 0)
def kP:List ao->Int
 | []=>0
 | u::t=>kP t+(if (ko u&&qk t)=true then 1 else 0)
def sC (H:ax) (B:bX) (line:List Int) (w:cO):Bool:=
 (((!line.any (sB B)&&!(decide (B.dM=0)&&iV 3 w.aj))&&!(decide (B.dM=2)&&!decide (kO w.aj=kP w.aj)))&&!(decide (B.cls=0)&&iV 4 w.aj))&&!((decide (B.cls=2)&&!decide ((cd H.lex w.form.entry).cls=[]))&&!iV 4 w.aj)
def mm (B:bX):List Int->Int
 | []=>0
 | s::l=>B.aB.getD s.toNat 0+mm B l
def Fi (B:bX) (s:Int) (u:ao):Bool:=(sB B s||(decide (u.kind=3)&&decide (B.dM=0)))||(decide (u.kind=4)&&decide (B.cls=0))
def Jn (B:bX) (u:ao) (t:List ao):Bool:=(decide (B.dM=2)&&ko u)&&!qk t
def sD (B:bX):List Int->List ao->Bool->Option Bool
 | s::l,u::us,c=>if Fi B s u=true then none else if Jn B u us=true then none else sD B l us (c||decide (u.kind=4))
 | _,_,c=>some c
def Jo (H:ax) (B:bX) (line:List Int) (w:cO):Bool:=match sD B line w.aj false with
 | none=>false
 | some c=>(!decide (B.cls=2)||c)||decide ((cd H.lex w.form.entry).cls=[])
theorem Jp:∀ us:List ao,0<=kP us/\kP us<=kO us/\kO us<=us.length
 | []=>by simp [kP,kO]
 | u::t=>by have h:=Jp t;rw [kP,kO,List.length_cons];cases ko u<;>cases qk t<;>simp<;>omega
theorem Pm (B:bX):∀ (l:List Int) (us:List ao) (c:Bool),l.length=us.length ->
  sD B l us c=if (((l.any (sB B)||(decide (B.dM=0)&&iV 3 us))||(decide (B.dM=2)&&!decide (kO us=kP us)))||(decide (B.cls=0)&&iV 4 us))=true then none else some (c||iV 4 us)
 | [],[],c,_=>by simp [sD,iV,kO,kP]
 | s::l,u::us,c,h=>by
   have ih:=Pm B l us (c||decide (u.kind=4)) (by simpa using h);have hc:=Jp us;rw [sD,ih];unfold Fi Jn;rw [kO,kP,List.any_cons];unfold iV at *;rw [List.any_cons,List.any_cons];unfold Ct;have hq:decide (kO us+(if ko u=true then 1 else 0)=kP us+(if (ko u&&qk us)=true then 1 else 0))=((!ko u||qk us)&&decide (kO us=kP us)):=by cases ko u<;>cases qk us<;>simp<;>omega
   rw [hq];generalize sB B s=a1;generalize l.any (sB B)=a2;generalize decide (u.kind=3)=a3;generalize decide (u.kind=4)=a4;generalize decide (B.dM=0)=a5;generalize decide (B.dM=2)=a6;generalize decide (B.cls=0)=a7;generalize ko u=a8;generalize qk us=a9;generalize decide (kO us=kP us)=b1;generalize (us.any fun u=>decide (u.kind=3))=b2;generalize (us.any fun u=>decide (u.kind=4))=b3;clear ih hc hq h;revert a1 a2 a3 a4 a5 a6 a7 a8 a9 b1 b2 b3 c;decide +kernel
theorem WK (H:ax) (B:bX) {line:List Int} {w:cO} (h:line.length=w.aj.length):Jo H B line w=sC H B line w:=by unfold Jo sC;rw [Pm B line w.aj false h];generalize line.any (sB B)=a1;generalize iV 3 w.aj=a2;generalize iV 4 w.aj=a3;generalize decide (kO w.aj=kP w.aj)=a4;generalize decide (B.dM=0)=a5;generalize decide (B.dM=2)=a6;generalize decide (B.cls=0)=a7;generalize decide (B.cls=2)=a8;generalize decide ((cd H.lex w.form.entry).cls=[])=a9;revert a1 a2 a3 a4 a5 a6 a7 a8 a9;decide +kernel
def c85:aw:=⟨[0,2,3,4,5,6,7,8,9,15,31],[],[5],[],[],[]⟩
def c144:aw:=⟨[0,1,2,3],[],[],[],[],[]⟩
def c86:aw:=⟨[0,1,3,4],[],[],[],[],[]⟩
def c129:aw:=⟨[0,1,3],[],[],[],[],[]⟩
def c71:aw:=⟨[0,1,2,3,4,5,7,8,9,10,11,14,30,39,48,57],[],[],[],[],[]⟩
def c72:aw:=⟨[0,1,2,4,6,7,8,9,10],[],[],[],[],[]⟩
def c35:aw:=⟨[0,1,2,3,4,5,7,8,9,10,11,12,17,27,34],[],[],[],[],[]⟩
theorem WL (k:Int) (u:ao):ae Tryz.prog 144 [.agg (aT u),.au [.int .i64 k]] [] (.bool (Ct k u)):=by refine aG (F:=Tryz.f144) c144 rfl rfl rfl mixed rfl fun X=>?_;(conv=>whnf);skip;exact ⟨rfl,rfl⟩
theorem Pn (us:List ao) (k:Int) (hl:us.length<=aq):ae Tryz.prog 86 [.sl 2 none (us.map aT),.int .i64 k] [] (.bool (iV k us)):=by
 have hc:=Wd us hl 144 [.au [.int .i64 k]] (Ct k) fun u _=>WL k u;refine aG (F:=Tryz.f86) c86 rfl rfl rfl mixed rfl fun X=>?_;(conv=>whnf);repeat (refine ae.k0 (hc) ?_;conv=>whnf)
 exact ⟨rfl,rfl⟩
theorem WM (us:List ao) (hl:us.length<=1048576):ae Tryz.prog 85 [.sl 2 none (us.map aT)] [] (.aQ [.int .i64 (kO us),.int .i64 (kP us)]):=by
 have wF:=Jp us;refine aG (F:=Tryz.f85) c85 rfl rfl rfl mixed rfl fun X=>?_;(conv=>whnf);skip;refine bM rfl mixed [0,2,3,6,7,8] [] (fun m r h=>∃ (i:Nat) (c a:Int),r=[(0,[],.sl 2 none (us.map aT)),(2,[],.int .i64 c),(3,[],.int .i64 a),(6,[],.sl 2 none (us.map aT)),(7,[],.int .i64 (us.map aT).length),(8,[],.int .i64 i)]/\h=[]/\m=us.length - i/\i<=us.length/\(0<=c/\c<=i)/\(0<=a/\a<=i)/\kO us=c+kO (us.drop i)/\kP us=a+kP (us.drop i)) ?_ ?_
 ·(conv=>whnf);exact ⟨_,0,0,0,rfl,rfl,rfl,by omega,⟨by omega,by omega⟩,⟨by omega,by omega⟩,by simp,by simp⟩
 rintro m r h ⟨i,c,a,rfl,rfl,rfl,hi,hc,ha,h1,h2⟩;(conv=>whnf);refine ⟨fun hz=>?_,fun hz=>?_⟩<;>simp at hz
 ·obtain ⟨u,hu⟩:=aN hz;rw [drop_cons hu,kO] at h1;rw [drop_cons hu,kP] at h2;(conv=>whnf);repeat ((first|refine ix (by assumption) ?_|refine ae.k0 (Ou u) ?_|refine ⟨_,_,aK.here _,⟨Nat.le_of_ble_eq_true rfl,rfl⟩,?_⟩|intro (nb:Nat));conv=>whnf)
  refine ⟨fun hq=>?_,fun hq=>?_⟩
  ·have hq:(!ko u)=true:=hq;rw [Bool.not_eq_true'] at hq;rw [hq] at h1 h2;(conv=>whnf);repeat (refine ⟨af ⟨by omega,by omega⟩,?_⟩;conv=>whnf)
   exact ⟨_,by omega,i+1,c,a,rfl,rfl,rfl,by omega,⟨by omega,by omega⟩,⟨by omega,by omega⟩,by simpa using h1,by simpa using h2⟩
  have hq:(!ko u)=false:=hq;rw [Bool.not_eq_false'] at hq;rw [hq] at h1 h2;simp only [if_true,Bool.true_and] at h1 h2;by_cases hn:i+1<us.length
  ·obtain ⟨v,hv⟩:=aN hn;have ql:qk (us.drop (i+1))=decide (v.kind=3):=by rw [drop_cons hv];rfl
   rw [ql] at h2;(conv=>whnf);repeat ((first|refine ⟨af ⟨by omega,by omega⟩,?_⟩|refine ix (by assumption) ?_);conv=>whnf)
   refine ⟨fun hr=>?_,fun hr=>?_⟩
   ·have hr:(decide ((i:Int)+1<((us.map aT).length:Int))&&decide (v.kind=3))=true:=hr;rw [Bool.and_eq_true] at hr;rw [if_pos hr.2] at h2;(conv=>whnf);repeat (refine ⟨af ⟨by omega,by omega⟩,?_⟩;conv=>whnf)
    exact ⟨_,by omega,i+1,c+1,a+1,rfl,rfl,rfl,by omega,⟨by omega,by omega⟩,⟨by omega,by omega⟩,by omega,by omega⟩
   have hr:(decide ((i:Int)+1<((us.map aT).length:Int))&&decide (v.kind=3))=false:=hr;rw [List.length_map,decide_eq_true (by omega),Bool.true_and] at hr;rw [if_neg (by rw [hr];decide)] at h2;(conv=>whnf);repeat (refine ⟨af ⟨by omega,by omega⟩,?_⟩;conv=>whnf)
   exact ⟨_,by omega,i+1,c+1,a,rfl,rfl,rfl,by omega,⟨by omega,by omega⟩,⟨by omega,by omega⟩,by omega,by omega⟩
  have ql:qk (us.drop (i+1))=false:=by rw [List.drop_eq_nil_of_le (by omega)];rfl
  rw [ql] at h2;(conv=>whnf);repeat ((first|refine ⟨af ⟨by omega,by omega⟩,?_⟩|(refine ⟨0,aT u,?_,?_⟩;(focus (conv=>whnf;skip));(focus (intro Jq;exact absurd (of_decide_eq_true Jq) (by rw [List.length_map];omega)))));conv=>whnf)
  refine cF (by simp;omega) ?_;rw [if_neg (by decide)] at h2;(conv=>whnf);repeat (refine ⟨af ⟨by omega,by omega⟩,?_⟩;conv=>whnf)
  exact ⟨_,by omega,i+1,c+1,a,rfl,rfl,rfl,by omega,⟨by omega,by omega⟩,⟨by omega,by omega⟩,by omega,by omega⟩
 rw [drop_nil (by omega)] at h1 h2;(conv=>whnf);skip;refine ⟨?_,rfl⟩;rw [h1,h2];simp [kO,kP]
end Go.Abs.Wall.Spl
