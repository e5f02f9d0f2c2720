/- Small laws for the walks and contracts of functions; each theorem names its conditions. -/
import Derived.Test.YthmcbjcgdfmmaaaGreatN23
import Derived.Test.YthmcbjcgdfmmaaaGreatN24
import Derived.Test.YthmcbjcgdfmmaaaGreatN8
import Derived.Test.YthmcbjcgdfmmaaaGreatN9
set_option maxRecDepth 100000
set_option maxHeartbeats 2000000
namespace Go.Abs.Wall.Spl
open Go Go.Abs Go.Proofs Go.Abs.Wall
def c45:av:=⟨[0,1,2,3,4,5,33,38,54],[],[],[],[],[]⟩
def c20:av:=⟨[0,1,2,3,4,5,9,14],[],[],[],[],[]⟩
theorem Xr (H:aD) (B:bE) (hB:lN B) (hh:dx H):ab Tryz.prog 45 [.agg (aZ H),.agg (dO B)] [] (.bool (lM H B)):=by
 have hb:=hB.aK;have gD:=hh.list.aK;unfold aq at gD;obtain ⟨R,hR⟩:∃ R,R=lM H B:=⟨_,rfl⟩;rw [<- hR];unfold lM at hR;refine aA (F:=Tryz.f45) c45 rfl rfl rfl mixed rfl fun X=>?_;(conv=>whnf);skip;refine ⟨fun h0=>?_,fun h0=>?_⟩
 ·have h0:((((!decide (((ints B.aK).length:Int)=((H.list.aK.map hZ).length:Int))||decide (B.cV<0))||decide (2<B.cV))||decide (B.cls<0))||decide (2<B.cls))=true:=h0;rw [cO,List.length_map] at h0;simp only [Bool.or_eq_true,Bool.not_eq_true',decide_eq_false_iff_not,decide_eq_true_eq] at h0;have hf:R=false:=by rw [hR,<- Bool.not_eq_true];simp only [Bool.and_eq_true,decide_eq_true_eq,dL];omega
  (conv=>whnf);skip;exact ⟨by rw [hf],rfl⟩
 have h0:((((!decide (((ints B.aK).length:Int)=((H.list.aK.map hZ).length:Int))||decide (B.cV<0))||decide (2<B.cV))||decide (B.cls<0))||decide (2<B.cls))=false:=h0;rw [cO,List.length_map] at h0;simp only [Bool.or_eq_false_iff,Bool.not_eq_false',decide_eq_false_iff_not,decide_eq_true_eq] at h0
 have Xs:R=!B.aK.any rR:=by
  rw [hR];have:((decide ((B.aK.length:Int)=H.list.aK.length)&&bL B.cV 0 2)&&bL B.cls 0 2)=true:=by simp only [Bool.and_eq_true,decide_eq_true_eq,dL];omega
  rw [this,Bool.true_and]
 (conv=>whnf);skip;refine bS rfl mixed [3,5] [] (fun m r h=>∃ (i:Nat),r=[(3,[],.ai (dO B)),(5,[],.int .i64 i)]/\h=[]/\m=B.aK.length - i/\i<=B.aK.length/\R=!(B.aK.drop i).any rR) ?_ ?_
 ·(conv=>whnf);exact ⟨_,0,rfl,rfl,rfl,by omega,by simpa using Xs⟩
 rintro m r h ⟨i,rfl,rfl,rfl,hi,hg⟩;(conv=>whnf);refine ⟨fun hz=>?_,fun hz=>?_⟩<;>simp [cO] at hz
 ·obtain ⟨n,hn⟩:=aF hz;rw [drop_cons hn,List.any_cons] at hg;(conv=>whnf);repeat (refine ix (by assumption) ?_;conv=>whnf)
  refine ⟨fun hq=>?_,fun hq=>?_⟩
  ·have hq:(decide (n < -1)||decide (1000<n))=true:=hq;have hb:rR n=true:=by unfold rR;rw [Bool.not_eq_true',<- Bool.not_eq_true,dL];simp at hq;omega
   rw [hb] at hg;(conv=>whnf);skip;exact ⟨by rw [hg];rfl,rfl⟩
  have hq:(decide (n < -1)||decide (1000<n))=false:=hq;have hb:rR n=false:=by unfold rR;rw [Bool.not_eq_false',dL];simp at hq;omega
  rw [hb,Bool.false_or] at hg;(conv=>whnf);repeat (refine ⟨ag ⟨by omega,by omega⟩,?_⟩;conv=>whnf)
  exact ⟨_,by omega,i+1,rfl,rfl,rfl,by omega,hg⟩
 rw [drop_nil (by omega)] at hg;(conv=>whnf);skip;exact ⟨by rw [hg];rfl,rfl⟩
theorem Gm (H:aD) (B:bE) (hf:dx H) (hB:lN B):ab Tryz.prog 20 [.agg (aZ H),.agg (dO B)] [] (.int .i64 (kr H B)):=by
 refine aA (F:=Tryz.f20) c20 rfl rfl rfl mixed rfl fun X=>?_;(conv=>whnf);repeat (refine ab.k0 (Ip H hf) ?_;conv=>whnf)
 refine ⟨fun h0=>?_,fun h0=>?_⟩<;>simp at h0
 ·rw [kr,if_pos h0];(conv=>whnf);exact ⟨rfl,rfl⟩
 rw [kr,if_neg (by omega)];(conv=>whnf);repeat (refine ab.k0 (Xr H B hB hf) ?_;conv=>whnf)
 refine ⟨fun h1=>?_,fun h1=>?_⟩
 ·have h1:(!lM H B)=true:=h1;rw [Bool.not_eq_true'] at h1;rw [if_neg (by rw [h1];decide)];(conv=>whnf);exact ⟨rfl,rfl⟩
 have h1:(!lM H B)=false:=h1;rw [Bool.not_eq_false'] at h1;rw [if_pos h1];(conv=>whnf);exact ⟨rfl,rfl⟩
end Go.Abs.Wall.Spl
namespace Go.Abs.Wall.Spl
open Go Go.Abs Go.Proofs Go.Abs.Wall
def xp (B:bE) (s:Int):Bool:=decide (B.aK.getD s.toNat 0<0)
def Gn (k:Int) (u:az):Bool:=decide (u.kind=k)
def mW (k:Int) (us:List az):Bool:=us.any (Gn k)
def tq:List az->Bool
 | []=>false
 | v::_=>decide (v.kind=3)
def kZ:List az->Int
 | []=>0
 | u::t=>kZ t+(if jx u=true then 1 else 0)
def lf:List az->Int
 | []=>0
 | u::t=>lf t+(if (jx u&&tq t)=true then 1 else 0)
def xq (H:aD) (B:bE) (line:List Int) (w:eJ):Bool:=
 (((!line.any (xp B)&&!(decide (B.cV=0)&&mW 3 w.ay))&&!(decide (B.cV=2)&&!decide (kZ w.ay=lf w.ay)))&&!(decide (B.cls=0)&&mW 4 w.ay))&&!((decide (B.cls=2)&&!decide ((bY H.lex w.form.entry).cls=[]))&&!mW 4 w.ay)
def Gp (B:bE) (s:Int) (u:az):Bool:=(xp B s||(decide (u.kind=3)&&decide (B.cV=0)))||(decide (u.kind=4)&&decide (B.cls=0))
def AX (B:bE) (u:az) (t:List az):Bool:=(decide (B.cV=2)&&jx u)&&!tq t
def vQ (B:bE):List Int->List az->Bool->Option Bool
 | s::l,u::us,c=>if Gp B s u=true then none else if AX B u us=true then none else vQ B l us (c||decide (u.kind=4))
 | _,_,c=>some c
def Dv (H:aD) (B:bE) (line:List Int) (w:eJ):Bool:=match vQ B line w.ay false with
 | none=>false
 | some c=>(!decide (B.cls=2)||c)||decide ((bY H.lex w.form.entry).cls=[])
theorem Kj:∀ us:List az,0<=lf us/\lf us<=kZ us/\kZ us<=us.length
 | []=>by simp [lf,kZ]
 | u::t=>by have h:=Kj t;rw [lf,kZ,List.length_cons];cases jx u<;>cases tq t<;>simp<;>omega
theorem PV (B:bE):∀ (l:List Int) (us:List az) (c:Bool),l.length=us.length ->
  vQ B l us c=if (((l.any (xp B)||(decide (B.cV=0)&&mW 3 us))||(decide (B.cV=2)&&!decide (kZ us=lf us)))||(decide (B.cls=0)&&mW 4 us))=true then none else some (c||mW 4 us)
 | [],[],c,_=>by simp [vQ,mW,kZ,lf]
 | s::l,u::us,c,h=>by
   have ih:=PV B l us (c||decide (u.kind=4)) (by simpa using h);have hc:=Kj us;rw [vQ,ih];unfold Gp AX;rw [kZ,lf,List.any_cons];unfold mW at *;rw [List.any_cons,List.any_cons];unfold Gn;have hq:decide (kZ us+(if jx u=true then 1 else 0)=lf us+(if (jx u&&tq us)=true then 1 else 0))=((!jx u||tq us)&&decide (kZ us=lf us)):=by cases jx u<;>cases tq us<;>simp<;>omega
   rw [hq];generalize xp B s=a1;generalize l.any (xp B)=a2;generalize decide (u.kind=3)=a3;generalize decide (u.kind=4)=a4;generalize decide (B.cV=0)=a5;generalize decide (B.cV=2)=a6;generalize decide (B.cls=0)=a7;generalize jx u=a8;generalize tq us=a9;generalize decide (kZ us=lf us)=b1;generalize (us.any fun u=>decide (u.kind=3))=b2;generalize (us.any fun u=>decide (u.kind=4))=b3;clear ih hc hq h;revert a1 a2 a3 a4 a5 a6 a7 a8 a9 b1 b2 b3 c;decide +kernel
theorem Xt (H:aD) (B:bE) {line:List Int} {w:eJ} (h:line.length=w.ay.length):Dv H B line w=xq H B line w:=by unfold Dv xq;rw [PV B line w.ay false h];generalize line.any (xp B)=a1;generalize mW 3 w.ay=a2;generalize mW 4 w.ay=a3;generalize decide (kZ w.ay=lf w.ay)=a4;generalize decide (B.cV=0)=a5;generalize decide (B.cV=2)=a6;generalize decide (B.cls=0)=a7;generalize decide (B.cls=2)=a8;generalize decide ((bY H.lex w.form.entry).cls=[])=a9;revert a1 a2 a3 a4 a5 a6 a7 a8 a9;decide +kernel
def c42:av:=⟨[0,2,3,4,5,6,7,8,9,15,31],[],[5],[],[],[]⟩
def c85:av:=⟨[0,1,2,3],[],[],[],[],[]⟩
def c43:av:=⟨[0,1,3,4],[],[],[],[],[]⟩
def c41:av:=⟨[0,1,3],[],[],[],[],[]⟩
def c19:av:=⟨[0,1,2,3,4,5,7,8,9,10,11,14,30,39,48,57],[],[],[],[],[]⟩
theorem Xu (k:Int) (u:az):ab Tryz.prog 85 [.agg (aU u),.ai [.int .i64 k]] [] (.bool (Gn k u)):=by refine aA (F:=Tryz.f85) c85 rfl rfl rfl mixed rfl fun X=>?_;(conv=>whnf);skip;exact ⟨rfl,rfl⟩
theorem PW (us:List az) (k:Int) (hl:us.length<=aq):ab Tryz.prog 43 [.sl 2 none (us.map aU),.int .i64 k] [] (.bool (mW k us)):=by
 have hc:=WL us hl 85 [.ai [.int .i64 k]] (Gn k) fun u _=>Xu k u;refine aA (F:=Tryz.f43) c43 rfl rfl rfl mixed rfl fun X=>?_;(conv=>whnf);repeat (refine ab.k0 (hc) ?_;conv=>whnf)
 exact ⟨rfl,rfl⟩
theorem Xv (us:List az) (hl:us.length<=1048576):ab Tryz.prog 42 [.sl 2 none (us.map aU)] [] (.aB [.int .i64 (kZ us),.int .i64 (lf us)]):=by
 have xt:=Kj us;refine aA (F:=Tryz.f42) c42 rfl rfl rfl mixed rfl fun X=>?_;(conv=>whnf);skip;refine bS rfl mixed [0,2,3,6,7,8] [] (fun m r h=>∃ (i:Nat) (c a:Int),r=[(0,[],.sl 2 none (us.map aU)),(2,[],.int .i64 c),(3,[],.int .i64 a),(6,[],.sl 2 none (us.map aU)),(7,[],.int .i64 (us.map aU).length),(8,[],.int .i64 i)]/\h=[]/\m=us.length - i/\i<=us.length/\(0<=c/\c<=i)/\(0<=a/\a<=i)/\kZ us=c+kZ (us.drop i)/\lf us=a+lf (us.drop i)) ?_ ?_
 ·(conv=>whnf);exact ⟨_,0,0,0,rfl,rfl,rfl,by omega,⟨by omega,by omega⟩,⟨by omega,by omega⟩,by simp,by simp⟩
 rintro m r h ⟨i,c,a,rfl,rfl,rfl,hi,hc,ha,h1,h2⟩;(conv=>whnf);refine ⟨fun hz=>?_,fun hz=>?_⟩<;>simp at hz
 ·obtain ⟨u,hu⟩:=aF hz;rw [drop_cons hu,kZ] at h1;rw [drop_cons hu,lf] at h2;(conv=>whnf);repeat ((first|refine ix (by assumption) ?_|refine ab.k0 (Pe u) ?_|refine ⟨_,_,bj.here _,⟨Nat.le_of_ble_eq_true rfl,rfl⟩,?_⟩|intro (nb:Nat));conv=>whnf)
  refine ⟨fun hq=>?_,fun hq=>?_⟩
  ·have hq:(!jx u)=true:=hq;rw [Bool.not_eq_true'] at hq;rw [hq] at h1 h2;(conv=>whnf);repeat (refine ⟨ag ⟨by omega,by omega⟩,?_⟩;conv=>whnf)
   exact ⟨_,by omega,i+1,c,a,rfl,rfl,rfl,by omega,⟨by omega,by omega⟩,⟨by omega,by omega⟩,by simpa using h1,by simpa using h2⟩
  have hq:(!jx u)=false:=hq;rw [Bool.not_eq_false'] at hq;rw [hq] at h1 h2;simp only [if_true,Bool.true_and] at h1 h2;by_cases hn:i+1<us.length
  ·obtain ⟨v,hv⟩:=aF hn;have mX:tq (us.drop (i+1))=decide (v.kind=3):=by rw [drop_cons hv];rfl
   rw [mX] at h2;(conv=>whnf);repeat ((first|refine ⟨ag ⟨by omega,by omega⟩,?_⟩|refine ix (by assumption) ?_);conv=>whnf)
   refine ⟨fun hr=>?_,fun hr=>?_⟩
   ·have hr:(decide ((i:Int)+1<((us.map aU).length:Int))&&decide (v.kind=3))=true:=hr;rw [Bool.and_eq_true] at hr;rw [if_pos hr.2] at h2;(conv=>whnf);repeat (refine ⟨ag ⟨by omega,by omega⟩,?_⟩;conv=>whnf)
    exact ⟨_,by omega,i+1,c+1,a+1,rfl,rfl,rfl,by omega,⟨by omega,by omega⟩,⟨by omega,by omega⟩,by omega,by omega⟩
   have hr:(decide ((i:Int)+1<((us.map aU).length:Int))&&decide (v.kind=3))=false:=hr;rw [List.length_map,decide_eq_true (by omega),Bool.true_and] at hr;rw [if_neg (by rw [hr];decide)] at h2;(conv=>whnf);repeat (refine ⟨ag ⟨by omega,by omega⟩,?_⟩;conv=>whnf)
   exact ⟨_,by omega,i+1,c+1,a,rfl,rfl,rfl,by omega,⟨by omega,by omega⟩,⟨by omega,by omega⟩,by omega,by omega⟩
  have mX:tq (us.drop (i+1))=false:=by rw [List.drop_eq_nil_of_le (by omega)];rfl
  rw [mX] at h2;(conv=>whnf);repeat ((first|refine ⟨ag ⟨by omega,by omega⟩,?_⟩|(refine ⟨0,aU u,?_,?_⟩;(focus (conv=>whnf;skip));(focus (intro uE;exact absurd (of_decide_eq_true uE) (by rw [List.length_map];omega)))));conv=>whnf)
  refine cF (by simp;omega) ?_;rw [if_neg (by decide)] at h2;(conv=>whnf);repeat (refine ⟨ag ⟨by omega,by omega⟩,?_⟩;conv=>whnf)
  exact ⟨_,by omega,i+1,c+1,a,rfl,rfl,rfl,by omega,⟨by omega,by omega⟩,⟨by omega,by omega⟩,by omega,by omega⟩
 rw [drop_nil (by omega)] at h1 h2;(conv=>whnf);skip;refine ⟨?_,rfl⟩;rw [h1,h2];simp [kZ,lf]
end Go.Abs.Wall.Spl
