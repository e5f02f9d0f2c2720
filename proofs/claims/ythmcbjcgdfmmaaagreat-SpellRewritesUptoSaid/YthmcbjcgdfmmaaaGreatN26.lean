/- Small laws for the walks and contracts of functions; each theorem names its conditions. -/
import Derived.Test.YthmcbjcgdfmmaaaGreatN25
import Derived.Test.YthmcbjcgdfmmaaaGreatN9
set_option maxRecDepth 100000
set_option maxHeartbeats 2000000
namespace Go.Abs.Wall.Spl
open Go Go.Abs Go.Proofs Go.Abs.Wall
theorem Xw {H:aD} {line:List Int} {w:eJ} (h:zr H line w=0):gN H line=0/\fC H.lex w.form=0/\tY H line w=true:=by
 unfold zr at h;split at h
 ·rename_i h1;exact absurd h h1
 rename_i h1;split at h
 ·rename_i h2;exact absurd h h2
 rename_i h2;split at h
 ·rename_i h3;exact ⟨by omega,by omega,h3⟩
 cases h
theorem Io {H:aD} {line:List Int} {w:eJ} (h:tY H line w=true):(1<=line.length/\line.length<=12)/\line.length=w.ay.length:=by unfold tY at h;rw [Bool.and_eq_true,Bool.and_eq_true,dL,decide_eq_true_eq] at h;omega
def c49:av:=⟨[0,1,2],[],[],[],[],[]⟩
def c22:av:=⟨[0,1,2,3,4,5,7,8,9,10,11,15,51,75],[],[11],[],[(6,[0,1,2,3,4,5,6,7,8,9,10,11,12,13,14,15,16,17,18,19,20,21,22,23,24,25,26,27,28],[])],[]⟩
theorem PX {B:bE} {s:Int} (h:0<=s/\s<B.aK.length):B.aK[s.toNat]?=some (B.aK.getD s.toNat 0):=by obtain ⟨n,hn⟩:=aF (l:=B.aK) (i:=s.toNat) (by omega);rw [Fj hn,hn]
theorem Xx (B:bE) (s:Int) (hs:0<=s/\s<B.aK.length):ab Tryz.prog 41 [.int .i64 s,.ai (dO B)] [] (.bool (xp B s)):=by
 refine aA (F:=Tryz.f41) c41 rfl rfl rfl mixed rfl fun X=>?_;(conv=>whnf);repeat ((refine cp (enc:=fun n=>[AV.int .i64 n]) s.toNat (by omega) (PX hs) ?_);conv=>whnf)
 exact ⟨rfl,rfl⟩
theorem Xy (H:aD) (B:bE) (line:List Int) (w:eJ) (hl:line.length<=1048576) (hu:w.ay.length<=1048576) (hf:mg H.lex w.form) (cH:∀ s∈line,0<=s/\s<B.aK.length) :
  ab Tryz.prog 19 [.agg (aZ H),.agg (dO B),.sl 1 none (ints line),.agg (cG w)] [] (.bool (xq H B line w)):=by
 have hc:=Py line (by unfold aq;omega) 41 [.ai (dO B)] (xp B) fun s hs=>Xx B s (cH s hs);have AR:=Xv w.ay hu;have h3:=PW w.ay 3 (by unfold aq;omega);have h4:=PW w.ay 4 (by unfold aq;omega);obtain ⟨R,hR⟩:∃ R,R=xq H B line w:=⟨_,rfl⟩;rw [<- hR];unfold xq at hR;refine aA (F:=Tryz.f19) c19 rfl rfl rfl mixed rfl fun X=>?_;(conv=>whnf);repeat (refine ab.k0 (hc) ?_;conv=>whnf)
 refine ⟨fun q1=>?_,fun q1=>?_⟩
 ·rw [q1] at hR;(conv=>whnf);skip;exact ⟨by rw [hR];rfl,rfl⟩
 rw [q1,Bool.not_false,Bool.true_and] at hR;(conv=>whnf);repeat ((first|refine ab.k0 (AR) ?_|(refine cp w.form.entry.toNat (by have:=hf.entry;omega) (nY hf.entry.1 hf.entry.2) ?_)|refine aY (h3) ?_);conv=>whnf)
 refine ⟨fun q2=>?_,fun q2=>?_⟩
 ·have q2:(decide (B.cV=0)&&mW 3 w.ay)=true:=q2;rw [q2] at hR;(conv=>whnf);skip;exact ⟨by rw [hR];rfl,rfl⟩
 have q2:(decide (B.cV=0)&&mW 3 w.ay)=false:=q2;rw [q2,Bool.not_false,Bool.true_and] at hR;(conv=>whnf);skip;refine ⟨fun q3=>?_,fun q3=>?_⟩
 ·have q3:(decide (B.cV=2)&&!decide (kZ w.ay=lf w.ay))=true:=q3;rw [q3] at hR;(conv=>whnf);skip;exact ⟨by rw [hR];rfl,rfl⟩
 have q3:(decide (B.cV=2)&&!decide (kZ w.ay=lf w.ay))=false:=q3;rw [q3,Bool.not_false,Bool.true_and] at hR;(conv=>whnf);repeat (refine aY (h4) ?_;conv=>whnf)
 refine ⟨fun q4=>?_,fun q4=>?_⟩
 ·have q4:(decide (B.cls=0)&&mW 4 w.ay)=true:=q4;rw [q4] at hR;(conv=>whnf);skip;exact ⟨by rw [hR];rfl,rfl⟩
 have q4:(decide (B.cls=0)&&mW 4 w.ay)=false:=q4;rw [q4,Bool.not_false,Bool.true_and] at hR;(conv=>whnf);repeat (refine aY (h4) ?_;conv=>whnf)
 refine ⟨fun q5=>?_,fun q5=>?_⟩
 ·have q5:((decide (B.cls=2)&&!decide ((bY H.lex w.form.entry).cls=[]))&&!mW 4 w.ay)=true:=q5;rw [q5] at hR;(conv=>whnf);skip;exact ⟨by rw [hR];rfl,rfl⟩
 have q5:((decide (B.cls=2)&&!decide ((bY H.lex w.form.entry).cls=[]))&&!mW 4 w.ay)=false:=q5;rw [q5] at hR;(conv=>whnf);skip;exact ⟨by rw [hR];rfl,rfl⟩
theorem PY {H:aD} {B:bE} (h:lM H B=true):B.aK.length=H.list.aK.length/\∀ n∈B.aK,-1<=n/\n<=1000:=by unfold lM at h;simp only [Bool.and_eq_true,decide_eq_true_eq,dL,Bool.not_eq_true',List.any_eq_false] at h;obtain ⟨⟨⟨h1,h2⟩,h3⟩,h4⟩:=h;refine ⟨by omega,fun n hn=>?_⟩;have:=h4 n hn;unfold rR at this;rw [Bool.not_eq_true',Bool.not_eq_false] at this;exact dL.1 this
theorem PZ {H:aD} (h0:fA H=0) {line:List Int} {w:eJ} (h:zr H line w=0):0<=nT H w/\nT H w<=100000:=by have hH:=vN h0;obtain ⟨_,tW,mA⟩:=Xw h;have hl:=Io mA;have hw:=(qF tW).jP;have hu:=Dw hH w.ay;have ho:=hH.cC H.cC.oW (by simp [iq]);unfold nT vR;rw [if_pos tW];split<;>omega
structure nE (w:eJ):Prop where
 cl:w.form.ao.length<=1048576
 text:∀ u∈w.ay,u.text.length<=1048576
 us:w.ay.length<=1048576
theorem Kk (u:az):ab Tryz.prog 49 [.agg (aU u)] [] (.bool (jx u)):=by refine aA (F:=Tryz.f49) c49 rfl rfl rfl mixed rfl fun X=>?_;(conv=>whnf);skip;exact ⟨rfl,rfl⟩
theorem Xz (H:aD) (B:bE) (line:List Int) (w:eJ) (hl:line.length<=1048576) (FL:line.length=w.ay.length) (hf:mg H.lex w.form) (cH:∀ s∈line,0<=s/\s<B.aK.length) :
  ab Tryz.prog 22 [.agg (aZ H),.agg (dO B),.sl 1 none (ints line),.agg (cG w)] [] (.bool (Dv H B line w)):=by
 obtain ⟨R,hR⟩:∃ R,R=Dv H B line w:=⟨_,rfl⟩;rw [<- hR];unfold Dv at hR;refine aA (F:=Tryz.f22) c22 rfl rfl rfl mixed rfl fun X=>?_;(conv=>whnf);skip;refine bS rfl mixed [2,4,5,7,9,10] [] (fun m r h=>∃ (i:Nat) (c:Bool),r=[(2,[],.sl 1 none (ints line)),(4,[],.ai (aZ H)),(5,[],.ai (dO B)),(7,[],.ai (cG w)),(9,[],.bool c),(10,[],.int .i64 i)]/\h=[]/\m=line.length - i/\i<=line.length/\vQ B line w.ay false=vQ B (line.drop i) (w.ay.drop i) c) ?_ ?_
 ·(conv=>whnf);exact ⟨_,0,false,rfl,rfl,rfl,by omega,by simp⟩
 rintro m r h ⟨i,c,rfl,rfl,rfl,hi,hg⟩;(conv=>whnf);refine ⟨fun hz=>?_,fun hz=>?_⟩<;>simp [cO] at hz
 ·obtain ⟨s,hs⟩:=aF hz;obtain ⟨u,hu⟩:=aF (l:=w.ay) (i:=i) (by omega);have XA:=cH s (List.mem_of_getElem? hs);have qJ:=PX XA;rw [drop_cons hs,drop_cons hu,vQ] at hg;(conv=>whnf);repeat ((first|refine ix (by assumption) ?_|(refine cp (enc:=fun n=>[AV.int .i64 n]) s.toNat (by omega) qJ ?_)|refine ⟨_,_,bj.here _,⟨Nat.le_of_ble_eq_true rfl,rfl⟩,?_⟩|refine And.intro (by show aJ (aH Tryz.f22 _) _=true;decide +kernel) ?_|intro (nb:Nat));conv=>whnf)
  refine ⟨fun q1=>?_,fun q1=>?_⟩
  ·have q1:Gp B s u=true:=q1;rw [if_pos q1] at hg;rw [hg] at hR;(conv=>whnf);skip;exact ⟨by rw [hR],rfl⟩
  have q1:Gp B s u=false:=q1;rw [if_neg (by rw [q1];decide)] at hg;by_cases hn:i+1<line.length
  ·obtain ⟨v,hv⟩:=aF (l:=w.ay) (i:=i+1) (by omega);have mX:tq (w.ay.drop (i+1))=decide (v.kind=3):=by rw [drop_cons hv];rfl
   have dh:AX B u (w.ay.drop (i+1))=((decide (B.cV=2)&&jx u)&&(decide ((i:Int)+1=((ints line).length:Int))||!decide (v.kind=3))):=by unfold AX;rw [mX,decide_eq_false (p:=(i:Int)+1=_) (by rw [cO];omega),Bool.false_or]
   (conv=>whnf);repeat ((first|refine ⟨ag ⟨by omega,by omega⟩,?_⟩|refine ix (by assumption) ?_|refine aY (Kk u) ?_);conv=>whnf)
   refine ⟨fun q2=>?_,fun q2=>?_⟩
   ·have q2:((decide (B.cV=2)&&jx u)&&(decide ((i:Int)+1=((ints line).length:Int))||!decide (v.kind=3)))=true:=q2;rw [if_pos (by rw [dh];exact q2)] at hg;rw [hg] at hR;(conv=>whnf);skip;exact ⟨by rw [hR],rfl⟩
   have q2:((decide (B.cV=2)&&jx u)&&(decide ((i:Int)+1=((ints line).length:Int))||!decide (v.kind=3)))=false:=q2;rw [if_neg (by rw [dh,q2];decide)] at hg;(conv=>whnf);repeat (refine ⟨ag ⟨by omega,by omega⟩,?_⟩;conv=>whnf)
   exact ⟨_,by omega,i+1,_,rfl,rfl,rfl,by omega,hg⟩
  have mX:tq (w.ay.drop (i+1))=false:=by rw [List.drop_eq_nil_of_le (by omega)];rfl
  have dh:∀ b:Bool,AX B u (w.ay.drop (i+1))=((decide (B.cV=2)&&jx u)&&(decide ((i:Int)+1=((ints line).length:Int))||b)):=by intro b;unfold AX;rw [mX,decide_eq_true (p:=(i:Int)+1=_) (by rw [cO];omega),Bool.true_or];rfl
  (conv=>whnf);repeat ((first|refine ⟨ag ⟨by omega,by omega⟩,?_⟩|refine aY (Kk u) ?_|(refine ⟨0,aU u,?_,?_⟩;(focus (conv=>whnf;skip));(focus (intro uE vq;exact absurd (of_decide_eq_false vq) (by rw [cO];omega)))));conv=>whnf)
  refine ⟨fun q2=>?_,fun q2=>?_⟩
  ·have q2:((decide (B.cV=2)&&jx u)&&(decide ((i:Int)+1=((ints line).length:Int))||_))=true:=q2;rw [if_pos (by rw [dh];exact q2)] at hg;rw [hg] at hR;(conv=>whnf);skip;exact ⟨by rw [hR],rfl⟩
  have q2:((decide (B.cV=2)&&jx u)&&(decide ((i:Int)+1=((ints line).length:Int))||_))=false:=q2;rw [if_neg (by rw [dh,q2];decide)] at hg;(conv=>whnf);repeat (refine ⟨ag ⟨by omega,by omega⟩,?_⟩;conv=>whnf)
  exact ⟨_,by omega,i+1,_,rfl,rfl,rfl,by omega,hg⟩
 rw [drop_nil (by omega)] at hg;rw [show vQ B [] (w.ay.drop i) c=some c by cases w.ay.drop i<;>rfl] at hg
 rw [hg] at hR;(conv=>whnf);repeat ((refine cp w.form.entry.toNat (by have:=hf.entry;omega) (nY hf.entry.1 hf.entry.2) ?_);conv=>whnf)
 exact ⟨by rw [hR],rfl⟩
end Go.Abs.Wall.Spl
