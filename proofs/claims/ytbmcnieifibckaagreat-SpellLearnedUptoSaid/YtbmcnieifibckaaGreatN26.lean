/- What is proved: small laws for the walks of this seat, and contracts of its functions. No condition but those each theorem names. -/
import Derived.Test.YtbmcnieifibckaaGreatN25
import Derived.Test.YtbmcnieifibckaaGreatN9
import Derived.Test.YtbmcnieifibckaaGreatN24
set_option maxRecDepth 100000
set_option maxHeartbeats 2000000
set_option linter.unusedVariables false
set_option linter.unusedSimpArgs false
namespace Go.Abs.Wall.Spl
open Go Go.Abs Go.Proofs Go.Abs.Wall
theorem xq {H:aj} {line:List Int} {w:bU} (h:fQ H line w=0):dX H line=0/\dZ H.lex w.form=0/\jl H line w=true:=by
 unfold fQ at h;split at h
 ·rename_i h1;exact absurd h h1
 rename_i h1;split at h
 ·rename_i h2;exact absurd h h2
 rename_i h2;split at h
 ·rename_i h3;exact ⟨by omega,by omega,h3⟩
 cases h
theorem rG {H:aj} {line:List Int} {w:bU} (h:jl H line w=true):(1<=line.length/\line.length<=12)/\line.length=w.ai.length:=by unfold jl at h;rw [Bool.and_eq_true,Bool.and_eq_true,dY,decide_eq_true_eq] at h;omega
theorem YD {H:aj} {line:List Int} (h:dX H line=0):∀ s∈line,0<=s/\s<H.list.aA.length:=by
 unfold dX at h;split at h
 ·rename_i h1;exact absurd h h1
 split at h
 ·cases h
 split at h
 ·cases h
 rename_i h3;intro s hs;rw [List.any_eq_true] at h3;have h4:¬ (!bI s 0 ((H.list.aA.length:Int) - 1))=true:=fun hq=>h3 ⟨s,hs,hq⟩;rw [Bool.not_eq_true',Bool.not_eq_false] at h4;have:=dY.1 h4;omega
theorem QR {B:bl} {s:Int} (h:0<=s/\s<B.aA.length):B.aA[s.toNat]?=some (B.aA.getD s.toNat 0):=by obtain ⟨n,hn⟩:=aL (l:=B.aA) (i:=s.toNat) (by omega);rw [vj hn,hn]
theorem YE (B:bl) (s:Int) (hs:0<=s/\s<B.aA.length):ae Tryz.prog 129 [.int .i64 s,.au (fN B)] [] (.bool (rU B s)):=by
 refine aG (F:=Tryz.f129) c129 rfl rfl rfl mixed rfl fun X=>?_;(conv=>whnf);repeat ((refine dg (enc:=fun n=>[AV.int .i64 n]) s.toNat (by omega) (QR hs) ?_);conv=>whnf)
 exact ⟨rfl,rfl⟩
theorem QS (H:aj) (B:bl) (line:List Int) (w:bU) (hl:line.length<=1048576) (hu:w.ai.length<=1048576) (hf:lZ H.lex w.form) (cu:∀ s∈line,0<=s/\s<B.aA.length) :
  ae Tryz.prog 71 [.agg (bu H),.agg (fN B),.sl 1 none (ints line),.agg (cr w)] [] (.bool (kN H B line w)):=by
 have hc:=Qs line (by unfold aw;omega) 129 [.au (fN B)] (rU B) fun s hs=>YE B s (cu s hs);have uF:=QQ w.ai hu;have h3:=KM w.ai 3 (by unfold aw;omega);have h4:=KM w.ai 4 (by unfold aw;omega);obtain ⟨R,hR⟩:∃ R,R=kN H B line w:=⟨_,rfl⟩;rw [<- hR];unfold kN at hR;refine aG (F:=Tryz.f71) c71 rfl rfl rfl mixed rfl fun X=>?_;(conv=>whnf);repeat (refine ae.k0 (hc) ?_;conv=>whnf)
 refine ⟨fun q1=>?_,fun q1=>?_⟩
 ·rw [q1] at hR;(conv=>whnf);skip;exact ⟨by rw [hR];rfl,rfl⟩
 rw [q1,Bool.not_false,Bool.true_and] at hR;(conv=>whnf);repeat ((first|refine ae.k0 (uF) ?_|(refine dg w.form.entry.toNat (by have:=hf.entry;omega) (nZ hf.entry.1 hf.entry.2) ?_)|refine ba (h3) ?_);conv=>whnf)
 refine ⟨fun q2=>?_,fun q2=>?_⟩
 ·have q2:(decide (B.dy=0)&&dv 3 w.ai)=true:=q2;rw [q2] at hR;(conv=>whnf);skip;exact ⟨by rw [hR];rfl,rfl⟩
 have q2:(decide (B.dy=0)&&dv 3 w.ai)=false:=q2;rw [q2,Bool.not_false,Bool.true_and] at hR;(conv=>whnf);skip;refine ⟨fun q3=>?_,fun q3=>?_⟩
 ·have q3:(decide (B.dy=2)&&!decide (gY w.ai=fC w.ai))=true:=q3;rw [q3] at hR;(conv=>whnf);skip;exact ⟨by rw [hR];rfl,rfl⟩
 have q3:(decide (B.dy=2)&&!decide (gY w.ai=fC w.ai))=false:=q3;rw [q3,Bool.not_false,Bool.true_and] at hR;(conv=>whnf);repeat (refine ba (h4) ?_;conv=>whnf)
 refine ⟨fun q4=>?_,fun q4=>?_⟩
 ·have q4:(decide (B.cls=0)&&dv 4 w.ai)=true:=q4;rw [q4] at hR;(conv=>whnf);skip;exact ⟨by rw [hR];rfl,rfl⟩
 have q4:(decide (B.cls=0)&&dv 4 w.ai)=false:=q4;rw [q4,Bool.not_false,Bool.true_and] at hR;(conv=>whnf);repeat (refine ba (h4) ?_;conv=>whnf)
 refine ⟨fun q5=>?_,fun q5=>?_⟩
 ·have q5:((decide (B.cls=2)&&!decide ((bZ H.lex w.form.entry).cls=[]))&&!dv 4 w.ai)=true:=q5;rw [q5] at hR;(conv=>whnf);skip;exact ⟨by rw [hR];rfl,rfl⟩
 have q5:((decide (B.cls=2)&&!decide ((bZ H.lex w.form.entry).cls=[]))&&!dv 4 w.ai)=false:=q5;rw [q5] at hR;(conv=>whnf);skip;exact ⟨by rw [hR];rfl,rfl⟩
theorem QT {B:bl} (hB:∀ n∈B.aA,-1<=n/\n<=1000):∀ (l:List Int),-1*(l.length:Int)<=mC B l/\mC B l<=1000*l.length
 | []=>by simp [mC]
 | s::l=>by
   have h:=QT hB l;rw [mC,List.length_cons]
   have:-1<=B.aA.getD s.toNat 0/\B.aA.getD s.toNat 0<=1000:=by
    rw [List.getD_eq_getElem?_getD];cases hq:B.aA[s.toNat]? with
    | none=>exact ⟨by decide,by decide⟩
    | some n=>exact hB n (List.mem_of_getElem? hq)
   push_cast;omega
theorem YF (B:bl) (hB:∀ n∈B.aA,-1<=n/\n<=1000) (line:List Int) (hl:line.length<=1048576) (cu:∀ s∈line,0<=s/\s<B.aA.length):ae Tryz.prog 72 [.agg (fN B),.sl 1 none (ints line)] [] (.int .i64 (mC B line)):=by
 refine aG (F:=Tryz.f72) c72 rfl rfl rfl mixed rfl fun X=>?_;(conv=>whnf);skip;refine bR rfl mixed [2,4,7,8,9] [] (fun m r h=>∃ (i:Nat) (n:Int),r=[(2,[],.au (fN B)),(4,[],.int .i64 n),(7,[],.sl 1 none (ints line)),(8,[],.int .i64 (ints line).length),(9,[],.int .i64 i)]/\h=[]/\m=line.length - i/\i<=line.length/\(-1*(i:Int)<=n/\n<=1000*i)/\mC B line=n+mC B (line.drop i)) ?_ ?_
 ·(conv=>whnf);exact ⟨_,0,0,rfl,rfl,rfl,by omega,by omega,by simp⟩
 rintro m r h ⟨i,n,rfl,rfl,rfl,hi,hn,hg⟩;(conv=>whnf);refine ⟨fun hz=>?_,fun hz=>?_⟩<;>simp [cg] at hz
 ·obtain ⟨s,hs⟩:=aL hz;have Be:=cu s (List.mem_of_getElem? hs);have kM:=QR Be;have AR:=hB _ (List.mem_of_getElem? kM);rw [drop_cons hs,mC] at hg;(conv=>whnf);repeat ((first|refine ⟨ah ⟨by omega,by omega⟩,?_⟩|refine ix (by assumption) ?_|(refine dg (enc:=fun n=>[AV.int .i64 n]) s.toNat (by omega) kM ?_));conv=>whnf)
  exact ⟨_,by omega,i+1,_,rfl,rfl,rfl,by omega,by push_cast;omega,by rw [hg];omega⟩
 rw [drop_nil (by omega)] at hg;(conv=>whnf);skip;exact ⟨by rw [hg];simp [mC],rfl⟩
def nu (H:aj) (B:bl) (line:List Int) (w:bU):Int:=if iB H B≠0 then iB H B else if fQ H line w≠0 then fQ H line w else if kN H B line w=true then 0 else 61
def xt (H:aj) (B:bl) (line:List Int) (w:bU):Int:=if nu H B line w=0 then gC H w+mC B line else 0
theorem QU {H:aj} {B:bl} (h:nj H B=true):B.aA.length=H.list.aA.length/\∀ n∈B.aA,-1<=n/\n<=1000:=by unfold nj at h;simp only [Bool.and_eq_true,decide_eq_true_eq,dY,Bool.not_eq_true',List.any_eq_false] at h;obtain ⟨⟨⟨h1,h2⟩,h3⟩,h4⟩:=h;refine ⟨by omega,fun n hn=>?_⟩;have:=h4 n hn;unfold zk at this;rw [Bool.not_eq_true',Bool.not_eq_false] at this;exact dY.1 this
theorem FA {H:aj} (h0:eo H=0) {line:List Int} {w:bU} (h:fQ H line w=0):0<=gC H w/\gC H w<=100000:=by have hH:=vR h0;obtain ⟨_,tZ,jf⟩:=xq h;have hl:=rG jf;have hw:=(mn tZ).kK;have hu:=Dz hH w.ai;have ho:=hH.ct H.ct.nY (by simp [iV]);unfold gC uI;rw [if_pos tZ];split<;>omega
structure pz (w:bU):Prop where
 cl:w.form.ar.length<=1048576
 text:∀ u∈w.ai,u.text.length<=1048576
 us:w.ai.length<=1048576
theorem YG (H:aj) (B:bl) (line:List Int) (w:bU) (hf:dU H) (hB:pS B) (hl:line.length<=1048576) (hw:pz w) :
  ae Tryz.prog 35 [.agg (bu H),.agg (fN B),.sl 1 none (ints line),.agg (cr w)] [] (.aH [.int .i64 (xt H B line w),.int .i64 (nu H B line w)]):=by
 have hp:=YH H line w hf hl hw.cl hw.text hw.us;refine aG (F:=Tryz.f35) c35 rfl rfl rfl mixed rfl fun X=>?_;(conv=>whnf);repeat (refine ae.k0 (Ba H B hf hB) ?_;conv=>whnf)
 refine ⟨fun h0=>?_,fun h0=>?_⟩<;>simp at h0
 ·have he:nu H B line w=iB H B:=by unfold nu;rw [if_pos h0]
  unfold xt;rw [he,if_neg h0];(conv=>whnf);skip;exact ⟨rfl,rfl⟩
 obtain ⟨bf,hr⟩:=vQ h0;obtain ⟨Dw,wY⟩:=QU hr;(conv=>whnf);repeat (refine ae.k0 (hp) ?_;conv=>whnf)
 refine ⟨fun h1=>?_,fun h1=>?_⟩<;>simp at h1
 ·have he:nu H B line w=fQ H line w:=by unfold nu;rw [if_neg (by omega),if_pos h1]
  unfold xt;rw [he,if_neg h1];(conv=>whnf);skip;exact ⟨rfl,rfl⟩
 obtain ⟨hle,tZ,jf⟩:=xq h1;have wI:=rG jf;have cu:∀ s∈line,0<=s/\s<B.aA.length:=by rw [Dw];exact YD hle
 have hk:=QS H B line w hl hw.us (mn tZ) cu;have he:nu H B line w=if kN H B line w=true then 0 else 61:=by unfold nu;rw [if_neg (by omega),if_neg (by omega)]
 (conv=>whnf);repeat (refine ae.k0 (hk) ?_;conv=>whnf)
 refine ⟨fun h2=>?_,fun h2=>?_⟩
 ·have h2:(!kN H B line w)=true:=h2;rw [Bool.not_eq_true'] at h2;rw [if_neg (by rw [h2];decide)] at he;unfold xt;rw [he,if_neg (by decide)];(conv=>whnf);skip;exact ⟨rfl,rfl⟩
 have h2:(!kN H B line w)=false:=h2;rw [Bool.not_eq_false'] at h2;rw [if_pos h2] at he;have hx:=YF B wY line hl cu;have Be:=QT wY line;have wJ:=FA bf h1;have ej:vT H line w=gC H w:=by unfold vT;rw [if_pos h1]
 unfold xt;rw [he,if_pos rfl];rw [ej];(conv=>whnf);repeat ((first|refine ⟨ah ⟨by omega,by omega⟩,?_⟩|refine ae.k0 (hx) ?_);conv=>whnf)
 exact ⟨rfl,rfl⟩
end Go.Abs.Wall.Spl
namespace Go.Abs.Wall.Spl
open Go Go.Abs Go.Proofs Go.Abs.Wall
end Go.Abs.Wall.Spl
