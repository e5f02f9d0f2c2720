/- What is proved: small laws for the walks of this seat, and contracts of its functions. No condition but those each theorem names. -/
import Derived.Test.YtbmcnieifibckaaGreatN25
import Derived.Test.YtbmcnieifibckaaGreatN9
import Derived.Test.YtbmcnieifibckaaGreatN24
set_option maxRecDepth 100000
set_option maxHeartbeats 2000000
set_option linter.unusedVariables false
set_option linter.unusedSimpArgs false
namespace Go.Abs.Wall.Spl
open Go Go.Abs Go.Proofs Go.Abs.Wall
theorem Fj {H:ax} {line:List Int} {w:cO} (h:jN H line w=0):eb H line=0/\dT H.lex w.form=0/\kC H line w=true:=by
 unfold jN at h;split at h
 ·rename_i h1;exact absurd h h1
 rename_i h1;split at h
 ·rename_i h2;exact absurd h h2
 rename_i h2;split at h
 ·rename_i h3;exact ⟨by omega,by omega,h3⟩
 cases h
theorem xL {H:ax} {line:List Int} {w:cO} (h:kC H line w=true):(1<=line.length/\line.length<=12)/\line.length=w.aj.length:=by unfold kC at h;rw [Bool.and_eq_true,Bool.and_eq_true,dS,decide_eq_true_eq] at h;omega
theorem WN {H:ax} {line:List Int} (h:eb H line=0):∀ s∈line,0<=s/\s<H.list.aB.length:=by
 unfold eb at h;split at h
 ·rename_i h1;exact absurd h h1
 split at h
 ·cases h
 split at h
 ·cases h
 rename_i h3;intro s hs;rw [List.any_eq_true] at h3;have h4:¬ (!bG s 0 ((H.list.aB.length:Int) - 1))=true:=fun hq=>h3 ⟨s,hs,hq⟩;rw [Bool.not_eq_true',Bool.not_eq_false] at h4;have:=dS.1 h4;omega
theorem Po {B:bX} {s:Int} (h:0<=s/\s<B.aB.length):B.aB[s.toNat]?=some (B.aB.getD s.toNat 0):=by obtain ⟨n,hn⟩:=aN (l:=B.aB) (i:=s.toNat) (by omega);rw [xM hn,hn]
theorem WO (B:bX) (s:Int) (hs:0<=s/\s<B.aB.length):ae Tryz.prog 129 [.int .i64 s,.au (mj B)] [] (.bool (sB B s)):=by
 refine aG (F:=Tryz.f129) c129 rfl rfl rfl mixed rfl fun X=>?_;(conv=>whnf);repeat ((refine cj (enc:=fun n=>[AV.int .i64 n]) s.toNat (by omega) (Po hs) ?_);conv=>whnf)
 exact ⟨rfl,rfl⟩
theorem WQ (H:ax) (B:bX) (line:List Int) (w:cO) (hl:line.length<=1048576) (hu:w.aj.length<=1048576) (hf:kL H.lex w.form) (cn:∀ s∈line,0<=s/\s<B.aB.length) :
  ae Tryz.prog 71 [.agg (bJ H),.agg (mj B),.sl 1 none (ints line),.agg (du w)] [] (.bool (sC H B line w)):=by
 have hc:=OP line (by unfold aq;omega) 129 [.au (mj B)] (sB B) fun s hs=>WO B s (cn s hs);have zT:=WM w.aj hu;have h3:=Pn w.aj 3 (by unfold aq;omega);have h4:=Pn w.aj 4 (by unfold aq;omega);obtain ⟨R,hR⟩:∃ R,R=sC H B line w:=⟨_,rfl⟩;rw [<- hR];unfold sC at hR;refine aG (F:=Tryz.f71) c71 rfl rfl rfl mixed rfl fun X=>?_;(conv=>whnf);repeat (refine ae.k0 (hc) ?_;conv=>whnf)
 refine ⟨fun q1=>?_,fun q1=>?_⟩
 ·rw [q1] at hR;(conv=>whnf);skip;exact ⟨by rw [hR];rfl,rfl⟩
 rw [q1,Bool.not_false,Bool.true_and] at hR;(conv=>whnf);repeat ((first|refine ae.k0 (zT) ?_|(refine cj w.form.entry.toNat (by have:=hf.entry;omega) (oB hf.entry.1 hf.entry.2) ?_)|refine aX (h3) ?_);conv=>whnf)
 refine ⟨fun q2=>?_,fun q2=>?_⟩
 ·have q2:(decide (B.dM=0)&&iV 3 w.aj)=true:=q2;rw [q2] at hR;(conv=>whnf);skip;exact ⟨by rw [hR];rfl,rfl⟩
 have q2:(decide (B.dM=0)&&iV 3 w.aj)=false:=q2;rw [q2,Bool.not_false,Bool.true_and] at hR;(conv=>whnf);skip;refine ⟨fun q3=>?_,fun q3=>?_⟩
 ·have q3:(decide (B.dM=2)&&!decide (kO w.aj=kP w.aj))=true:=q3;rw [q3] at hR;(conv=>whnf);skip;exact ⟨by rw [hR];rfl,rfl⟩
 have q3:(decide (B.dM=2)&&!decide (kO w.aj=kP w.aj))=false:=q3;rw [q3,Bool.not_false,Bool.true_and] at hR;(conv=>whnf);repeat (refine aX (h4) ?_;conv=>whnf)
 refine ⟨fun q4=>?_,fun q4=>?_⟩
 ·have q4:(decide (B.cls=0)&&iV 4 w.aj)=true:=q4;rw [q4] at hR;(conv=>whnf);skip;exact ⟨by rw [hR];rfl,rfl⟩
 have q4:(decide (B.cls=0)&&iV 4 w.aj)=false:=q4;rw [q4,Bool.not_false,Bool.true_and] at hR;(conv=>whnf);repeat (refine aX (h4) ?_;conv=>whnf)
 refine ⟨fun q5=>?_,fun q5=>?_⟩
 ·have q5:((decide (B.cls=2)&&!decide ((cd H.lex w.form.entry).cls=[]))&&!iV 4 w.aj)=true:=q5;rw [q5] at hR;(conv=>whnf);skip;exact ⟨by rw [hR];rfl,rfl⟩
 have q5:((decide (B.cls=2)&&!decide ((cd H.lex w.form.entry).cls=[]))&&!iV 4 w.aj)=false:=q5;rw [q5] at hR;(conv=>whnf);skip;exact ⟨by rw [hR];rfl,rfl⟩
theorem Pp {B:bX} (hB:∀ n∈B.aB,-1<=n/\n<=1000):∀ (l:List Int),-1*(l.length:Int)<=mm B l/\mm B l<=1000*l.length
 | []=>by simp [mm]
 | s::l=>by
   have h:=Pp hB l;rw [mm,List.length_cons]
   have:-1<=B.aB.getD s.toNat 0/\B.aB.getD s.toNat 0<=1000:=by
    rw [List.getD_eq_getElem?_getD];cases hq:B.aB[s.toNat]? with
    | none=>exact ⟨by decide,by decide⟩
    | some n=>exact hB n (List.mem_of_getElem? hq)
   push_cast;omega
theorem WR (B:bX) (hB:∀ n∈B.aB,-1<=n/\n<=1000) (line:List Int) (hl:line.length<=1048576) (cn:∀ s∈line,0<=s/\s<B.aB.length):ae Tryz.prog 72 [.agg (mj B),.sl 1 none (ints line)] [] (.int .i64 (mm B line)):=by
 refine aG (F:=Tryz.f72) c72 rfl rfl rfl mixed rfl fun X=>?_;(conv=>whnf);skip;refine bM rfl mixed [2,4,7,8,9] [] (fun m r h=>∃ (i:Nat) (n:Int),r=[(2,[],.au (mj B)),(4,[],.int .i64 n),(7,[],.sl 1 none (ints line)),(8,[],.int .i64 (ints line).length),(9,[],.int .i64 i)]/\h=[]/\m=line.length - i/\i<=line.length/\(-1*(i:Int)<=n/\n<=1000*i)/\mm B line=n+mm B (line.drop i)) ?_ ?_
 ·(conv=>whnf);exact ⟨_,0,0,rfl,rfl,rfl,by omega,by omega,by simp⟩
 rintro m r h ⟨i,n,rfl,rfl,rfl,hi,hn,hg⟩;(conv=>whnf);refine ⟨fun hz=>?_,fun hz=>?_⟩<;>simp [dB] at hz
 ·obtain ⟨s,hs⟩:=aN hz;have Pq:=cn s (List.mem_of_getElem? hs);have mL:=Po Pq;have IL:=hB _ (List.mem_of_getElem? mL);rw [drop_cons hs,mm] at hg;(conv=>whnf);repeat ((first|refine ⟨af ⟨by omega,by omega⟩,?_⟩|refine ix (by assumption) ?_|(refine cj (enc:=fun n=>[AV.int .i64 n]) s.toNat (by omega) mL ?_));conv=>whnf)
  exact ⟨_,by omega,i+1,_,rfl,rfl,rfl,by omega,by push_cast;omega,by rw [hg];omega⟩
 rw [drop_nil (by omega)] at hg;(conv=>whnf);skip;exact ⟨by rw [hg];simp [mm],rfl⟩
def kQ (H:ax) (B:bX) (line:List Int) (w:cO):Int:=if oA H B≠0 then oA H B else if jN H line w≠0 then jN H line w else if sC H B line w=true then 0 else 61
def tV (H:ax) (B:bX) (line:List Int) (w:cO):Int:=if kQ H B line w=0 then iM H w+mm B line else 0
theorem WS {H:ax} {B:bX} (h:nG H B=true):B.aB.length=H.list.aB.length/\∀ n∈B.aB,-1<=n/\n<=1000:=by unfold nG at h;simp only [Bool.and_eq_true,decide_eq_true_eq,dS,Bool.not_eq_true',List.any_eq_false] at h;obtain ⟨⟨⟨h1,h2⟩,h3⟩,h4⟩:=h;refine ⟨by omega,fun n hn=>?_⟩;have:=h4 n hn;unfold zR at this;rw [Bool.not_eq_true',Bool.not_eq_false] at this;exact dS.1 this
theorem Jr {H:ax} (h0:eG H=0) {line:List Int} {w:cO} (h:jN H line w=0):0<=iM H w/\iM H w<=100000:=by have hH:=ve h0;obtain ⟨_,zb,iH⟩:=Fj h;have hl:=xL iH;have hw:=(mG zb).kj;have hu:=Cu hH w.aj;have ho:=hH.cq H.cq.nH (by simp [iB]);unfold iM tW;rw [if_pos zb];split<;>omega
structure od (w:cO):Prop where
 cl:w.form.ah.length<=1048576
 text:∀ u∈w.aj,u.text.length<=1048576
 us:w.aj.length<=1048576
theorem Pr (H:ax) (B:bX) (line:List Int) (w:cO) (hf:eP H) (hB:wB B) (hl:line.length<=1048576) (hw:od w) :
  ae Tryz.prog 35 [.agg (bJ H),.agg (mj B),.sl 1 none (ints line),.agg (du w)] [] (.aQ [.int .i64 (tV H B line w),.int .i64 (kQ H B line w)]):=by
 have hp:=WT H line w hf hl hw.cl hw.text hw.us;refine aG (F:=Tryz.f35) c35 rfl rfl rfl mixed rfl fun X=>?_;(conv=>whnf);repeat (refine ae.k0 (OQ H B hf hB) ?_;conv=>whnf)
 refine ⟨fun h0=>?_,fun h0=>?_⟩<;>simp at h0
 ·have he:kQ H B line w=oA H B:=by unfold kQ;rw [if_pos h0]
  unfold tV;rw [he,if_neg h0];(conv=>whnf);skip;exact ⟨rfl,rfl⟩
 obtain ⟨bf,hr⟩:=Ck h0;obtain ⟨Pg,zD⟩:=WS hr;(conv=>whnf);repeat (refine ae.k0 (hp) ?_;conv=>whnf)
 refine ⟨fun h1=>?_,fun h1=>?_⟩<;>simp at h1
 ·have he:kQ H B line w=jN H line w:=by unfold kQ;rw [if_neg (by omega),if_pos h1]
  unfold tV;rw [he,if_neg h1];(conv=>whnf);skip;exact ⟨rfl,rfl⟩
 obtain ⟨hle,zb,iH⟩:=Fj h1;have P6:=xL iH;have cn:∀ s∈line,0<=s/\s<B.aB.length:=by rw [Pg];exact WN hle
 have hk:=WQ H B line w hl hw.us (mG zb) cn;have he:kQ H B line w=if sC H B line w=true then 0 else 61:=by unfold kQ;rw [if_neg (by omega),if_neg (by omega)]
 (conv=>whnf);repeat (refine ae.k0 (hk) ?_;conv=>whnf)
 refine ⟨fun h2=>?_,fun h2=>?_⟩
 ·have h2:(!sC H B line w)=true:=h2;rw [Bool.not_eq_true'] at h2;rw [if_neg (by rw [h2];decide)] at he;unfold tV;rw [he,if_neg (by decide)];(conv=>whnf);skip;exact ⟨rfl,rfl⟩
 have h2:(!sC H B line w)=false:=h2;rw [Bool.not_eq_false'] at h2;rw [if_pos h2] at he;have hx:=WR B zD line hl cn;have Pq:=Pp zD line;have qW:=Jr bf h1;have dN:vh H line w=iM H w:=by unfold vh;rw [if_pos h1]
 unfold tV;rw [he,if_pos rfl];rw [dN];(conv=>whnf);repeat ((first|refine ⟨af ⟨by omega,by omega⟩,?_⟩|refine ae.k0 (hx) ?_);conv=>whnf)
 exact ⟨rfl,rfl⟩
end Go.Abs.Wall.Spl
namespace Go.Abs.Wall.Spl
open Go Go.Abs Go.Proofs Go.Abs.Wall
end Go.Abs.Wall.Spl
