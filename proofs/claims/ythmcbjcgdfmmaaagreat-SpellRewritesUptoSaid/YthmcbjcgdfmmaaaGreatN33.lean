/- Small laws for the walks and contracts of functions; each theorem names its conditions. -/
import Derived.Test.YthmcbjcgdfmmaaaGreatN31
set_option maxRecDepth 100000
set_option maxHeartbeats 2000000
namespace Go.Abs.Wall.Spl
open Go Go.Abs Go.Proofs Go.Abs.Wall Go.Proofs.YthmcbjcgdfmmaaaGreat.Br
def oZ (H:aD) (B:bE):List br->Int
 | []=>0
 | f::t=>if je H B f 1≠0 then je H B f 1 else oZ H B t
def qY (H:aD) (B:bE) (l:List br):List Int:=(l.map fun f=>(mh H B f).aK).flatten
def uK (H:aD) (B:bE) (l:List br):Int:=(l.map fun f=>(mh H B f).cost).sum
def fX (H:aD) (B:bE) (l:List br):Int:=if kr H B≠0 then kr H B else if 60<l.length then 2 else if oZ H B l≠0 then oZ H B l else if 60<(qY H B l).length then 2 else 0
def om (H:aD) (B:bE) (l:List br):List Int:=if fX H B l=0 then qY H B l else []
def sc (H:aD) (B:bE) (l:List br):Int:=if fX H B l=0 then uK H B l else 0
theorem QZ {H:aD} {B:bE} {l:List br} {i:Nat} {f:br} (h:l[i]?=some f):qY H B (l.take (i+1))=qY H B (l.take i)++(mh H B f).aK:=by unfold qY;rw [cN h,List.map_append,List.flatten_append];simp
theorem Ra {H:aD} {B:bE} {l:List br} {i:Nat} {f:br} (h:l[i]?=some f):uK H B (l.take (i+1))=uK H B (l.take i)+(mh H B f).cost:=by unfold uK;rw [cN h,List.map_append,List.sum_append];simp
theorem Lt (H:aD) (B:bE) (f:br):0<=(mh H B f).cost/\(mh H B f).cost<=1000000:=by
 unfold mh;cases hl:iw H B f 1 with
 | nil=>exact ⟨by decide,by decide⟩
 | cons x t=>
   have hx:x∈iw H B f 1:=by rw [hl];exact List.mem_cons_self ..
   show 0<=x.cost/\x.cost<=1000000;unfold iw at hx;split at hx
   ·rename_i h;unfold je at h;split at h
    ·rename_i h1;exact absurd h h1
    rename_i h1;obtain ⟨h2,h3,h4⟩:=Lr (H:=H) (B:=B) (f:=f) (by omega);have hE:=Gg h2 h3 (qF h4);unfold gn at hx;obtain ⟨w,hw,rfl⟩:=List.mem_map.1 hx;have h5:=Dj hE _ gm zm rfl w (List.mem_of_mem_take hw);have h6:(12 - gm.n).toNat=12:=rfl;show 0<=w.cost / 16/\w.cost / 16<=1000000;omega
   cases hx
theorem GK (H:aD) (B:bE):∀ l:List br,(qY H B l).length<=12*l.length
 | []=>Nat.le_refl _
 | f::t=>by have h1:=GK H B t;have h2:=(Ls H B f).1;unfold qY at h1 ⊢;rw [List.map_cons,List.flatten_cons,List.length_append,List.length_cons];omega
theorem Lu (H:aD) (B:bE):∀ l:List br,0<=uK H B l/\uK H B l<=1000000*l.length
 | []=>by simp [uK]
 | f::t=>by have h1:=Lu H B t;have h2:=Lt H B f;unfold uK at h1 ⊢;rw [List.map_cons,List.sum_cons,List.length_cons];push_cast;omega
def c25:av:=⟨[0,1,2,3,4,6,7,8,9,11,12,13,18,22,23,24,25,26,37,50],[],[11,12],[],[],[]⟩
def c27:av:=⟨[0,1,2,3,4,6,7,8,9,10,11,12,13,14,19,23,27,41,53],[],[13],[],[(11,[0,1,2,3,4,5,6,7,8,9,10,11,12],[13])],[]⟩
theorem YU (H:aD) (B:bE) (l:List br) (hh:dx H) (hB:lN B) (hl:l.length<=1048576) (cY:∀ f∈l,f.ao.length<=1048576) :
  ab Tryz.prog 25 [.agg (aZ H),.agg (dO B),.sl 3 none (l.map dt)] [] (.aB [.sl 1 none (ints (om H B l)),.int .i64 (sc H B l),.int .i64 (fX H B l)]):=by
 refine ab.of ?_;refine aA (F:=Tryz.f25) c25 rfl rfl rfl mixed rfl fun X=>?_;(conv=>whnf);repeat (refine ab.k0 (Gb H B hh hB) ?_;conv=>whnf)
 refine ⟨fun h0=>?_,fun h0=>?_⟩<;>simp at h0
 ·have he:fX H B l=kr H B:=by unfold fX;rw [if_pos h0]
  unfold om sc;rw [he,if_neg h0,if_neg h0];(conv=>whnf);skip;exact aa.aB (.cons (aa.nil (by decide)) (.cons (aa.refl _) (.cons (aa.refl _) .nil)))
 (conv=>whnf);skip;refine ⟨fun h1=>?_,fun h1=>?_⟩<;>simp at h1
 ·have he:fX H B l=2:=by unfold fX;rw [if_neg (by omega),if_pos (by omega)]
  unfold om sc;rw [he,if_neg (by decide),if_neg (by decide)];(conv=>whnf);skip;exact aa.aB (.cons (aa.nil (by decide)) (.cons (aa.refl _) (.cons (aa.refl _) .nil)))
 have dJ:fX H B l=if oZ H B l≠0 then oZ H B l else if 60<(qY H B l).length then 2 else 0:=by unfold fX;rw [if_neg (by omega),if_neg (by omega)]
 (conv=>whnf);skip;refine bD rfl mixed [3,4,6,7,23,24,25] [(6,1)] (fun m r h=>∃ (i:Nat) (q:Nat),r=[(3,[],.ai (aZ H)),(4,[],.ai (dO B)),(6,[],.sl 1 (some q) (ints (qY H B (l.take i)))),(7,[],.int .i64 (uK H B (l.take i))),(23,[],.sl 3 none (l.map dt)),(24,[],.int .i64 (l.map dt).length),(25,[],.int .i64 i)]/\h=(q,.tok)::[]/\m=l.length - i/\i<=l.length/\oZ H B l=oZ H B (l.drop i)) ?_ ?_
 ·(conv=>whnf);refine ⟨by decide,fun q=>?_⟩;(conv=>whnf);exact ⟨_,_,ah.refl _ _,_,0,q,rfl,rfl,rfl,by omega,rfl⟩
 rintro m r h' ⟨i,q,rfl,rfl,rfl,hi,hg⟩;have fl:=GK H B (l.take i);have bq:=Lu H B (l.take i);rw [List.length_take] at fl bq;have jk:(ints (qY H B (l.take i))).length<=720:=by rw [cO];omega
 (conv=>whnf);refine ⟨fun hz=>?_,fun hz=>?_⟩<;>simp at hz
 ·obtain ⟨f,vZ⟩:=aF hz;have YV:=cY f (List.mem_of_getElem? vZ);have YW:=Lt H B f;have za:=Ls H B f;have uq:(ints (mh H B f).aK).length<=12:=by rw [cO];exact za.1
  rw [drop_cons vZ,oZ] at hg;(conv=>whnf);repeat ((first|refine ix (by assumption) ?_|refine ab.k0 (Xh H B f hh hB (by unfold aq;omega)) ?_|refine ⟨_,_,bj.here _,⟨Nat.le_of_ble_eq_true rfl,rfl⟩,?_⟩|intro (nb:Nat));conv=>whnf)
  refine ⟨fun h2=>?_,fun h2=>?_⟩<;>simp at h2
  ·rw [if_pos h2] at hg;have he:fX H B l=je H B f 1:=(by rw [dJ,hg,if_pos h2]);unfold om sc;rw [he,if_neg h2,if_neg h2];(conv=>whnf);skip;exact aa.aB (.cons (aa.nil (by decide)) (.cons (aa.refl _) (.cons (aa.refl _) .nil)))
  rw [if_neg (by omega)] at hg;(conv=>whnf);repeat ((first|refine ⟨ag ⟨by omega,by omega⟩,?_⟩|(refine ⟨(by rw [List.length_append];unfold aN;omega),fun q'=>⟨_,.here _,?_⟩⟩));conv=>whnf)
  refine ⟨_,_,ah.refl _ _,_,(by omega),i+1,q',?_,rfl,rfl,by omega,hg⟩;rw [QZ vZ,Ra vZ];unfold ints;rw [List.map_append];rfl
 have bw:i=l.length:=(by omega);subst bw;rw [List.drop_length] at hg;have hg:oZ H B l=0:=hg;rw [hg,if_neg (by decide)] at dJ;rw [List.take_length];(conv=>whnf);skip;refine ⟨fun h3=>?_,fun h3=>?_⟩<;>simp [cO] at h3
 ·have he:fX H B l=2:=(by rw [dJ,if_pos (by omega)]);unfold om sc;rw [he,if_neg (by decide),if_neg (by decide)];(conv=>whnf);skip;exact aa.aB (.cons (aa.nil (by decide)) (.cons (aa.refl _) (.cons (aa.refl _) .nil)))
 have he:fX H B l=0:=(by rw [dJ,if_neg (by omega)]);unfold om sc;rw [he,if_pos rfl,if_pos rfl];(conv=>whnf);skip;exact aa.aB (.cons aa.sl (.cons (aa.refl _) (.cons (aa.refl _) .nil)))
theorem YX (H:aD) (B:bE) (l:List br) (hh:dx H) (hB:lN B) (hl:l.length<=1048576) (cY:∀ f∈l,f.ao.length<=1048576) :
  ab Tryz.prog 27 [.agg (aZ H),.agg (dO B),.sl 3 none (l.map dt)] [] (.aB [.sl 1 none (ints (om H B l)),.int .i64 (sc H B l),.int .i64 (fX H B l)]):=by
 refine ab.of ?_;refine aA (F:=Tryz.f27) c27 rfl rfl rfl mixed rfl fun X=>?_;(conv=>whnf);repeat (refine ab.k0 (Gm H B hh hB) ?_;conv=>whnf)
 refine ⟨fun h0=>?_,fun h0=>?_⟩<;>simp at h0
 ·have he:fX H B l=kr H B:=by unfold fX;rw [if_pos h0]
  unfold om sc;rw [he,if_neg h0,if_neg h0];(conv=>whnf);skip;exact aa.aB (.cons (aa.nil (by decide)) (.cons (aa.refl _) (.cons (aa.refl _) .nil)))
 (conv=>whnf);skip;refine ⟨fun h1=>?_,fun h1=>?_⟩<;>simp at h1
 ·have he:fX H B l=2:=by unfold fX;rw [if_neg (by omega),if_pos (by omega)]
  unfold om sc;rw [he,if_neg (by decide),if_neg (by decide)];(conv=>whnf);skip;exact aa.aB (.cons (aa.nil (by decide)) (.cons (aa.refl _) (.cons (aa.refl _) .nil)))
 have dJ:fX H B l=if oZ H B l≠0 then oZ H B l else if 60<(qY H B l).length then 2 else 0:=by unfold fX;rw [if_neg (by omega),if_neg (by omega)]
 (conv=>whnf);skip;refine bD rfl mixed [2,3,4,10,11,12] [(10,1)] (fun m r h=>∃ (i:Nat) (q:Nat),r=[(2,[],.sl 3 none (l.map dt)),(3,[],.ai (aZ H)),(4,[],.ai (dO B)),(10,[],.sl 1 (some q) (ints (qY H B (l.take i)))),(11,[],.int .i64 (uK H B (l.take i))),(12,[],.int .i64 i)]/\h=(q,.tok)::[]/\m=l.length - i/\i<=l.length/\oZ H B l=oZ H B (l.drop i)) ?_ ?_
 ·(conv=>whnf);refine ⟨by decide,fun q=>?_⟩;(conv=>whnf);exact ⟨_,_,ah.refl _ _,_,0,q,rfl,rfl,rfl,by omega,rfl⟩
 rintro m r h' ⟨i,q,rfl,rfl,rfl,hi,hg⟩;have fl:=GK H B (l.take i);have bq:=Lu H B (l.take i);rw [List.length_take] at fl bq;have jk:(ints (qY H B (l.take i))).length<=720:=by rw [cO];omega
 (conv=>whnf);refine ⟨fun hz=>?_,fun hz=>?_⟩<;>simp at hz
 ·obtain ⟨f,vZ⟩:=aF hz;have YV:=cY f (List.mem_of_getElem? vZ);have YW:=Lt H B f;have za:=Ls H B f;have uq:(ints (mh H B f).aK).length<=12:=by rw [cO];exact za.1
  rw [drop_cons vZ,oZ] at hg;(conv=>whnf);repeat ((first|refine ix (by assumption) ?_|refine aY (YR H B f hh hB (by unfold aq;omega)) ?_|refine ⟨_,_,bj.here _,?_⟩|refine ⟨_,_,.here _,aI,?_⟩|refine And.intro (by show aJ (aH Tryz.f27 _) _=true;decide +kernel) ?_|intro (nb:Nat));conv=>whnf)
  refine ⟨fun h2=>?_,fun h2=>?_⟩<;>simp at h2
  ·rw [if_pos h2] at hg;have he:fX H B l=je H B f 1:=(by rw [dJ,hg,if_pos h2]);unfold om sc;rw [he,if_neg h2,if_neg h2];(conv=>whnf);skip;exact aa.aB (.cons (aa.nil (by decide)) (.cons (aa.refl _) (.cons (aa.refl _) .nil)))
  rw [if_neg (by omega)] at hg;(conv=>whnf);repeat ((first|refine ⟨ag ⟨by omega,by omega⟩,?_⟩|(refine ⟨(by rw [List.length_append];unfold aN;omega),fun q'=>⟨_,.here _,?_⟩⟩));conv=>whnf)
  refine ⟨_,_,ah.refl _ _,_,(by omega),i+1,q',?_,rfl,rfl,by omega,hg⟩;rw [QZ vZ,Ra vZ];unfold ints;rw [List.map_append];rfl
 have bw:i=l.length:=(by omega);subst bw;rw [List.drop_length] at hg;have hg:oZ H B l=0:=hg;rw [hg,if_neg (by decide)] at dJ;rw [List.take_length];(conv=>whnf);skip;refine ⟨fun h3=>?_,fun h3=>?_⟩<;>simp [cO] at h3
 ·have he:fX H B l=2:=(by rw [dJ,if_pos (by omega)]);unfold om sc;rw [he,if_neg (by decide),if_neg (by decide)];(conv=>whnf);skip;exact aa.aB (.cons (aa.nil (by decide)) (.cons (aa.refl _) (.cons (aa.refl _) .nil)))
 have he:fX H B l=0:=(by rw [dJ,if_neg (by omega)]);unfold om sc;rw [he,if_pos rfl,if_pos rfl];(conv=>whnf);skip;exact aa.aB (.cons aa.sl (.cons (aa.refl _) (.cons (aa.refl _) .nil)))
end Go.Abs.Wall.Spl
