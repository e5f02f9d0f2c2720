/- What is proved: small laws for the walks of this seat, and contracts of its functions. No condition but those each theorem names. -/
import Derived.Test.YtbmcnieifibckaaGreatN31
set_option maxRecDepth 100000
set_option maxHeartbeats 2000000
set_option linter.unusedVariables false
set_option linter.unusedSimpArgs false
namespace Go.Abs.Wall.Spl
open Go Go.Abs Go.Proofs Go.Abs.Wall Go.Proofs.YtbmcnieifibckaaGreat.Br
def tD (H:aj) (B:bl):List aZ->Int
 | []=>0
 | f::t=>if gX H B f 1≠0 then gX H B f 1 else tD H B t
def cq (H:aj) (B:bl) (l:List aZ):List Int:=(l.map fun f=>(dz H B f).aA).flatten
def rX (H:aj) (B:bl) (l:List aZ):Int:=(l.map fun f=>(dz H B f).cost).sum
def iE (H:aj) (B:bl) (l:List aZ):Int:=if iB H B≠0 then iB H B else if 60<l.length then 2 else if tD H B l≠0 then tD H B l else if 60<(cq H B l).length then 2 else 0
def tE (H:aj) (B:bl) (l:List aZ):List Int:=if iE H B l=0 then cq H B l else []
def xD (H:aj) (B:bl) (l:List aZ):Int:=if iE H B l=0 then rX H B l else 0
theorem LB {H:aj} {B:bl} {l:List aZ} {i:Nat} {f:aZ} (h:l[i]?=some f):cq H B (l.take (i+1))=cq H B (l.take i)++(dz H B f).aA:=by unfold cq;rw [dj h,List.map_append,List.flatten_append];simp
theorem RH {H:aj} {B:bl} {l:List aZ} {i:Nat} {f:aZ} (h:l[i]?=some f):rX H B (l.take (i+1))=rX H B (l.take i)+(dz H B f).cost:=by unfold rX;rw [dj h,List.map_append,List.sum_append];simp
theorem LC (H:aj) (B:bl) (f:aZ):0<=(dz H B f).cost/\(dz H B f).cost<=1000000:=by
 unfold dz;cases hl:ma H B f 1 with
 | nil=>exact ⟨by decide,by decide⟩
 | cons x t=>
   have hx:x∈ma H B f 1:=by rw [hl];exact List.mem_cons_self ..
   show 0<=x.cost/\x.cost<=1000000;unfold ma at hx;split at hx
   ·rename_i h;unfold gX at h;split at h
    ·rename_i h1;exact absurd h h1
    rename_i h1;obtain ⟨h2,h3,h4⟩:=Hf (H:=H) (B:=B) (f:=f) (by omega);have hE:=Du h2 h3 (mn h4);unfold iC at hx;obtain ⟨w,hw,rfl⟩:=List.mem_map.1 hx;have h5:=Gy hE _ eK xk rfl w (List.mem_of_mem_take hw);have h6:(12 - eK.n).toNat=12:=rfl;show 0<=w.cost / 16/\w.cost / 16<=1000000;omega
   cases hx
theorem Hg (H:aj) (B:bl):∀ l:List aZ,(cq H B l).length<=12*l.length
 | []=>Nat.le_refl _
 | f::t=>by have h1:=Hg H B t;have h2:=(DU H B f).1;unfold cq at h1 ⊢;rw [List.map_cons,List.flatten_cons,List.length_append,List.length_cons];omega
theorem LD (H:aj) (B:bl):∀ l:List aZ,0<=rX H B l/\rX H B l<=1000000*l.length
 | []=>by simp [rX]
 | f::t=>by have h1:=LD H B t;have h2:=LC H B f;unfold rX at h1 ⊢;rw [List.map_cons,List.sum_cons,List.length_cons];push_cast;omega
def c28:az:=⟨[0,1,2,3,4,6,7,8,9,11,12,13,18,22,23,24,25,26,37,50],[],[11,12],[],[],[]⟩
def c6:az:=⟨[0,1,2,3,4,6,7,8,9,10,11,12,24],[],[],[],[],[]⟩
theorem RI (H:aj) (B:bl) (l:List aZ) (hh:dU H) (hB:pS B) (hl:l.length<=1048576) (dP:∀ f∈l,f.ar.length<=1048576) :
  ae Tryz.prog 28 [.agg (bu H),.agg (fN B),.sl 3 none (l.map eZ)] [] (.aH [.sl 1 none (ints (tE H B l)),.int .i64 (xD H B l),.int .i64 (iE H B l)]):=by
 refine ae.of ?_;refine aG (F:=Tryz.f28) c28 rfl rfl rfl mixed rfl fun X=>?_;(conv=>whnf);repeat (refine ae.k0 (Ba H B hh hB) ?_;conv=>whnf)
 refine ⟨fun h0=>?_,fun h0=>?_⟩<;>simp at h0
 ·have he:iE H B l=iB H B:=by unfold iE;rw [if_pos h0]
  unfold tE xD;rw [he,if_neg h0,if_neg h0];(conv=>whnf);skip;exact ag.aH (.cons (ag.nil (by decide)) (.cons (ag.refl _) (.cons (ag.refl _) .nil)))
 (conv=>whnf);skip;refine ⟨fun h1=>?_,fun h1=>?_⟩<;>simp at h1
 ·have he:iE H B l=2:=by unfold iE;rw [if_neg (by omega),if_pos (by omega)]
  unfold tE xD;rw [he,if_neg (by decide),if_neg (by decide)];(conv=>whnf);skip;exact ag.aH (.cons (ag.nil (by decide)) (.cons (ag.refl _) (.cons (ag.refl _) .nil)))
 have fm:iE H B l=if tD H B l≠0 then tD H B l else if 60<(cq H B l).length then 2 else 0:=by unfold iE;rw [if_neg (by omega),if_neg (by omega)]
 (conv=>whnf);skip;refine bW rfl mixed [3,4,6,7,23,24,25] [(6,1)] (fun m r h=>∃ (i:Nat) (q:Nat),r=[(3,[],.au (bu H)),(4,[],.au (fN B)),(6,[],.sl 1 (some q) (ints (cq H B (l.take i)))),(7,[],.int .i64 (rX H B (l.take i))),(23,[],.sl 3 none (l.map eZ)),(24,[],.int .i64 (l.map eZ).length),(25,[],.int .i64 i)]/\h=(q,.tok)::[]/\m=l.length - i/\i<=l.length/\tD H B l=tD H B (l.drop i)) ?_ ?_
 ·(conv=>whnf);refine ⟨by decide,fun q=>?_⟩;(conv=>whnf);exact ⟨_,_,ao.refl _ _,_,0,q,rfl,rfl,rfl,by omega,rfl⟩
 rintro m r h' ⟨i,q,rfl,rfl,rfl,hi,hg⟩;have eu:=Hg H B (l.take i);have bz:=LD H B (l.take i);rw [List.length_take] at eu bz;have jv:(ints (cq H B (l.take i))).length<=720:=by rw [cg];omega
 (conv=>whnf);refine ⟨fun hz=>?_,fun hz=>?_⟩<;>simp at hz
 ·obtain ⟨f,uK⟩:=aL hz;have Y1:=dP f (List.mem_of_getElem? uK);have Zv:=LC H B f;have wY:=DU H B f;have vE:(ints (dz H B f).aA).length<=12:=by rw [cg];exact wY.1
  rw [drop_cons uK,tD] at hg;(conv=>whnf);repeat ((first|refine ix (by assumption) ?_|refine ae.k0 (KH H B f hh hB (by unfold aw;omega)) ?_|refine ⟨_,_,bo.here _,⟨Nat.le_of_ble_eq_true rfl,rfl⟩,?_⟩|intro (nb:Nat));conv=>whnf)
  refine ⟨fun h2=>?_,fun h2=>?_⟩<;>simp at h2
  ·rw [if_pos h2] at hg;have he:iE H B l=gX H B f 1:=(by rw [fm,hg,if_pos h2]);unfold tE xD;rw [he,if_neg h2,if_neg h2];(conv=>whnf);skip;exact ag.aH (.cons (ag.nil (by decide)) (.cons (ag.refl _) (.cons (ag.refl _) .nil)))
  rw [if_neg (by omega)] at hg;(conv=>whnf);repeat ((first|refine ⟨ah ⟨by omega,by omega⟩,?_⟩|(refine ⟨(by rw [List.length_append];unfold aU;omega),fun q'=>⟨_,.here _,?_⟩⟩));conv=>whnf)
  refine ⟨_,_,ao.refl _ _,_,(by omega),i+1,q',?_,rfl,rfl,by omega,hg⟩;rw [LB uK,RH uK];unfold ints;rw [List.map_append];rfl
 have bC:i=l.length:=(by omega);subst bC;rw [List.drop_length] at hg;have hg:tD H B l=0:=hg;rw [hg,if_neg (by decide)] at fm;rw [List.take_length];(conv=>whnf);skip;refine ⟨fun h3=>?_,fun h3=>?_⟩<;>simp [cg] at h3
 ·have he:iE H B l=2:=(by rw [fm,if_pos (by omega)]);unfold tE xD;rw [he,if_neg (by decide),if_neg (by decide)];(conv=>whnf);skip;exact ag.aH (.cons (ag.nil (by decide)) (.cons (ag.refl _) (.cons (ag.refl _) .nil)))
 have he:iE H B l=0:=(by rw [fm,if_neg (by omega)]);unfold tE xD;rw [he,if_pos rfl,if_pos rfl];(conv=>whnf);skip;exact ag.aH (.cons ag.sl (.cons (ag.refl _) (.cons (ag.refl _) .nil)))
end Go.Abs.Wall.Spl
