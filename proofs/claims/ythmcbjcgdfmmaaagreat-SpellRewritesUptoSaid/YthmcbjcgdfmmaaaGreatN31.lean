/- Small laws for the walks and contracts of functions; each theorem names its conditions. -/
import Derived.Test.YthmcbjcgdfmmaaaGreatN8
import Derived.Test.YthmcbjcgdfmmaaaGreatN24
import Derived.Test.YthmcbjcgdfmmaaaGreatN25
import Derived.Test.YthmcbjcgdfmmaaaGreatN10
import Derived.Test.YthmcbjcgdfmmaaaGreatN30
set_option maxRecDepth 100000
set_option maxHeartbeats 2000000
namespace Go.Abs.Wall.Spl
open Go Go.Abs Go.Proofs Go.Abs.Wall Go.Proofs.YthmcbjcgdfmmaaaGreat.Br
def Lq (H:aD) (line:List Int):Bool:=(decide (24<(H.list.aK.length:Int))&&decide ((H.list.aK.length:Int)<=200))||Ch H line
def c4:av:=⟨[0,1,2,4],[],[],[],[],[]⟩
theorem YO (H:aD) (line:List Int):ab Tryz.prog 4 [.agg (aZ H),.sl 1 none (ints line)] [] (.bool (Lq H line)):=by
 have he:Lq H line=((decide (24<((H.list.aK.map hZ).length:Int))&&decide (((H.list.aK.map hZ).length:Int)<=200))||Ch H line):=by unfold Lq;rw [List.length_map]
 rw [he];refine aA (F:=Tryz.f4) c4 rfl rfl rfl mixed rfl fun X=>?_;(conv=>whnf);repeat (refine aY (UC H line) ?_;conv=>whnf)
 exact ⟨rfl,rfl⟩
end Go.Abs.Wall.Spl
namespace Go.Abs.Wall.Spl
open Go Go.Abs Go.Proofs Go.Abs.Wall Go.Proofs.YthmcbjcgdfmmaaaGreat.Br
def c141:av:=⟨[0,1,2,3,4,5,6,7,12],[],[],[],[],[]⟩
def c94:av:=⟨[0,1,2,3,4,5,6,8,9,10,11,17,24,32],[],[],[],[],[]⟩
def c55:av:=⟨[0,1,2,3,4,5,6,7,8,9,18],[],[],[],[],[]⟩
theorem YP (H:aD) (B:bE) (f:br) (hh:dx H) (hB:lN B) (cY:f.ao.length<=aq):ab Tryz.prog 141 [.agg (aZ H),.agg (dO B),.agg (dt f)] [] (.int .i64 (iv H B f)):=by
 refine aA (F:=Tryz.f141) c141 rfl rfl rfl mixed rfl fun X=>?_;(conv=>whnf);repeat (refine ab.k0 (Gm H B hh hB) ?_;conv=>whnf)
 refine ⟨fun h0=>?_,fun h0=>?_⟩<;>simp at h0
 ·rw [iv,if_pos h0];(conv=>whnf);skip;exact ⟨rfl,rfl⟩
 rw [iv,if_neg (by omega)];(conv=>whnf);repeat (refine ab.k0 (QY H.lex f hh.lex cY) ?_;conv=>whnf)
 exact ⟨rfl,rfl⟩
theorem Lr {H:aD} {B:bE} {f:br} (hb:iv H B f=0):fA H=0/\lM H B=true/\fC H.lex f=0:=by
 unfold iv at hb;split at hb
 ·rename_i h1;exact absurd hb h1
 rename_i h1;obtain ⟨h2,h3⟩:=Dq (H:=H) (B:=B) (by omega);exact ⟨h2,h3,hb⟩
theorem YQ (H:aD) (B:bE) (f:br) (most:Int) (hh:dx H) (hB:lN B) (cY:f.ao.length<=aq) :
  ab Tryz.prog 94 [.agg (aZ H),.agg (dO B),.agg (dt f),.int .i64 most] [] (.aB [.sl 3 none ((iw H B f most).map nV),.int .i64 (je H B f most)]):=by
 refine ab.of ?_;refine aA (F:=Tryz.f94) c94 rfl rfl rfl mixed rfl fun X=>?_;(conv=>whnf);repeat (refine ab.k0 (YP H B f hh hB cY) ?_;conv=>whnf)
 refine ⟨fun h0=>?_,fun h0=>?_⟩<;>simp at h0
 ·have he:je H B f most=iv H B f:=by unfold je;rw [if_pos h0]
  (conv=>whnf);skip;unfold iw;rw [he,if_neg h0];exact aa.aB (.cons (aa.nil (by decide)) (.cons (aa.refl _) .nil))
 obtain ⟨h1,h2,h3⟩:=Lr h0;have dJ:je H B f most=if 1<=most/\most<=64 then (if eA (lO H B f) gm=[] then 61 else 0) else 1:=by unfold je;rw [if_neg (by omega)]
 (conv=>whnf);skip;by_cases hm:1<=most/\most<=64
 rotate_left
 ·refine cT (by simp;omega) ?_;(conv=>whnf);skip;unfold iw;rw [dJ,if_neg hm,if_neg (by decide)];exact aa.aB (.cons (aa.nil (by decide)) (.cons (aa.refl _) .nil))
 rw [if_pos hm] at dJ;refine cF (by simp;omega) ?_;obtain ⟨n,rfl⟩:=Int.eq_ofNat_of_zero_le (a:=most) (by omega);have Bm:=YI H B f hh h1 h2 h3 n (by omega) (by omega);(conv=>whnf);repeat (refine ab.k0 (Bm) ?_;conv=>whnf)
 by_cases hw:eA (lO H B f) gm=[]
 ·rw [if_pos hw] at dJ;refine cT (by unfold gn;rw [hw];simp) ?_;(conv=>whnf);skip;unfold iw;rw [dJ,if_neg (by decide)];exact aa.aB (.cons (aa.nil (by decide)) (.cons (aa.refl _) .nil))
 rw [if_neg hw] at dJ;have hl:=List.length_pos_iff.2 hw;refine cF (decide_eq_false (by unfold gn;rw [List.length_map,List.length_map,List.length_take];omega)) ?_;(conv=>whnf);skip;unfold iw;rw [dJ,if_pos rfl];exact aa.refl _
theorem YR (H:aD) (B:bE) (f:br) (hh:dx H) (hB:lN B) (cY:f.ao.length<=aq) :
  ab Tryz.prog 55 [.agg (aZ H),.agg (dO B),.agg (dt f)] [] (.aB [.agg (nV (mh H B f)),.int .i64 (je H B f 1)]):=by
 have hl:=YQ H B f 1 hh hB cY;refine ab.of ?_;refine aA (F:=Tryz.f55) c55 rfl rfl rfl mixed rfl fun X=>?_;(conv=>whnf);intro rb;(conv=>whnf);repeat (refine ab.k0 (hl) ?_;conv=>whnf)
 refine ⟨fun h0=>?_,fun h0=>?_⟩<;>simp at h0
 ·have hn:iw H B f 1=[]:=by unfold iw;rw [if_neg h0]
  (conv=>whnf);repeat ((first|(refine ⟨_,_,.here _,aI,?_⟩)|refine ⟨_,_,.head _,rfl,?_⟩);conv=>whnf)
  unfold mh;rw [hn];exact aa.aB (.cons (aa.agg (.cons (aa.nil (by decide)) (.cons (aa.nil (by decide)) (.cons (aa.refl _) .nil)))) (.cons (aa.refl _) .nil))
 obtain ⟨x,t,hx⟩:=List.exists_cons_of_ne_nil (PO h0);have lJ:(iw H B f 1)[0]?=some x:=by rw [hx];rfl
 (conv=>whnf);repeat ((first|refine ix (by assumption) ?_|(refine ⟨_,_,.here _,aI,?_⟩)|refine ⟨_,_,.head _,rfl,?_⟩);conv=>whnf)
 unfold mh;rw [hx,h0];exact aa.refl _
theorem YS {E:Env} (hE:gk E) {n:Nat} {s:Spl} (h:s∈gn E n):s.aK.length<=12/\s.ay.length<=12:=by unfold gn at h;obtain ⟨w,hw,rfl⟩:=List.mem_map.1 h;obtain ⟨ρ,hρ⟩:=List.mem_iff_getElem?.1 (List.mem_of_mem_take hw);have h5:=Ko hE _ gm zm (Qf hE _ gm zm rfl ρ w hρ).1;have h6:gm.n=0:=rfl;unfold uC;simp only [List.length_map];omega
theorem YT {H:aD} {B:bE} {f:br} {most:Int}:∀ s∈iw H B f most,s.aK.length<=12/\s.ay.length<=12:=by
 intro s hs;unfold iw at hs;split at hs
 ·rename_i h;unfold je at h;split at h
  ·rename_i h1;exact absurd h h1
  rename_i h1;obtain ⟨h2,h3,h4⟩:=Lr (H:=H) (B:=B) (f:=f) (by omega);exact YS (Gg h2 h3 (qF h4)) hs
 cases hs
theorem Ls (H:aD) (B:bE) (f:br):(mh H B f).aK.length<=12/\(mh H B f).ay.length<=12:=by
 unfold mh;cases hl:iw H B f 1 with
 | nil=>exact ⟨Nat.zero_le _,Nat.zero_le _⟩
 | cons x t=>exact YT x (by rw [hl];exact List.mem_cons_self ..)
end Go.Abs.Wall.Spl
