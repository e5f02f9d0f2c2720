/- What is proved: small laws for the walks of this seat, and contracts of its functions. No condition but those each theorem names. -/
import Derived.Test.YtbmcnieifibckaaGreatN8
import Derived.Test.YtbmcnieifibckaaGreatN24
import Derived.Test.YtbmcnieifibckaaGreatN25
import Derived.Test.YtbmcnieifibckaaGreatN10
import Derived.Test.YtbmcnieifibckaaGreatN30
set_option maxRecDepth 100000
set_option maxHeartbeats 2000000
set_option linter.unusedVariables false
set_option linter.unusedSimpArgs false
namespace Go.Abs.Wall.Spl
open Go Go.Abs Go.Proofs Go.Abs.Wall Go.Proofs.YtbmcnieifibckaaGreat.Br
structure Ask where
 form:Frm
 most:Int
def encAsk (a:Ask):List AV:=encFrm a.form++[.int .i64 a.most]
theorem argAsk {x:AV} (h:ArgSh Tryz.prog B20 40 x):∃ a:Ask,x=.agg (encAsk a)∧a.form.clitics.length≤B20∧IntKind.i64.has a.most:=by
 obtain ⟨xs,h,hx⟩:=h
 have hx:x=.agg xs:=hx
 subst hx
 obtain ⟨ps,rfl,hp⟩:=sh_struct h rfl
 obtain ⟨x,y,rfl,h1,h2⟩:=sh2 hp
 obtain ⟨f,rfl,hf⟩:=shFrm h1
 obtain ⟨n,rfl,hn⟩:=shInt h2
 exact ⟨⟨f,n⟩,by unfold encAsk;simp,hf,hn⟩
def heavS (H:Hou) (line:List Int):Bool:=(decide (24<(H.list.signs.length:Int))&&decide ((H.list.signs.length:Int)≤200))||largeM H line
def c17:Cfg:=⟨[0,1,2,4],[],[],[],[],[]⟩
def c21:Cfg:=⟨[0,1,2,3,4],[],[],[],[],[]⟩
theorem heavyW (H:Hou) (line:List Int):QCall Tryz.prog 17 [.agg (encHou H),.sl 1 none (ints line)] [] (.bool (heavS H line)):=by
 have he:heavS H line=((decide (24<((H.list.signs.map encSgn).length:Int))&&decide (((H.list.signs.map encSgn).length:Int)≤200))||largeM H line):=by unfold heavS;rw [List.length_map]
 rw [he]
 refine fcalls (F:=Tryz.f17) c17 rfl rfl rfl mixed rfl fun X=>?_
 conv=>whnf
 repeat (refine gcall (largeW H line) ?_;conv=>whnf)
 exact ⟨rfl,rfl⟩
theorem heavyNil (H:Hou):QCall Tryz.prog 17 [.agg (encHou H),.nilS] [] (.bool (heavS H [])):=QCall.args (heavyW H []) (.cons (VLe.refl _) (.cons (VLe.nil (by decide)) .nil))
def sameB (a b:Spl):Bool:=(decide (a.cost=b.cost)&&decide (a.signs=b.signs))&&decide (a.uses=b.uses)
theorem sameB_self (a:Spl):sameB a a=true:=by unfold sameB;simp
theorem samW (a b:Spl) (h1:a.signs.length≤LMAX) (h2:b.signs.length≤LMAX) (h3:a.uses.length≤LMAX) (h4:b.uses.length≤LMAX):QCall Tryz.prog 21 [.agg (encSpl a),.agg (encSpl b)] [] (.bool (sameB a b)):=by
 refine fcalls (F:=Tryz.f21) c21 rfl rfl rfl mixed rfl fun X=>?_
 conv=>whnf
 repeat ((first|refine gcall (sameInts a.signs b.signs h1 h2) ?_|refine gcall (sameUses a.uses b.uses h3 h4) ?_);conv=>whnf)
 exact ⟨rfl,rfl⟩
end Go.Abs.Wall.Spl
namespace Go.Abs.Wall.Spl
open Go Go.Abs Go.Proofs Go.Abs.Wall Go.Proofs.YtbmcnieifibckaaGreat.Br
def c56:Cfg:=⟨[0,1,2,3,4,5,6,7,12],[],[],[],[],[]⟩
def c20:Cfg:=⟨[0,1,2,3,4,5,6,8,9,10,11,17,24,32],[],[],[],[],[]⟩
def c23:Cfg:=⟨[0,1,2,3,4,5,6,7,8,9,18],[],[],[],[],[]⟩
def c3:Cfg:=⟨[0,1,2,3,4,5,6,7,8,9,10,11,12,13,15,46,50,62],[],[12,13],[],[(10,[0,1,2,3,4,5,6,7,8,9],[])],[]⟩
theorem r7Form (H:Hou) (B:Hab) (f:Frm) (hh:HouFit H) (hB:HabFit B) (hfl:f.clitics.length≤LMAX):QCall Tryz.prog 56 [.agg (encHou H),.agg (encHab B),.agg (encFrm f)] [] (.int .i64 (begErr H B f)):=by
 refine fcalls (F:=Tryz.f56) c56 rfl rfl rfl mixed rfl fun X=>?_
 conv=>whnf
 repeat (refine QCall.k0 (r7CheckHab H B hh hB) ?_;conv=>whnf)
 refine ⟨fun h0=>?_,fun h0=>?_⟩<;>simp at h0
 ·rw [begErr,if_pos h0]
  conv=>whnf
  skip
  exact ⟨rfl,rfl⟩
 ·rw [begErr,if_neg (by omega)]
  conv=>whnf
  repeat (refine QCall.k0 (refForm H.lex f hh.lex hfl) ?_;conv=>whnf)
  exact ⟨rfl,rfl⟩
theorem beg_ok {H:Hou} {B:Hab} {f:Frm} (hb:begErr H B f=0):houErr H=0∧rightM H B=true∧frmErr H.lex f=0:=by
 unfold begErr at hb
 split at hb
 ·rename_i h1;exact absurd hb h1
 rename_i h1
 obtain ⟨h2,h3⟩:=habOK (H:=H) (B:=B) (by omega)
 exact ⟨h2,h3,hb⟩
theorem r7List (H:Hou) (B:Hab) (f:Frm) (most:Int) (hh:HouFit H) (hB:HabFit B) (hfl:f.clitics.length≤LMAX) :
  QCall Tryz.prog 20 [.agg (encHou H),.agg (encHab B),.agg (encFrm f),.int .i64 most] [] (.tup [.sl 3 none ((listS H B f most).map encSpl),.int .i64 (listE H B f most)]):=by
 refine QCall.of ?_
 refine fcalls (F:=Tryz.f20) c20 rfl rfl rfl mixed rfl fun X=>?_
 conv=>whnf
 repeat (refine QCall.k0 (r7Form H B f hh hB hfl) ?_;conv=>whnf)
 refine ⟨fun h0=>?_,fun h0=>?_⟩<;>simp at h0
 ·have he:listE H B f most=begErr H B f:=by unfold listE;rw [if_pos h0]
  conv=>whnf
  skip
  unfold listS
  rw [he,if_neg h0]
  exact VLe.tup (.cons (VLe.nil (by decide)) (.cons (VLe.refl _) .nil))
 obtain ⟨h1,h2,h3⟩:=beg_ok h0
 have he0:listE H B f most=if 1≤most∧most≤64 then (if wayS (envM H B f) st0=[] then 61 else 0) else 1:=by unfold listE;rw [if_neg (by omega)]
 conv=>whnf
 skip
 by_cases hm:1≤most∧most≤64
 rotate_left
 ·refine cT (by simp;omega) ?_
  conv=>whnf
  skip
  unfold listS
  rw [he0,if_neg hm,if_neg (by decide)]
  exact VLe.tup (.cons (VLe.nil (by decide)) (.cons (VLe.refl _) .nil))
 rw [if_pos hm] at he0
 refine cF (by simp;omega) ?_
 obtain ⟨n,rfl⟩:=Int.eq_ofNat_of_zero_le (a:=most) (by omega)
 have hfi:=r7First H B f hh h1 h2 h3 n (by omega) (by omega)
 conv=>whnf
 repeat (refine QCall.k0 (hfi) ?_;conv=>whnf)
 by_cases hw:wayS (envM H B f) st0=[]
 ·rw [if_pos hw] at he0
  refine cT (by unfold splsOf;rw [hw];simp) ?_
  conv=>whnf
  skip
  unfold listS
  rw [he0,if_neg (by decide)]
  exact VLe.tup (.cons (VLe.nil (by decide)) (.cons (VLe.refl _) .nil))
 ·rw [if_neg hw] at he0
  have hl:=List.length_pos_iff.2 hw
  refine cF (decide_eq_false (by unfold splsOf;rw [List.length_map,List.length_map,List.length_take];omega)) ?_
  conv=>whnf
  skip
  unfold listS
  rw [he0,if_pos rfl]
  exact VLe.refl _
theorem r7Best (H:Hou) (B:Hab) (f:Frm) (hh:HouFit H) (hB:HabFit B) (hfl:f.clitics.length≤LMAX) :
  QCall Tryz.prog 23 [.agg (encHou H),.agg (encHab B),.agg (encFrm f)] [] (.tup [.agg (encSpl (bestS H B f)),.int .i64 (listE H B f 1)]):=by
 have hl:=r7List H B f 1 hh hB hfl
 refine QCall.of ?_
 refine fcalls (F:=Tryz.f23) c23 rfl rfl rfl mixed rfl fun X=>?_
 conv=>whnf
 intro rb
 conv=>whnf
 repeat (refine QCall.k0 (hl) ?_;conv=>whnf)
 refine ⟨fun h0=>?_,fun h0=>?_⟩<;>simp at h0
 ·have hn:listS H B f 1=[]:=by unfold listS;rw [if_neg h0]
  conv=>whnf
  repeat ((first|(refine ⟨_,_,.here _,leOK,?_⟩)|refine ⟨_,_,.head _,rfl,?_⟩);conv=>whnf)
  unfold bestS
  rw [hn]
  exact VLe.tup (.cons (VLe.agg (.cons (VLe.nil (by decide)) (.cons (VLe.nil (by decide)) (.cons (VLe.refl _) .nil)))) (.cons (VLe.refl _) .nil))
 ·obtain ⟨x,t,hx⟩:=List.exists_cons_of_ne_nil (listS_one h0)
  have hx0:(listS H B f 1)[0]?=some x:=by rw [hx];rfl
  conv=>whnf
  repeat ((first|refine ix (by assumption) ?_|(refine ⟨_,_,.here _,leOK,?_⟩)|refine ⟨_,_,.head _,rfl,?_⟩);conv=>whnf)
  unfold bestS
  rw [hx,h0]
  exact VLe.refl _
theorem spl_short {E:Env} (hE:EOK E) {n:Nat} {s:Spl} (h:s∈splsOf E n):s.signs.length≤12∧s.uses.length≤12:=by
 unfold splsOf at h
 obtain ⟨w,hw,rfl⟩:=List.mem_map.1 h
 obtain ⟨ρ,hρ⟩:=List.mem_iff_getElem?.1 (List.mem_of_mem_take hw)
 have h5:=path_len hE _ st0 st0_ok (way_path hE _ st0 st0_ok rfl ρ w hρ).1
 have h6:st0.n=0:=rfl
 unfold splOf
 simp only [List.length_map]
 omega
theorem listS_short {H:Hou} {B:Hab} {f:Frm} {most:Int}:∀ s∈listS H B f most,s.signs.length≤12∧s.uses.length≤12:=by
 intro s hs
 unfold listS at hs
 split at hs
 ·rename_i h
  unfold listE at h
  split at h
  ·rename_i h1;exact absurd h h1
  rename_i h1
  obtain ⟨h2,h3,h4⟩:=beg_ok (H:=H) (B:=B) (f:=f) (by omega)
  exact spl_short (env_ok h2 h3 (frmOK h4)) hs
 ·cases hs
theorem bestS_short (H:Hou) (B:Hab) (f:Frm):(bestS H B f).signs.length≤12∧(bestS H B f).uses.length≤12:=by
 unfold bestS
 cases hl:listS H B f 1 with
 | nil=>exact ⟨Nat.zero_le _,Nat.zero_le _⟩
 | cons x t=>exact listS_short x (by rw [hl];exact List.mem_cons_self ..)
theorem listS_many {H:Hou} {B:Hab} {f:Frm} {most:Int}:(listS H B f most).length≤64:=by
 unfold listS
 split
 ·rename_i h
  unfold listE at h
  split at h
  ·rename_i h1;exact absurd h h1
  split at h
  ·unfold splsOf
   rw [List.length_map,List.length_take]
   omega
  ·cases h
 ·simp
theorem spellListsL (H:Hou) (B:Hab) (a:Ask) (hf:HouFit H) (hB:HabFit B) (hc:a.form.clitics.length≤1048576):QCall Tryz.prog 3 [.agg (encHou H),.agg (encHab B),.agg (encAsk a)] [] (.bool true):=by
 have hfl:a.form.clitics.length≤LMAX:=by unfold LMAX;omega
 have hb:=bestS_short H B a.form
 have hsb:=samW (bestS H B a.form) (bestS H B a.form) (by unfold LMAX;omega) (by unfold LMAX;omega) (by unfold LMAX;omega) (by unfold LMAX;omega)
 refine fcalls (F:=Tryz.f3) c3 rfl rfl rfl mixed rfl fun X=>?_
 conv=>whnf
 repeat (refine QCall.k0 (heavyNil H) ?_;conv=>whnf)
 refine ⟨fun h0=>?_,fun h0=>?_⟩
 ·conv=>whnf
  repeat (refine QCall.k0 (spWorks) ?_;conv=>whnf)
  exact ⟨rfl,rfl⟩
 conv=>whnf
 repeat ((first|refine QCall.k0 (spListW H B a.form a.most hf hB hfl) ?_|refine QCall.k0 (r7List H B a.form a.most hf hB hfl) ?_);conv=>whnf)
 refine cF (by simp) ?_
 conv=>whnf
 skip
 have hm:=listS_many (H:=H) (B:=B) (f:=a.form) (most:=a.most)
 refine sloop rfl mixed [3,4,5,7,9,11] [] (fun m r h=>∃ (i:Nat),r=[(3,[],.iptr (encHou H)),(4,[],.iptr (encHab B)),(5,[],.iptr (encAsk a)),(7,[],.sl 3 none ((listS H B a.form a.most).map encSpl)),(9,[],.sl 3 none ((listS H B a.form a.most).map encSpl)),(11,[],.int .i64 i)]∧h=[]∧m=(listS H B a.form a.most).length - i∧i≤(listS H B a.form a.most).length) ?_ ?_
 ·conv=>whnf
  exact ⟨_,0,rfl,rfl,rfl,by omega⟩
 ·rintro m r h ⟨i,rfl,rfl,rfl,hi⟩
  conv=>whnf
  refine ⟨fun hz=>?_,fun hz=>?_⟩<;>simp at hz
  ·obtain ⟨x,hx⟩:=get_lt hz
   have hxs:=listS_short x (List.mem_of_getElem? hx)
   conv=>whnf
   repeat ((first|refine ix (by assumption) ?_|refine gcall (samW x x (by unfold LMAX;omega) (by unfold LMAX;omega) (by unfold LMAX;omega) (by unfold LMAX;omega)) ?_|refine And.intro (by show drawOK (opsAt Tryz.f3 _) _=true;decide +kernel) ?_);conv=>whnf)
   refine cF (by rw [sameB_self];rfl) ?_
   conv=>whnf
   repeat (refine ⟨gP_of ⟨by omega,by omega⟩,?_⟩;conv=>whnf)
   exact ⟨_,by omega,i+1,rfl,rfl,rfl,by omega⟩
  ·conv=>whnf
   repeat ((first|refine QCall.k0 (spBestW H B a.form hf hB hfl) ?_|refine QCall.k0 (r7Best H B a.form hf hB hfl) ?_|refine gcall (hsb) ?_|refine gcall (spWorks) ?_|refine ⟨_,_,Rem.here _,⟨Nat.le_of_ble_eq_true rfl,rfl⟩,?_⟩|intro (nb:Nat));conv=>whnf)
   exact ⟨congrArg AV.bool (by rw [sameB_self];simp),rfl⟩
end Go.Abs.Wall.Spl
