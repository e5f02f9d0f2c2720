/- What is proved: small laws for the walks of this seat, and contracts of its functions. No condition but those each theorem names. -/
import Derived.Test.YtbmcnieifibckaaGreatN28
import Derived.Test.YtbmcnieifibckaaGreatN23
import Derived.Test.YtbmcnieifibckaaGreatN8
import Derived.Test.YtbmcnieifibckaaGreatN24
set_option maxRecDepth 100000
set_option maxHeartbeats 2000000
set_option linter.unusedVariables false
set_option linter.unusedSimpArgs false
namespace Go.Abs.Wall.Spl
open Go Go.Abs Go.Proofs Go.Abs.Wall
def c63:Cfg:=⟨[0,1,2,3,4,5,6,7,8,9,10,11,31,51,79],[23,44],[],[],[(1,[0,1,2,3,4,5,6,7,8,9,10,11],[]),(9,[0,1,2,3,4,5,6,7,8,9,10,11,12,13,14,15,16,17,18,19,20],[])],[]⟩
theorem r7Cost (E:Env) (P:List (List UInt8)) (hE:EOK E) (k:Nat) (g:Int) (hg:E.B.signs[k]?=some g) (u:Use) (hu:1≤u.kind∧u.kind≤4) :
  QCall Tryz.prog 122 [.iptr (wkC E P),.int .i64 k,.agg (encUse u)] [] (.int .i64 (costM E u+g)):=by
 have hc:=costM_bound hE u
 have hgb:=hE.sgn g (List.mem_of_getElem? hg)
 have hix:[[AV.int .i64 0],[.int .i64 E.H.costs.spell],[.int .i64 E.H.costs.stand],[.int .i64 E.H.costs.rpt],[.int .i64 E.H.costs.cls]][u.kind.toNat]?=some [.int .i64 (costM E u)]:=by
  have h4:u.kind=1∨u.kind=2∨u.kind=3∨u.kind=4:=by omega
  unfold costM
  rcases h4 with h|h|h|h<;>rw [h]<;>rfl
 refine fcalls (F:=Tryz.f122) c122 rfl rfl rfl mixed rfl fun X=>?_
 conv=>whnf
 repeat ((first|refine ⟨gP_of ⟨by omega,by omega⟩,?_⟩|refine ix (by assumption) ?_|(refine ⟨u.kind.toNat,_,gP_of ⟨by omega,hix⟩,?_⟩)|refine ⟨_,_,Rem.here _,⟨Nat.le_of_ble_eq_true rfl,rfl⟩,?_⟩|refine And.intro (by show drawOK (opsAt Tryz.f122 _) _=true;decide +kernel) ?_|intro (nb:Nat));conv=>whnf)
 rw [Int.add_comm]
 exact ⟨rfl,rfl⟩
def parI (x:Lex) (f:Frm) (i:Nat):List (List UInt8):=stemM x f::(f.clitics.take i).map fun c=>(cliAt x c).text
def wkB (H:Hou) (B:Hab) (f:Frm) (pv uv:AV):List AV:=encHou H++(encHab B++(encEnt (entAt H.lex f.entry)++[pv,uv]))
theorem parI_zero (x:Lex) (f:Frm):parI x f 0=[stemM x f]:=by unfold parI;simp
theorem parI_succ {x:Lex} {f:Frm} {i:Nat} {c:Int} (hc:f.clitics[i]?=some c):parI x f (i+1)=parI x f i++[(cliAt x c).text]:=by
 unfold parI
 rw [take_snoc hc,List.map_append,← List.cons_append]
 rfl
theorem parI_all (x:Lex) (f:Frm):parI x f f.clitics.length=partsM x f:=by unfold parI;rw [List.take_length];rfl
theorem parI_len {x:Lex} {f:Frm} (hf:FrmOK x f) (i:Nat):(parI x f i).length≤4:=by
 have:=hf.few
 unfold parI
 rw [List.length_cons,List.length_map,List.length_take]
 omega
theorem r7Begin (H:Hou) (B:Hab) (f:Frm) (hh:HouFit H) (h0:houErr H=0) (hf:FrmOK H.lex f) :
  QCall Tryz.prog 63 [.agg (encHou H),.agg (encHab B),.agg (encFrm f)] [] (.iptr (wkC (envM H B f) (partsM H.lex f))):=by
 have hH:=houOK h0
 have hfew:=hf.few
 have hsl:=hf.stem
 have hrt:=sndOK_len (hf.lex.entAt hf.entry.1 hf.entry.2).root
 have key:ACalls Tryz.prog 63 [.agg (encHou H),.agg (encHab B),.agg (encFrm f)] []
   (fun v h'=>∃ wb pv ph uv uh,v=.optr wb 0∧Out 1 encPt (partsM H.lex f) pv ph∧Out 1 encUses (rowsM H) uv uh∧h'.Perm ((wb,.vec (wkB H B f pv uv))::(ph++uh))):=by
  refine fcalls (F:=Tryz.f63) c63 rfl rfl rfl mixed rfl fun X=>?_
  conv=>whnf
  repeat ((first|(refine ixn f.entry.toNat (by have:=hf.entry;omega) (entAt_get hf.entry.1 hf.entry.2) ?_)|(intro (wb:Nat))|refine ⟨_,_,.head _,rfl,?_⟩|refine And.intro (by show drawOK (opsAt Tryz.f63 _) _=true;decide +kernel) ?_);conv=>whnf)
  refine ⟨fun hz0=>?_,fun hz0=>?_⟩<;>simp at hz0
  ·have hen:f.ending<H.lex.endings.length:=by rcases hf.ending with h|h<;>omega
   have htx:=sndOK_len (hf.lex.ednAt hz0 hen).text
   have hst:stemM H.lex f=(entAt H.lex f.entry).root++(ednAt H.lex f.ending).text:=by unfold stemM;rw [if_pos hz0]
   conv=>whnf
   repeat ((first|(refine ixn f.ending.toNat (by omega) (ednAt_get hz0 hen) ?_)|(refine ⟨gP_of (by rw [List.length_append];unfold LMAX;omega),?_⟩)|refine ⟨_,_,.there (.here _),leOK,?_⟩|intro (nb:Nat));conv=>whnf)
   conv=>whnf
   skip
   refine tloop rfl mixed [3,5,7,9] [] (fun m r h=>∃ (i:Nat) (q wb:Nat),r=[(3,[],.iptr (encHou H)),(5,[],.iptr (encFrm f)),(7,[],.optr wb 0),(9,[],.int .i64 i)]∧h=(q,.tok)::[(wb,.vec (wkB H B f (.sl 1 (some q) ((parI H.lex f i).map encPt)) .nilS))]∧m=f.clitics.length - i∧i≤f.clitics.length) ?_ ?_
   ·conv=>whnf
    exact ⟨_,_,Turn.refl _ _,_,0,nb,wb,rfl,by rw [parI_zero,hst];rfl,rfl,by omega⟩
   ·rintro m r h' ⟨i,q,wb,rfl,rfl,rfl,hi⟩
    conv=>whnf
    refine ⟨fun hz=>?_,fun hz=>?_⟩<;>simp [ints_length] at hz
    ·obtain ⟨c,hc⟩:=get_lt hz
     have hcb:=hf.cli c (List.mem_of_getElem? hc)
     have hpl:=parI_len hf i
     conv=>whnf
     repeat ((first|refine ⟨gP_of ⟨by omega,by omega⟩,?_⟩|refine ix (by assumption) ?_|(refine ixn c.toNat (by omega) (cliAt_get hcb.1 hcb.2) ?_)|(refine ⟨(by rw [List.length_append,List.length_map,List.length_singleton];unfold AMAX;omega),fun q'=>⟨_,.here _,?_⟩⟩)|refine ⟨_,_,.tail _ (.head _),rfl,?_⟩|refine ⟨_,_,.there (.here _),leOK,?_⟩|refine And.intro (by show drawOK (opsAt Tryz.f63 _) _=true;decide +kernel) ?_);conv=>whnf)
     exact ⟨_,_,Turn.refl _ _,_,(by omega),i+1,q',wb,rfl,by rw [parI_succ hc,List.map_append];rfl,rfl,by omega⟩
    ·have hie:i=f.clitics.length:=by omega
     subst hie
     rw [parI_all]
     have hun:∀ (j:Nat),j<H.list.signs.length→QCall Tryz.prog 119 [.agg (encHou H),.int .i64 j] [] (.tup [.sl 2 none ((usesAt H j).map encUse),.int .i64 0]):=by
      intro j hj
      have hU:=refUsesX H j hh
      have he:usesE H j=0:=by
       unfold usesE
       rw [if_neg (by omega),if_neg]
       rw [Bool.not_eq_false,wthn_iff]
       omega
      unfold usesL at hU
      rw [if_pos he,he] at hU
      exact hU
     conv=>whnf
     skip
     refine tloop rfl mixed [3,7,10] [] (fun m r h=>∃ (i:Nat) (q wb:Nat) (uv:AV) (uh:Heap),r=[(3,[],.iptr (encHou H)),(7,[],.optr wb 0),(10,[],.int .i64 i)]∧h=(q,.tok)::(wb,.vec (wkB H B f (.sl 1 (some q) ((partsM H.lex f).map encPt)) uv))::uh∧m=H.list.signs.length - i∧i≤H.list.signs.length∧Out 1 encUses ((rowsM H).take i) uv uh) ?_ ?_
     ·conv=>whnf
      exact ⟨_,_,Turn.refl _ _,_,0,q,wb,.nilS,[],rfl,rfl,rfl,by omega,.inl ⟨by simp,rfl,rfl⟩⟩
     ·rintro m r h' ⟨i,q,wb,uv,uh,rfl,rfl,rfl,hi,ho⟩
      have hrl:=(lstOK hH.lst).many
      conv=>whnf
      refine ⟨fun hz=>?_,fun hz=>?_⟩<;>simp at hz
      ·have hu:=hun i hz
       have hts:=take_snoc (rowsM_at hz)
       have hml:(((rowsM H).take i).map encUses).length≤200:=by rw [List.length_map,List.length_take];omega
       rcases ho with ⟨hn,rfl,rfl⟩|⟨qu,rfl,rfl⟩
       ·conv=>whnf
        repeat ((first|refine ⟨gP_of ⟨by omega,by omega⟩,?_⟩|refine QCall.k0 (hu) ?_|(refine ⟨Nat.le_of_ble_eq_true rfl,fun q'=>?_⟩)|(refine ⟨_,_,.there (.there (.here _)),leOK,?_⟩)|refine ⟨_,_,.tail _ (.head _),rfl,?_⟩);conv=>whnf)
        exact ⟨_,_,Turn.perm (List.perm_middle (l₁:=[_,_])).symm,_,(by omega),i+1,q,wb,_,[(q',.tok)],rfl,rfl,rfl,by omega,.inr ⟨q',by rw [hts,hn];rfl,rfl⟩⟩
       ·conv=>whnf
        repeat ((first|refine ⟨gP_of ⟨by omega,by omega⟩,?_⟩|refine QCall.k0 (hu) ?_|(refine ⟨(by rw [List.length_append,List.length_singleton];unfold AMAX;omega),fun q'=>⟨_,.there (.there (.here _)),?_⟩⟩)|refine ⟨_,_,.tail _ (.head _),rfl,?_⟩|refine ⟨_,_,.there (.here _),leOK,?_⟩);conv=>whnf)
        exact ⟨_,_,Turn.refl _ _,_,(by omega),i+1,q,wb,_,[(q',.tok)],rfl,rfl,rfl,by omega,.inr ⟨q',by rw [hts,List.map_append];rfl,rfl⟩⟩
      ·have hie:i=H.list.signs.length:=by omega
       subst hie
       rw [List.take_of_length_le (by rw [rowsM_len];exact Nat.le_refl _)] at ho
       conv=>whnf
       skip
       refine ⟨wb,.sl 1 (some q) ((partsM H.lex f).map encPt),[(q,.tok)],uv,uh,rfl,.inr ⟨q,rfl,rfl⟩,ho,?_⟩
       exact List.Perm.swap _ _ _
  ·have hst:stemM H.lex f=(entAt H.lex f.entry).root:=by unfold stemM;rw [if_neg (by omega),List.append_nil]
   conv=>whnf
   repeat ((first|refine ⟨_,_,.there (.here _),leOK,?_⟩|intro (nb:Nat));conv=>whnf)
   conv=>whnf
   skip
   refine tloop rfl mixed [3,5,7,9] [] (fun m r h=>∃ (i:Nat) (q wb:Nat),r=[(3,[],.iptr (encHou H)),(5,[],.iptr (encFrm f)),(7,[],.optr wb 0),(9,[],.int .i64 i)]∧h=(q,.tok)::[(wb,.vec (wkB H B f (.sl 1 (some q) ((parI H.lex f i).map encPt)) .nilS))]∧m=f.clitics.length - i∧i≤f.clitics.length) ?_ ?_
   ·conv=>whnf
    exact ⟨_,_,Turn.refl _ _,_,0,nb,wb,rfl,by rw [parI_zero,hst];rfl,rfl,by omega⟩
   ·rintro m r h' ⟨i,q,wb,rfl,rfl,rfl,hi⟩
    conv=>whnf
    refine ⟨fun hz=>?_,fun hz=>?_⟩<;>simp [ints_length] at hz
    ·obtain ⟨c,hc⟩:=get_lt hz
     have hcb:=hf.cli c (List.mem_of_getElem? hc)
     have hpl:=parI_len hf i
     conv=>whnf
     repeat ((first|refine ⟨gP_of ⟨by omega,by omega⟩,?_⟩|refine ix (by assumption) ?_|(refine ixn c.toNat (by omega) (cliAt_get hcb.1 hcb.2) ?_)|(refine ⟨(by rw [List.length_append,List.length_map,List.length_singleton];unfold AMAX;omega),fun q'=>⟨_,.here _,?_⟩⟩)|refine ⟨_,_,.tail _ (.head _),rfl,?_⟩|refine ⟨_,_,.there (.here _),leOK,?_⟩|refine And.intro (by show drawOK (opsAt Tryz.f63 _) _=true;decide +kernel) ?_);conv=>whnf)
     exact ⟨_,_,Turn.refl _ _,_,(by omega),i+1,q',wb,rfl,by rw [parI_succ hc,List.map_append];rfl,rfl,by omega⟩
    ·have hie:i=f.clitics.length:=by omega
     subst hie
     rw [parI_all]
     have hun:∀ (j:Nat),j<H.list.signs.length→QCall Tryz.prog 119 [.agg (encHou H),.int .i64 j] [] (.tup [.sl 2 none ((usesAt H j).map encUse),.int .i64 0]):=by
      intro j hj
      have hU:=refUsesX H j hh
      have he:usesE H j=0:=by
       unfold usesE
       rw [if_neg (by omega),if_neg]
       rw [Bool.not_eq_false,wthn_iff]
       omega
      unfold usesL at hU
      rw [if_pos he,he] at hU
      exact hU
     conv=>whnf
     skip
     refine tloop rfl mixed [3,7,10] [] (fun m r h=>∃ (i:Nat) (q wb:Nat) (uv:AV) (uh:Heap),r=[(3,[],.iptr (encHou H)),(7,[],.optr wb 0),(10,[],.int .i64 i)]∧h=(q,.tok)::(wb,.vec (wkB H B f (.sl 1 (some q) ((partsM H.lex f).map encPt)) uv))::uh∧m=H.list.signs.length - i∧i≤H.list.signs.length∧Out 1 encUses ((rowsM H).take i) uv uh) ?_ ?_
     ·conv=>whnf
      exact ⟨_,_,Turn.refl _ _,_,0,q,wb,.nilS,[],rfl,rfl,rfl,by omega,.inl ⟨by simp,rfl,rfl⟩⟩
     ·rintro m r h' ⟨i,q,wb,uv,uh,rfl,rfl,rfl,hi,ho⟩
      have hrl:=(lstOK hH.lst).many
      conv=>whnf
      refine ⟨fun hz=>?_,fun hz=>?_⟩<;>simp at hz
      ·have hu:=hun i hz
       have hts:=take_snoc (rowsM_at hz)
       have hml:(((rowsM H).take i).map encUses).length≤200:=by rw [List.length_map,List.length_take];omega
       rcases ho with ⟨hn,rfl,rfl⟩|⟨qu,rfl,rfl⟩
       ·conv=>whnf
        repeat ((first|refine ⟨gP_of ⟨by omega,by omega⟩,?_⟩|refine QCall.k0 (hu) ?_|(refine ⟨Nat.le_of_ble_eq_true rfl,fun q'=>?_⟩)|(refine ⟨_,_,.there (.there (.here _)),leOK,?_⟩)|refine ⟨_,_,.tail _ (.head _),rfl,?_⟩);conv=>whnf)
        exact ⟨_,_,Turn.perm (List.perm_middle (l₁:=[_,_])).symm,_,(by omega),i+1,q,wb,_,[(q',.tok)],rfl,rfl,rfl,by omega,.inr ⟨q',by rw [hts,hn];rfl,rfl⟩⟩
       ·conv=>whnf
        repeat ((first|refine ⟨gP_of ⟨by omega,by omega⟩,?_⟩|refine QCall.k0 (hu) ?_|(refine ⟨(by rw [List.length_append,List.length_singleton];unfold AMAX;omega),fun q'=>⟨_,.there (.there (.here _)),?_⟩⟩)|refine ⟨_,_,.tail _ (.head _),rfl,?_⟩|refine ⟨_,_,.there (.here _),leOK,?_⟩);conv=>whnf)
        exact ⟨_,_,Turn.refl _ _,_,(by omega),i+1,q,wb,_,[(q',.tok)],rfl,rfl,rfl,by omega,.inr ⟨q',by rw [hts,List.map_append];rfl,rfl⟩⟩
      ·have hie:i=H.list.signs.length:=by omega
       subst hie
       rw [List.take_of_length_le (by rw [rowsM_len];exact Nat.le_refl _)] at ho
       conv=>whnf
       skip
       refine ⟨wb,.sl 1 (some q) ((partsM H.lex f).map encPt),[(q,.tok)],uv,uh,rfl,.inr ⟨q,rfl,rfl⟩,ho,?_⟩
       exact List.Perm.swap _ _ _
 have key2:ACalls Tryz.prog 63 [.agg (encHou H),.agg (encHab B),.agg (encFrm f)] []
   (fun v h'=>∃ wb pv ph uv uh,v=.optr wb 0∧Out 1 encPt (partsM H.lex f) pv ph∧Out 1 encUses (rowsM H) uv uh∧h'=(wb,.vec (wkB H B f pv uv))::(ph++uh)):=by
  refine ACalls.post key ?_
  rintro v h1 ⟨wb,pv,ph,uv,uh,rfl,ho1,ho2,hp⟩
  exact ⟨_,_,⟨wb,pv,ph,uv,uh,rfl,ho1,ho2,rfl⟩,VLe.refl _,fun k o hm=>hp.mem_iff.2 hm,fun hn=>by unfold keys at hn ⊢;exact ((hp.map _).nodup_iff).1 hn⟩
 refine QCall.of (ACalls.frz key2 ?_)
 rintro v h1 ⟨wb,pv,ph,uv,uh,rfl,ho1,ho2,rfl⟩
 refine ⟨wb,_,_,_,_,.here _,FzH.refl _,.ptr rfl,?_⟩
 refine VLe.iptr ?_
 exact VsLe_app (VsLe.refl _) (VsLe_app (VsLe.refl _) (VsLe_app (VsLe.refl _) (.cons (ho1.le (by decide)) (.cons (ho2.le (by decide)) .nil))))
end Go.Abs.Wall.Spl
namespace Go.Abs.Wall.Spl
open Go Go.Abs Go.Proofs Go.Abs.Wall
def encRSs (l:List RS):List AV:=[.sl 4 none (l.map encRS)]
def encSps (l:List Stp):List AV:=[.sl 5 none (l.map encStp)]
def encSpr (l:List (List Stp)):List AV:=[.sl 1 none (l.map encSps)]
structure StepRel (P:List (List UInt8)) (n:Int) (N:List RS) (t:Stp) (m:Mv):Prop where
 two:twoT t=twoM m
 cost:t.cost=m.cost
 to:∃ r,N[t.to]?=some r∧toS P (n+1) r=m.to
def StepsOK (P:List (List UInt8)) (n:Int) (N:List RS):List Stp→List Mv→Prop
 | [],[]=>True
 | t::l,m::ms=>StepRel P n N t m∧StepsOK P n N l ms
 | _,_=>False
theorem StepRel.more {P:List (List UInt8)} {n:Int} {N:List RS} {t:Stp} {m:Mv} (X:List RS) (h:StepRel P n N t m):StepRel P n (N++X) t m:=by
 obtain ⟨r,h1,h2⟩:=h.to
 refine ⟨h.two,h.cost,r,?_,h2⟩
 rw [List.getElem?_append_left (List.getElem?_eq_some_iff.1 h1).1]
 exact h1
theorem StepsOK.more {P:List (List UInt8)} {n:Int} {N:List RS} (X:List RS):∀ {l:List Stp} {ms:List Mv},StepsOK P n N l ms→StepsOK P n (N++X) l ms
 | [],[],_=>trivial
 | [],_::_,h=>False.elim h
 | _::_,[],h=>False.elim h
 | t::l,m::ms,h=>⟨h.1.more X,StepsOK.more X h.2⟩
theorem StepsOK.snoc {P:List (List UInt8)} {n:Int} {N:List RS} {t:Stp} {m:Mv} (ht:StepRel P n N t m):∀ {l:List Stp} {ms:List Mv},StepsOK P n N l ms→StepsOK P n N (l++[t]) (ms++[m])
 | [],[],_=>⟨ht,trivial⟩
 | [],_::_,h=>False.elim h
 | _::_,[],h=>False.elim h
 | s::l,o::ms,h=>⟨h.1,StepsOK.snoc ht h.2⟩
theorem StepsOK.len {P:List (List UInt8)} {n:Int} {N:List RS}:∀ {l:List Stp} {ms:List Mv},StepsOK P n N l ms→l.length=ms.length
 | [],[],_=>rfl
 | [],_::_,h=>False.elim h
 | _::_,[],h=>False.elim h
 | s::l,o::ms,h=>by rw [List.length_cons,List.length_cons,StepsOK.len h.2]
theorem StepsOK.get {P:List (List UInt8)} {n:Int} {N:List RS}:∀ {l:List Stp} {ms:List Mv} {i:Nat} {t:Stp} {m:Mv},StepsOK P n N l ms→l[i]?=some t→ms[i]?=some m→StepRel P n N t m
 | [],_,i,t,m,_,h,_=>by simp at h
 | _::_,[],i,t,m,h,_,_=>False.elim h
 | s::l,o::ms,0,t,m,h,h1,h2=>by
   simp at h1 h2
   subst h1 h2
   exact h.1
 | s::l,o::ms,i+1,t,m,h,h1,h2=>StepsOK.get h.2 (by simpa using h1) (by simpa using h2)
structure LevOK (E:Env) (P:List (List UInt8)) (n:Int) (l:List RS):Prop where
 can:∀ s∈l,Can P s
 last:∀ s∈l,0≤s.last∧s.last≤8
 zero:n=0→∀ s∈l,s.part=0
 nodup:l.Nodup
def rs0:RS:=⟨0,0,0,false⟩
theorem few_nat:∀ (N:Nat) (l:List Nat),l.Nodup→(∀ x∈l,x<N)→l.length≤N
 | 0,l,_,h=>by
   cases l with
   | nil=>exact Nat.le_refl _
   | cons a t=>have:=h a (by simp);omega
 | N+1,l,hn,h=>by
   by_cases hm:N∈l
   ·have h1:=few_nat N (l.erase N) (hn.erase N) fun x hx=>by
     have h2:=h x (List.mem_of_mem_erase hx)
     have h3:x≠N:=fun e=>by rw [e] at hx;exact (List.Nodup.not_mem_erase hn) hx
     omega
    rw [List.length_erase_of_mem hm] at h1
    omega
   ·have:=few_nat N l hn fun x hx=>by
     have h2:=h x hx
     have h3:x≠N:=fun e=>hm (by rw [← e];exact hx)
     omega
    omega
theorem toS_ok {E:Env} {P:List (List UInt8)} (hP:EnvP E P) {n:Int} (hn:0≤n∧n≤12) {s:RS} (hc:Can P s) (hl:0≤s.last∧s.last≤8):StOK E (toS P n s):=by
 have h1:=hc.part
 have h2:=hc.done
 have h3:=offP_succ h1.1 h1.2
 have h4:=offP_mono (P:=P) (p:=s.part+1) (q:=P.length) (by omega) (by omega)
 rw [offP_all] at h4
 have h5:0≤offP P s.part:=by unfold offP;omega
 refine ⟨hn,⟨?_,?_⟩,hl⟩
 ·show 0≤offP P s.part+s.done
  omega
 ·show offP P s.part+s.done≤E.snd.length
  rw [hP.snd]
  omega
def codeR (P:List (List UInt8)) (s:RS):Nat:=((offP P s.part+s.done).toNat*9+s.last.toNat)*2+(if s.cls=true then 1 else 0)
theorem LevOK.few {E:Env} {P:List (List UInt8)} (hE:EOK E) (hP:EnvP E P) {n:Int} (hn:0≤n∧n≤12) {l:List RS} (h:LevOK E P n l):l.length≤20000:=by
 have hs:=hE.snd
 rw [show l.length=(l.map (codeR P)).length from (List.length_map _).symm]
 refine few_nat 20000 _ ?_ ?_
 ·have h1:=h.nodup
  have key:∀ (l:List RS),(∀ s∈l,Can P s)→(∀ s∈l,0≤s.last∧s.last≤8)→l.Nodup→(l.map (codeR P)).Nodup:=by
   intro l hc hl hn
   induction l with
   | nil=>exact .nil
   | cons a t ih=>
     rw [List.nodup_cons] at hn
     rw [List.map_cons,List.nodup_cons]
     refine ⟨fun hm=>?_,ih (fun s hs=>hc s (by simp [hs])) (fun s hs=>hl s (by simp [hs])) hn.2⟩
     obtain ⟨b,hb,he⟩:=List.mem_map.1 hm
     have ca:=hc a (by simp)
     have cb:=hc b (by simp [hb])
     have la:=hl a (by simp)
     have lb:=hl b (by simp [hb])
     have oa:=(toS_ok hP (n:=0) (by omega) ca la).at_
     have ob:=(toS_ok hP (n:=0) (by omega) cb lb).at_
     have oa1:0≤offP P a.part+a.done:=oa.1
     have ob1:0≤offP P b.part+b.done:=ob.1
     have:a=b:=by
      refine toS_inj (n:=0) ca cb ?_
      unfold codeR at he
      have bit:∀ c:Bool,(if c=true then 1 else 0)=c.toNat:=fun c=>by cases c<;>rfl
      rw [bit,bit] at he
      have hx:=Bool.toNat_le a.cls
      have hy:=Bool.toNat_le b.cls
      have hcn:a.cls.toNat=b.cls.toNat:=by
       generalize (offP P a.part+a.done).toNat*9+a.last.toNat=u at he
       generalize (offP P b.part+b.done).toNat*9+b.last.toNat=v at he
       omega
      have hcl:a.cls=b.cls:=by
       clear he
       cases h1:a.cls<;>cases h2:b.cls<;>rw [h1,h2] at hcn<;>first|rfl|cases hcn
      rw [hcl] at he
      unfold toS
      have e1:a.last=b.last:=by omega
      have e2:offP P a.part+a.done=offP P b.part+b.done:=by omega
      rw [e1,e2,hcl]
     rw [this] at hn
     exact hn.1 hb
  exact key l h.can h.last h1
 ·intro x hx
  obtain ⟨s,hs2,rfl⟩:=List.mem_map.1 hx
  have:=(toS_ok hP (n:=0) (by omega) (h.can s hs2) (h.last s hs2)).at_
  have h2:offP P s.part+s.done≤E.snd.length:=this.2
  have h3:=h.last s hs2
  unfold codeR
  split<;>omega
structure LvlsOK (E:Env) (P:List (List UInt8)) (k:Nat) (S:List (List RS)) (T:List (List (List Stp))):Prop where
 ls:S.length=k+1
 lt:T.length=k
 first:S[0]?=some [rs0]
 lev:∀ (n:Nat) l,S[n]?=some l→LevOK E P n l
 step:∀ (n:Nat) l l' rows,S[n]?=some l→S[n+1]?=some l'→T[n]?=some rows→rows.length=l.length∧∀ (i:Nat) s row,l[i]?=some s→rows[i]?=some row→StepsOK P n l' row (movesM E (toS P n s))
def FromOK (E:Env) (P:List (List UInt8)) (n:Nat) (l N:List RS) (F:List (List Stp)):Prop:=∀ (j:Nat) s row,l[j]?=some s→F[j]?=some row→StepsOK P n N row (movesM E (toS P n s))
theorem FromOK.more {E:Env} {P:List (List UInt8)} {n:Nat} {l N:List RS} {F:List (List Stp)} (X:List RS) (h:FromOK E P n l N F):FromOK E P n l (N++X) F:=fun j s row h1 h2=>(h j s row h1 h2).more X
theorem FromOK.snoc {E:Env} {P:List (List UInt8)} {n:Nat} {l N:List RS} {F:List (List Stp)} (h:FromOK E P n l N F) {s:RS} (hs:l[F.length]?=some s) {row:List Stp} (hr:StepsOK P n N row (movesM E (toS P n s))):FromOK E P n l N (F++[row]):=by
 intro j s2 row2 h1 h2
 by_cases hj:j<F.length
 ·rw [List.getElem?_append_left hj] at h2
  exact h j s2 row2 h1 h2
 ·by_cases e:j=F.length
  ·subst e
   rw [List.getElem?_append_right (Nat.le_refl _),Nat.sub_self] at h2
   cases h2
   rw [hs] at h1
   cases h1
   exact hr
  ·rw [List.getElem?_eq_none (by rw [List.length_append,List.length_singleton];omega)] at h2
   cases h2
theorem LvlsOK.snoc {E:Env} {P:List (List UInt8)} {k:Nat} {S:List (List RS)} {T:List (List (List Stp))} (h:LvlsOK E P k S T) {l N:List RS} {F:List (List Stp)} (hl:S[k]?=some l) (hN:LevOK E P ((k+1:Nat):Int) N) (hF:FromOK E P k l N F) (hFl:F.length=l.length):LvlsOK E P (k+1) (S++[N]) (T++[F]):=by
 refine ⟨by rw [List.length_append,h.ls];rfl,by rw [List.length_append,h.lt];rfl,?_,?_,?_⟩
 ·rw [List.getElem?_append_left (by rw [h.ls];omega)]
  exact h.first
 ·intro n l2 h2
  by_cases hn:n<S.length
  ·rw [List.getElem?_append_left hn] at h2
   exact h.lev n l2 h2
  ·by_cases e:n=S.length
   ·subst e
    rw [List.getElem?_append_right (Nat.le_refl _),Nat.sub_self] at h2
    cases h2
    rw [h.ls]
    exact hN
   ·rw [List.getElem?_eq_none (by rw [List.length_append,List.length_singleton];omega)] at h2
    cases h2
 ·intro n l2 l3 rows h2 h3 h4
  by_cases hn:n<T.length
  ·have:=h.ls
   have:=h.lt
   rw [List.getElem?_append_left (by omega)] at h2 h3 h4
   exact h.step n l2 l3 rows h2 h3 h4
  ·by_cases e:n=T.length
   ·have e1:=h.lt
    have e2:=h.ls
    rw [e,List.getElem?_append_right (Nat.le_refl _),Nat.sub_self] at h4
    cases h4
    have e3:n=k:=by omega
    subst e3
    rw [List.getElem?_append_right (by omega),show n+1 - S.length=0 by omega] at h3
    cases h3
    rw [List.getElem?_append_left (by omega),hl] at h2
    cases h2
    exact ⟨hFl,hF⟩
   ·rw [List.getElem?_eq_none (by rw [List.length_append,List.length_singleton];omega)] at h4
    cases h4
theorem mvUses_neg {E:Env} {x:Sta} {s:Nat} (h:E.B.signs.getD s 0<0):∀ us:List Use,mvUses E x s us=[]
 | []=>rfl
 | u::t=>by
   rw [mvUses,mvUses_neg h t,List.append_nil]
   unfold mvOne
   rw [if_neg]
   rw [Bool.and_eq_true,decide_eq_true_eq]
   omega
theorem idxOf_mem {l:List RS} {s:RS} (h:l.idxOf s≠l.length):l[l.idxOf s]?=some s:=by
 have h1:l.idxOf s<l.length:=by have:=List.idxOf_le_length (a:=s) (l:=l);omega
 rw [List.getElem?_eq_getElem h1,List.getElem_idxOf h1]
theorem idxOf_not {l:List RS} {s:RS} (h:l.idxOf s=l.length):s ∉ l:=by
 intro hm
 have:=List.idxOf_lt_length_of_mem hm
 omega
end Go.Abs.Wall.Spl
namespace Go.Abs.Wall.Spl
open Go Go.Abs Go.Proofs Go.Abs.Wall
theorem lvls_zero (E:Env) (P:List (List UInt8)) (hP:EnvP E P):LvlsOK E P 0 [[rs0]] []:=by
 refine ⟨rfl,rfl,rfl,fun n l h=>?_,fun n l l' rows h1 h2 h3=>(by cases h3)⟩
 cases n with
 | zero=>
   simp at h
   subst h
   have hl:=hP.len
   refine ⟨fun s hs=>?_,fun s hs=>?_,fun _ s hs=>?_,by simp⟩
   ·rw [List.mem_singleton.1 hs]
    exact ⟨⟨by decide,by show (0:Int)<_;omega⟩,⟨by decide,by show (0:Int)≤_;omega⟩,fun h=>by cases h⟩
   ·rw [List.mem_singleton.1 hs]
    exact ⟨by decide,by decide⟩
   ·rw [List.mem_singleton.1 hs]
    rfl
 | succ n=>simp at h
def c64:Cfg:=⟨[0,2,3,4,5,6,7,8,9,10,11,12,13,14,15,16,21,30,39,62,91,98],[19],[13,14],[],[(19,[0,1,2,3,4,5,6,7,8,9,10,11,12,13,14,15,16,17],[14]),(24,[0,1,2,3,4,5,6,7,8,9,10,11],[])],[]⟩
set_option maxHeartbeats 4000000 in
theorem levelsW (E:Env) (P:List (List UInt8)) (hE:EOK E) (hP:EnvP E P) (hPl:P.length≤1000) (hkd:∀ us∈E.uses,∀ u∈us,1≤u.kind∧u.kind≤4) :
  ACalls Tryz.prog 64 [.iptr (wkC E P)] [] (fun v h'=>∃ S T,LvlsOK E P 12 S T∧v=.tup [.sl 1 none (S.map encRSs),.sl 1 none (T.map encSpr)]∧h'=[]):=by
 have hPf:P.flatten.length≤1000:=by rw [← hP.snd];exact hE.snd
 have hrw:=hE.rows
 refine ACalls.post (R:=fun v h'=>∃ S T,LvlsOK E P 12 S T∧VLe v (.tup [.sl 1 none (S.map encRSs),.sl 1 none (T.map encSpr)])) ?_ ?_
 ·refine fcalls (F:=Tryz.f64) c64 rfl rfl rfl mixed rfl fun X=>?_
  conv=>whnf
  repeat ((intro (q0:Nat));conv=>whnf)
  refine tloop rfl mixed [0,4,5,6] [(5,1)] (fun m r h=>∃ (n:Nat) (S:List (List RS)) (T:List (List (List Stp))) (q4 q5:Nat),r=[(0,[],.iptr (wkC E P)),(4,[],.sl 1 (some q4) (S.map encRSs)),(5,[],.sl 1 (some q5) (T.map encSpr)),(6,[],.int .i64 n)]∧h=(q5,.tok)::(q4,.tok)::[]∧m=13 - n∧n≤12∧LvlsOK E P n S T) ?_ ?_
  ·conv=>whnf
   refine ⟨by decide,fun q5=>?_⟩
   conv=>whnf
   exact ⟨_,_,Turn.refl _ _,_,0,[[rs0]],[],q0,q5,rfl,rfl,rfl,by omega,lvls_zero E P hP⟩
  ·rintro m r h' ⟨n,S,T,q4,q5,rfl,rfl,rfl,hn,hL⟩
   have hSl:=hL.ls
   have hTl:=hL.lt
   conv=>whnf
   refine ⟨fun hz=>?_,fun hz=>?_⟩<;>simp at hz
   ·obtain ⟨l,hl⟩:=get_lt (l:=S) (i:=n) (by omega)
    have hlev:=hL.lev n l hl
    have hfew:=hlev.few hE hP (by omega)
    conv=>whnf
    skip
    refine tloop rfl mixed [0,4,5,6,7,8,9] [(7,4),(8,1)] (fun m r h=>∃ (i:Nat) (N:List RS) (F:List (List Stp)) (q7 q8:Nat),r=[(0,[],.iptr (wkC E P)),(4,[],.sl 1 (some q4) (S.map encRSs)),(5,[],.sl 1 (some q5) (T.map encSpr)),(6,[],.int .i64 n),(7,[],.sl 4 (some q7) (N.map encRS)),(8,[],.sl 1 (some q8) (F.map encSps)),(9,[],.int .i64 i)]∧h=(q8,.tok)::(q7,.tok)::(q5,.tok)::(q4,.tok)::[]∧m=l.length - i∧i≤l.length∧F.length=i∧LevOK E P ((n+1:Nat):Int) N∧FromOK E P n l N F) ?_ ?_
    ·conv=>whnf
     refine ⟨by decide,fun q7=>?_⟩
     conv=>whnf
     refine ⟨by decide,fun q8=>?_⟩
     conv=>whnf
     exact ⟨_,_,Turn.refl _ _,_,0,[],[],q7,q8,rfl,rfl,rfl,by omega,rfl,⟨fun s h=>(by cases h),fun s h=>(by cases h),fun _ s h=>(by cases h),.nil⟩,fun j s row h1 h2=>(by cases h2)⟩
    ·rintro m r h' ⟨i,N,F,q7,q8,rfl,rfl,rfl,hi,hFl,hNl,hFr⟩
     have hNfew:=hNl.few hE hP (by omega)
     conv=>whnf
     repeat (refine ix (by assumption) ?_;conv=>whnf)
     refine ⟨fun hz1=>?_,fun hz1=>?_⟩<;>simp at hz1
     ·obtain ⟨s,hs⟩:=get_lt hz1
      have hsm:=List.mem_of_getElem? hs
      have hcan:=hlev.can s hsm
      have hlast:=hlev.last s hsm
      have hx:=toS_ok hP (n:=n) (by omega) hcan hlast
      obtain ⟨x,hxe⟩:∃ x,x=toS P n s:=⟨_,rfl⟩
      rw [← hxe] at hx
      have hxn:x.n=n:=by rw [hxe];rfl
      have hmv:movesM E x=mvRows E x 0 E.uses:=by unfold movesM;rw [if_neg (by omega)]
      conv=>whnf
      skip
      refine tloop rfl mixed [0,4,5,6,7,8,9,10,11] [(10,5)] (fun m r h=>∃ (g:Nat) (N:List RS) (q7:Nat) (L:List Stp) (acc:List Mv) (q10:Nat),r=[(0,[],.iptr (wkC E P)),(4,[],.sl 1 (some q4) (S.map encRSs)),(5,[],.sl 1 (some q5) (T.map encSpr)),(6,[],.int .i64 n),(7,[],.sl 4 (some q7) (N.map encRS)),(8,[],.sl 1 (some q8) (F.map encSps)),(9,[],.int .i64 i),(10,[],.sl 5 (some q10) (L.map encStp)),(11,[],.int .i64 g)]∧h=(q10,.tok)::(q8,.tok)::(q7,.tok)::(q5,.tok)::(q4,.tok)::[]∧m=E.uses.length - g∧g≤E.uses.length∧LevOK E P ((n+1:Nat):Int) N∧FromOK E P n l N F∧StepsOK P n N L acc∧acc.length≤200*g∧movesM E x=acc++mvRows E x g (E.uses.drop g)) ?_ ?_
      ·conv=>whnf
       refine ⟨by decide,fun q10=>?_⟩
       conv=>whnf
       exact ⟨_,_,Turn.refl _ _,_,0,N,q7,[],[],q10,rfl,rfl,rfl,by omega,hNl,hFr,trivial,by simp,hmv⟩
      ·clear hNl hFr hNfew
       rintro m r h' ⟨g,N,q7,L,acc,q10,rfl,rfl,rfl,hg,hNl,hFr,hSt,hal,hac⟩
       conv=>whnf
       refine ⟨fun hz2=>?_,fun hz2=>?_⟩<;>simp [encRows] at hz2
       ·obtain ⟨us,hus⟩:=get_lt (l:=E.uses) (i:=g) (by omega)
        have husm:=List.mem_of_getElem? hus
        have hul:=hE.row us husm
        have hhab:=hE.hab
        obtain ⟨sg,hsg⟩:=get_lt (l:=E.B.signs) (i:=g) (by omega)
        have hgd:E.B.signs.getD g 0=sg:=getD_of hsg
        rw [drop_cons hus,mvRows] at hac
        conv=>whnf
        skip
        refine tloop rfl mixed [0,4,5,6,7,8,9,10,11,12] [] (fun m r h=>∃ (k:Nat) (N:List RS) (q7:Nat) (L:List Stp) (acc:List Mv) (q10:Nat),r=[(0,[],.iptr (wkC E P)),(4,[],.sl 1 (some q4) (S.map encRSs)),(5,[],.sl 1 (some q5) (T.map encSpr)),(6,[],.int .i64 n),(7,[],.sl 4 (some q7) (N.map encRS)),(8,[],.sl 1 (some q8) (F.map encSps)),(9,[],.int .i64 i),(10,[],.sl 5 (some q10) (L.map encStp)),(11,[],.int .i64 g),(12,[],.int .i64 k)]∧h=(q10,.tok)::(q8,.tok)::(q7,.tok)::(q5,.tok)::(q4,.tok)::[]∧m=us.length - k∧k≤us.length∧LevOK E P ((n+1:Nat):Int) N∧FromOK E P n l N F∧StepsOK P n N L acc∧acc.length≤200*g+k∧movesM E x=acc++(mvUses E x g (us.drop k)++mvRows E x (g+1) (E.uses.drop (g+1)))) ?_ ?_
        ·conv=>whnf
         exact ⟨_,_,Turn.refl _ _,_,0,N,q7,L,acc,q10,rfl,rfl,rfl,by omega,hNl,hFr,hSt,by omega,hac⟩
        ·clear hNl hFr hSt hal hac
         rintro m r h' ⟨k,N,q7,L,acc,q10,rfl,rfl,rfl,hk,hNl,hFr,hSt,hal,hac⟩
         have hNfew:=hNl.few hE hP (by omega)
         have hLl:=hSt.len
         conv=>whnf
         repeat (refine ix (by assumption) ?_;conv=>whnf)
         refine ⟨fun hq=>?_,fun hq=>?_⟩
         ·have hq:(decide ((k:Int)<((us.map encUse).length:Int))&&decide (0≤sg))=true:=hq
          rw [List.length_map] at hq
          simp only [Bool.and_eq_true,decide_eq_true_eq] at hq
          obtain ⟨u,hu⟩:=get_lt (l:=us) (i:=k) (by omega)
          have hum:=List.mem_of_getElem? hu
          have hut:=hE.text us husm u hum
          have huk:=hkd us husm u hum
          have hut0:=hP.text us husm u hum
          have hfo:=r7Follow E P hPl hPf s hcan u hut (decide ((n:Int)=0)) hlast
          obtain ⟨f1,f2⟩:=follow_next hP (n:=n) hcan (fun hz0=>hlev.zero hz0 s hsm) hut0
          rw [← hxe] at f1 f2
          rw [drop_cons hu,mvUses,mvOne,hgd,← List.append_assoc,← List.append_assoc] at hac
          obtain ⟨t,ht⟩:∃ t,t=(followM E P s u (decide ((n:Int)=0))).1:=⟨_,rfl⟩
          obtain ⟨is,his⟩:∃ b,b=(followM E P s u (decide ((n:Int)=0))).2:=⟨_,rfl⟩
          rw [← ht] at f2 hfo
          rw [← his] at f1 hfo
          rw [← f1] at hac f2
          have hco:=r7Cost E P hE g sg hsg u huk
          conv=>whnf
          repeat ((first|refine ix (by assumption) ?_|refine gcall (hfo) ?_|refine ⟨_,_,Rem.here _,⟨Nat.le_of_ble_eq_true rfl,rfl⟩,?_⟩|refine ⟨_,_,Rem.here _,?_⟩|refine ⟨_,_,.here _,leOK,?_⟩|refine And.intro (by show drawOK (opsAt Tryz.f64 _) _=true;decide +kernel) ?_|intro (nb:Nat));conv=>whnf)
          refine ⟨fun hi0=>?_,fun hi0=>?_⟩
          ·have hi0:(!is)=true:=hi0
           rw [Bool.not_eq_true'] at hi0
           rw [if_neg (by rw [hi0];simp),List.append_nil,List.append_assoc] at hac
           conv=>whnf
           repeat (refine ⟨gP_of ⟨by omega,by omega⟩,?_⟩;conv=>whnf)
           exact ⟨_,_,Turn.refl _ _,_,(by omega),k+1,N,q7,L,acc,q10,rfl,rfl,rfl,by omega,hNl,hFr,hSt,by omega,hac⟩
          ·have hi0:(!is)=false:=hi0
           rw [Bool.not_eq_false'] at hi0
           rw [if_pos (by rw [hi0,decide_eq_true hq.2];rfl)] at hac
           obtain ⟨g1,g2⟩:=f2 hi0
           have htl:0≤t.last∧t.last≤8:=by
            have h1:=(nextM_ok hE hx hut (by omega) (by rw [← f1];exact hi0)).1.hv
            rw [← g1] at h1
            exact h1
           have hidx:QCall Tryz.prog 121 [.sl 4 (some q7) (N.map encRS),.agg (encRS t)] [] (.int .i64 (N.idxOf t)):=QCall.args (r7Index N t (by omega)) (.cons VLe.sl (.cons (VLe.refl _) .nil))
           conv=>whnf
           repeat (refine QCall.k0 (hidx) ?_;conv=>whnf)
           have hel:((N.map encRS).length:Int)=N.length:=by rw [List.length_map]
           have hlL:(L.map encStp).length≤200000:=by rw [List.length_map,hLl];omega
           have hlN:(N.map encRS).length≤20000:=by rw [List.length_map];exact hNfew
           refine ⟨fun he=>?_,fun he=>?_⟩
           ·have he:N.idxOf t=N.length:=by
             have he:=of_decide_eq_true he
             rw [hel] at he
             omega
            have hnt:=idxOf_not he
            have hNl2:LevOK E P ((n+1:Nat):Int) (N++[t]):=by
             refine ⟨fun s2 h2=>?_,fun s2 h2=>?_,fun hz0=>(by omega),?_⟩
             ·rcases List.mem_append.1 h2 with h2|h2
              ·exact hNl.can s2 h2
              ·rw [List.mem_singleton.1 h2];exact g2
             ·rcases List.mem_append.1 h2 with h2|h2
              ·exact hNl.last s2 h2
              ·rw [List.mem_singleton.1 h2];exact htl
             ·rw [List.nodup_append]
              refine ⟨hNl.nodup,by simp,fun a ha b hb=>?_⟩
              rw [List.mem_singleton.1 hb]
              intro e
              rw [e] at ha
              exact hnt ha
            have hst:StepRel P n (N++[t]) ⟨g,costM E u+sg,N.idxOf t,u⟩ ⟨g,costM E u+sg,u,(nextM E x u).1⟩:=⟨rfl,rfl,t,by rw [he,List.getElem?_append_right (Nat.le_refl _),Nat.sub_self];rfl,g1⟩
            conv=>whnf
            repeat ((first|refine ⟨gP_of ⟨by omega,by omega⟩,?_⟩|(refine ⟨(by rw [List.length_append,List.length_singleton];unfold AMAX;omega),fun q'=>⟨_,.there (.there (.here _)),?_⟩⟩)|refine gcall (hco) ?_|(refine ⟨(by rw [List.length_append,List.length_singleton];unfold AMAX;omega),fun q'=>⟨_,.here _,?_⟩⟩)|refine And.intro (by show drawOK (opsAt Tryz.f64 _) _=true;decide +kernel) ?_);conv=>whnf)
            rename_i qa
            exact ⟨_,_,Turn.refl _ _,_,(by omega),k+1,N++[t],qa,L++[⟨g,costM E u+sg,N.idxOf t,u⟩],_,q',by rw [List.map_append,List.map_append];rfl,rfl,rfl,by omega,hNl2,hFr.more [t],(hSt.more [t]).snoc hst,by rw [List.length_append,List.length_singleton];omega,by rw [List.append_assoc] at hac;exact hac⟩
           ·have he:N.idxOf t≠N.length:=by
             have he:=of_decide_eq_false he
             rw [hel] at he
             omega
            have hst:StepRel P n N ⟨g,costM E u+sg,N.idxOf t,u⟩ ⟨g,costM E u+sg,u,(nextM E x u).1⟩:=⟨rfl,rfl,t,idxOf_mem he,g1⟩
            conv=>whnf
            repeat ((first|refine ⟨gP_of ⟨by omega,by omega⟩,?_⟩|refine gcall (hco) ?_|(refine ⟨(by rw [List.length_append,List.length_singleton];unfold AMAX;omega),fun q'=>⟨_,.here _,?_⟩⟩)|refine And.intro (by show drawOK (opsAt Tryz.f64 _) _=true;decide +kernel) ?_);conv=>whnf)
            exact ⟨_,_,Turn.refl _ _,_,(by omega),k+1,N,q7,L++[⟨g,costM E u+sg,N.idxOf t,u⟩],_,q',by rw [List.map_append];rfl,rfl,rfl,by omega,hNl,hFr,hSt.snoc hst,by rw [List.length_append,List.length_singleton];omega,by rw [List.append_assoc] at hac;exact hac⟩
         ·have hq:(decide ((k:Int)<((us.map encUse).length:Int))&&decide (0≤sg))=false:=hq
          have hmz:mvUses E x g (us.drop k)=[]:=by
           rw [List.length_map,Bool.and_eq_false_iff,decide_eq_false_iff_not,decide_eq_false_iff_not] at hq
           rcases hq with hq|hq
           ·rw [drop_nil (by omega)];rfl
           ·exact mvUses_neg (by rw [hgd];omega) _
          rw [hmz,List.nil_append] at hac
          conv=>whnf
          repeat (refine ⟨gP_of ⟨by omega,by omega⟩,?_⟩;conv=>whnf)
          exact ⟨_,_,Turn.refl _ _,_,(by omega),g+1,N,q7,L,acc,q10,rfl,rfl,rfl,by omega,hNl,hFr,hSt,by omega,hac⟩
       ·rw [drop_nil (by omega),mvRows,List.append_nil] at hac
        rw [← hac,hxe] at hSt
        have hlF:(F.map encSps).length≤20000:=by rw [List.length_map];omega
        conv=>whnf
        repeat ((first|refine ⟨gP_of ⟨by omega,by omega⟩,?_⟩|(refine ⟨(by rw [List.length_append,List.length_singleton];unfold AMAX;omega),fun q'=>⟨_,.there (.here _),?_⟩⟩));conv=>whnf)
        exact ⟨_,_,Turn.trans (Turn.weak (.cons (VLe.refl _) (.cons (VLe.refl _) (.cons (VLe.refl _) (.cons (VLe.refl _) (.cons (VLe.refl _) (.cons (VLe.els (VssLe.snoc (.cons VLe.sl .nil))) (RLe.refl _)))))))) (Turn.drop (.here _)),_,(by omega),i+1,N,F++[L],q7,q',by rw [List.map_append];rfl,rfl,rfl,by omega,by rw [List.length_append,List.length_singleton];omega,hNl,hFr.snoc (by rw [hFl];exact hs) hSt⟩
     ·have hlS:(S.map encRSs).length≤20:=by rw [List.length_map];omega
      have hlT:(T.map encSpr).length≤20:=by rw [List.length_map];omega
      conv=>whnf
      repeat ((first|refine ⟨gP_of ⟨by omega,by omega⟩,?_⟩|(refine ⟨(by rw [List.length_append,List.length_singleton];unfold AMAX;omega),fun q'=>⟨_,.there (.there (.there (.here _))),?_⟩⟩)|(refine ⟨(by rw [List.length_append,List.length_singleton];unfold AMAX;omega),fun q'=>⟨_,.there (.there (.here _)),?_⟩⟩));conv=>whnf)
      rename_i qa
      exact ⟨_,_,Turn.trans (Turn.weak (.cons (VLe.refl _) (.cons (VLe.els (VssLe.snoc (.cons VLe.sl .nil))) (.cons (VLe.els (VssLe.snoc (.cons VLe.sl .nil))) (RLe.refl _))))) (Turn.trans (Turn.drop (.here _)) (Turn.drop (.here _))),_,(by omega),n+1,S++[N],T++[F],qa,q',by rw [List.map_append,List.map_append];rfl,rfl,rfl,by omega,hL.snoc hl hNl hFr (by omega)⟩
   ·have hn12:n=12:=by omega
    subst hn12
    conv=>whnf
    skip
    exact ⟨S,T,hL,VLe.tup (.cons VLe.sl (.cons VLe.sl .nil))⟩
 ·rintro v h1 ⟨S,T,hL,hv⟩
  exact ⟨_,[],⟨S,T,hL,rfl,rfl⟩,hv,fun k o hm=>(by cases hm),fun _=>(by simp [keys])⟩
end Go.Abs.Wall.Spl
namespace Go.Abs.Wall.Spl
open Go Go.Abs Go.Proofs Go.Abs.Wall
theorem RestsOK.short {E:Env} (hE:EOK E) {m:Nat} {x:Sta} (hx:StOK E x) {rs:List Rst} (h:RestsOK E m x rs):∀ r∈rs,r.path.length≤12:=by
 intro r hr
 obtain ⟨ρ,hρ⟩:=List.mem_iff_getElem?.1 hr
 obtain ⟨w,h1,h2,h3⟩:=h.at_ ρ r hρ
 have h4:=congrArg List.length h3
 rw [List.length_map,List.length_map] at h4
 have h5:=path_len hE _ x hx (way_path hE _ x hx rfl ρ w h1).1
 have:=hx.n
 omega
theorem RestsOK.many {E:Env} {m:Nat} {x:Sta} {rs:List Rst} (h:RestsOK E m x rs):rs.length≤m:=by
 rw [h.len,List.length_take]
 omega
theorem RestsOK.cost {E:Env} (hE:EOK E) {m:Nat} {x:Sta} (hx:StOK E x) {rs:List Rst} (h:RestsOK E m x rs):∀ r∈rs,0≤costR r∧costR r≤1000000:=by
 intro r hr
 have hs:=h.short hE hx r hr
 obtain ⟨ρ,hρ⟩:=List.mem_iff_getElem?.1 hr
 obtain ⟨w,h1,h2,h3⟩:=h.at_ ρ r hρ
 have h4:=way_bound hE _ x hx rfl w (List.mem_of_getElem? h1)
 have:=hx.n
 unfold keyR at h2
 have h5:(12 - x.n).toNat≤12:=by omega
 omega
def splR (r:Rst):Spl:=⟨r.path.map (·.sign),r.path.map (·.use),costR r⟩
theorem rests_spl {E:Env} (hE:EOK E) {m:Nat} {rs:List Rst} (h:RestsOK E m st0 rs):rs.map splR=splsOf E m:=by
 unfold splsOf
 refine List.ext_getElem? fun ρ=>?_
 rw [List.getElem?_map,List.getElem?_map]
 cases hr:rs[ρ]? with
 | none=>
   rw [List.getElem?_eq_none_iff,h.len] at hr
   rw [List.getElem?_eq_none hr]
   rfl
 | some r=>
   have hl:=(List.getElem?_eq_some_iff.1 hr).1
   rw [h.len,List.length_take] at hl
   obtain ⟨w,h1,h2,h3⟩:=h.at_ ρ r hr
   have hs:=h.short hE st0_ok r (List.mem_of_getElem? hr)
   rw [List.getElem?_take_of_lt (by omega),h1]
   show some (splR r)=some (splOf E w)
   congr 1
   unfold splR splOf
   have e1:r.path.map (·.sign)=(pathS E st0 w).map (·.sign):=by
    have e:=congrArg (List.map (·.1)) h3
    rw [List.map_map,List.map_map] at e
    exact e
   have e2:r.path.map (·.use)=(pathS E st0 w).map (·.use):=by
    have e:=congrArg (List.map (·.2)) h3
    rw [List.map_map,List.map_map] at e
    exact e
   have e3:costR r=w.cost / 16:=by unfold keyR at h2;omega
   rw [e1,e2,e3]
theorem encR_ext (t:Stp) (r:Rst):encR (extR t r)=[.iptr (.int .i64 (t.cost+costR r)::.int .i64 (1+(r.path.length:Int))::(encStp t++[.iptr (encN r)]))]:=by
 have h1:costR (extR t r)=t.cost+costR r:=by
  show r.fin+((t::r.path).map (·.cost)).sum=t.cost+(r.fin+(r.path.map (·.cost)).sum)
  rw [List.map_cons,List.sum_cons]
  omega
 have h2:(((extR t r).path.length:Nat):Int)=1+(r.path.length:Int):=by
  show (((t::r.path).length:Nat):Int)=_
  rw [List.length_cons]
  push_cast
  omega
 show [AV.iptr (.int .i64 (costR (extR t r))::.int .i64 ((extR t r).path.length:Nat)::encT r.fin (t::r.path))]=_
 rw [h1,h2]
 rfl
def lsB (Bh:List (List Rst)) (row:List Stp):List (List Rst):=row.map fun t=>(Bh.getD t.to []).map (extR t)
def BhOK (E:Env) (P:List (List UInt8)) (m:Nat) (n:Nat) (l:List RS) (Bh:List (List Rst)):Prop:=∀ (i:Nat) s rs,l[i]?=some s→Bh[i]?=some rs→RestsOK E m (toS P n s) rs
theorem BhOK.snoc {E:Env} {P:List (List UInt8)} {m n:Nat} {l:List RS} {Bh:List (List Rst)} (h:BhOK E P m n l Bh) {s:RS} (hs:l[Bh.length]?=some s) {rs:List Rst} (hr:RestsOK E m (toS P n s) rs):BhOK E P m n l (Bh++[rs]):=by
 intro j s2 row2 h1 h2
 by_cases hj:j<Bh.length
 ·rw [List.getElem?_append_left hj] at h2
  exact h j s2 row2 h1 h2
 ·by_cases e:j=Bh.length
  ·subst e
   rw [List.getElem?_append_right (Nat.le_refl _),Nat.sub_self] at h2
   cases h2
   rw [hs] at h1
   cases h1
   exact hr
  ·rw [List.getElem?_eq_none (by rw [List.length_append,List.length_singleton];omega)] at h2
   cases h2
theorem lsB_ok {E:Env} {P:List (List UInt8)} {m n:Nat} {l':List RS} {Bh:List (List Rst)} (hB:BhOK E P m (n+1) l' Bh) (hBl:Bh.length=l'.length) {x:Sta} {row:List Stp} (hr:StepsOK P n l' row (movesM E x)):LsOK E m x (lsB Bh row):=by
 refine ⟨by unfold lsB;rw [List.length_map];exact hr.len,fun i l mv h1 h2=>?_⟩
 unfold lsB at h1
 rw [List.getElem?_map] at h1
 cases ht:row[i]? with
 | none=>rw [ht] at h1;cases h1
 | some t=>
   rw [ht] at h1
   have h1:(Bh.getD t.to []).map (extR t)=l:=by simpa using h1
   have hst:=hr.get ht h2
   obtain ⟨r,g1,g2⟩:=hst.to
   have gl:=(List.getElem?_eq_some_iff.1 g1).1
   obtain ⟨rs,hrs⟩:=get_lt (l:=Bh) (i:=t.to) (by omega)
   have hok:=hB _ _ _ g1 hrs
   have hn:((n+1:Nat):Int)=(n:Int)+1:=by push_cast;rfl
   rw [hn,g2] at hok
   rw [List.getD_eq_getElem?_getD,hrs] at h1
   exact ⟨t,rs,hst.two,hst.cost,hok,h1.symm⟩
theorem lsB_none {E:Env} {m:Nat} {x:Sta} (hx:x.n=12):LsOK E m x []:=by
 refine ⟨?_,fun i l mv h1 h2=>(by cases h1)⟩
 unfold movesM
 rw [if_pos hx]
 rfl
end Go.Abs.Wall.Spl
