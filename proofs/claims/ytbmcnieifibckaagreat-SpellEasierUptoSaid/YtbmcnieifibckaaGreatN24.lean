/- What is proved: small laws for the walks of this seat, and contracts of its functions. No condition but those each theorem names. -/
import Derived.Test.YtbmcnieifibckaaGreatN23
import Derived.Test.YtbmcnieifibckaaGreatN7
import Derived.Test.YtbmcnieifibckaaGreatN8
set_option maxRecDepth 100000
set_option maxHeartbeats 2000000
set_option linter.unusedVariables false
set_option linter.unusedSimpArgs false
namespace Go.Abs.Wall.Spl
open Go Go.Abs Go.Proofs Go.Abs.Wall
open Go.Abs.Wall.Lst hiding encWy wyCmp wyCmp_lt wayCompare fndW encWy_len idxW_iff binNil binW insNilW over224 InsR insC OpenR insW_acalls ndC putW NodeS NodeH getV GetC recCall putCall getStep getAll
def splsOf (E:Env) (n:Nat):List Spl:=((wayS E st0).take n).map (splOf E)
def listE (H:Hou) (B:Hab) (f:Frm) (most:Int):Int:=if begErr H B f≠0 then begErr H B f else if 1≤most∧most≤64 then (if wayS (envM H B f) st0=[] then 61 else 0) else 1
def listS (H:Hou) (B:Hab) (f:Frm) (most:Int):List Spl:=if listE H B f most=0 then splsOf (envM H B f) most.toNat else []
theorem nds_nil {E:Env}:∀ (c:Nat) (d:Int),(c:Int)+d=13→Nds E c d [] []
 | 0,d,h=>.done (by omega)
 | c+1,d,h=>.step (hA:=[]) (hB:=[]) .nil (nds_nil c (d+1) (by omega))
def c19:Cfg:=⟨[0,1,2,3,4,5,6,8,9,10,11,12,13,22,26,27,28,29,38,46],[],[12],[],[],[]⟩
def c22:Cfg:=⟨[0,1,2,3,4,5,6,7,8,9,18],[],[],[],[],[]⟩
theorem spListW (H:Hou) (B:Hab) (f:Frm) (most:Int) (hh:HouFit H) (hB:HabFit B) (hfl:f.clitics.length≤LMAX) :
  QCall Tryz.prog 19 [.agg (encHou H),.agg (encHab B),.agg (encFrm f),.int .i64 most] [] (.tup [.sl 3 none ((listS H B f most).map encSpl),.int .i64 (listE H B f most)]):=by
 refine QCall.of ?_
 refine fcalls (F:=Tryz.f19) c19 rfl rfl rfl mixed rfl fun X=>?_
 conv=>whnf
 repeat ((refine ACalls.mono ?_ (beginW H B f hh hB hfl));conv=>whnf)
 rintro v h' (⟨hb,rfl,rfl⟩|⟨hb,nb,cb,rfl,rfl⟩)
 ·have he:listE H B f most=begErr H B f:=by unfold listE;rw [if_pos hb]
  conv=>whnf
  skip
  refine cT (by simp [hb]) ?_
  conv=>whnf
  skip
  unfold listS
  rw [he,if_neg hb]
  exact VLe.tup (.cons (VLe.nil (by decide)) (.cons (VLe.refl _) .nil))
 have hbb:=hb
 unfold begErr at hbb
 split at hbb
 ·rename_i h1;exact absurd hbb h1
 rename_i h1
 obtain ⟨h2,h3⟩:=habOK (H:=H) (B:=B) (by omega)
 have hf:=frmOK hbb
 have hE:=env_ok h2 h3 hf
 obtain ⟨E,hEe⟩:∃ E,E=envM H B f:=⟨_,rfl⟩
 have he0:listE H B f most=if 1≤most∧most≤64 then (if wayS E st0=[] then 61 else 0) else 1:=by unfold listE;rw [if_neg (by omega),hEe]
 have hl0:listS H B f most=if listE H B f most=0 then splsOf E most.toNat else []:=by unfold listS;rw [hEe]
 rw [← hEe] at hE
 rw [← hEe]
 conv=>whnf
 skip
 refine cF rfl ?_
 conv=>whnf
 repeat (refine QCall.k0 (spWithin _ _ _) ?_;conv=>whnf)
 by_cases hm:1≤most∧most≤64
 rotate_left
 ·refine cT (by simp [wthn];omega) ?_
  conv=>whnf
  skip
  rw [hl0,he0,if_neg hm,if_neg (by decide)]
  exact VLe.tup (.cons (VLe.nil (by decide)) (.cons (VLe.refl _) .nil))
 rw [if_pos hm] at he0
 refine cF (by simp [wthn];omega) ?_
 conv=>whnf
 skip
 refine tloop rfl mixed [8,10,27,28] [] (fun m r h=>∃ (j:Nat) (ov:AV) (oh hp:Heap) (es:Ents),r=[(8,[],ov),(10,[],.iptr (seaC E (.omap nb) (.omap cb))),(27,[],.int .i64 most),(28,[],.int .i64 j)]∧h=(nb,mapS es)::(cb,mapC [])::(oh++hp)∧m=65 - j∧(j:Int)≤most∧j≤(wayS E st0).length∧Out 3 encSpl (splsOf E j) ov oh∧Nds E 13 0 es hp) ?_ ?_
 ·conv=>whnf
  exact ⟨_,_,Turn.refl _ _,_,0,.nilS,[],[],[],rfl,rfl,rfl,by omega,by omega,.inl ⟨by simp [splsOf],rfl,rfl⟩,nds_nil 13 0 rfl⟩
 ·rintro m r h' ⟨j,ov,oh,hp,es,rfl,rfl,rfl,hjm,hjl,ho,hN⟩
  have htl:(splsOf E j).length=j:=by unfold splsOf;rw [List.length_map,List.length_take];omega
  conv=>whnf
  refine ⟨fun hz=>?_,fun hz=>?_⟩<;>simp at hz
  ·have hrd:=spellingW E hE nb (.omap cb) es 13 hp j (by omega) hN
   have pm:∀ (hp:Heap) (es:Ents),((nb,mapS es)::hp++((cb,mapC [])::oh)).Perm ((nb,mapS es)::(cb,mapC [])::(oh++hp)):=fun hp es=>List.Perm.cons _ (List.perm_append_comm (l₂:=(cb,mapC [])::oh))
   have hrd2:=ACalls.re (R':=fun v H'=>v=splV E j∧∃ es' hp',Nds E 13 0 es' hp'∧H'=(nb,mapS es')::(cb,mapC [])::(oh++hp')) hrd (pm hp es) (by
    rintro v h1 ⟨rfl,ext,hp',hn',rfl⟩
    exact ⟨_,pm hp' _,rfl,_,hp',hn',rfl⟩)
   conv=>whnf
   skip
   refine ACalls.mono ?_ hrd2
   clear hN hrd hrd2
   rintro v h1 ⟨rfl,es,hp,hN,rfl⟩
   cases hrp:(wayS E st0)[j]? with
   | none=>
     have hrv:splV E j=.tup [.agg [.nilS,.nilS,.int .i64 0],.bool false]:=by unfold splV;rw [hrp]
     have hje:splsOf E j=splsOf E most.toNat:=by
      rw [List.getElem?_eq_none_iff] at hrp
      unfold splsOf
      rw [List.take_of_length_le hrp,List.take_of_length_le (by omega)]
     rw [hrv]
     conv=>whnf
     repeat ((first|refine ⟨_,_,Rem.here _,⟨Nat.le_of_ble_eq_true rfl,rfl⟩,?_⟩|intro (nb:Nat));conv=>whnf)
     refine cT rfl ?_
     rw [hje] at ho htl
     by_cases hz3:wayS E st0=[]
     ·rcases ho with ⟨hn,rfl,rfl⟩|⟨q,rfl,rfl⟩
      all_goals
       conv=>whnf
       skip
       refine cT (by simp [splsOf,hz3]) ?_
       conv=>whnf
       skip
       rw [hl0,he0,if_pos hz3,if_neg (by decide)]
       exact VLe.tup (.cons (VLe.nil (by decide)) (.cons (VLe.refl _) .nil))
     ·have hpos:0<(splsOf E most.toNat).length:=by
       unfold splsOf
       rw [List.length_map,List.length_take]
       have:=List.length_pos_iff.2 hz3
       omega
      rcases ho with ⟨hn,rfl,rfl⟩|⟨q,rfl,rfl⟩
      ·rw [hn] at hpos;simp at hpos
      ·conv=>whnf
       skip
       refine cF (decide_eq_false (by rw [List.length_map];omega)) ?_
       conv=>whnf
       skip
       rw [hl0,he0,if_neg hz3,if_pos rfl]
       exact VLe.tup (.cons VLe.sl (.cons (VLe.refl _) .nil))
   | some p=>
     have hrv:splV E j=.tup [.agg (encSpl (splOf E p)),.bool true]:=by unfold splV;rw [hrp]
     have hjl2:=(List.getElem?_eq_some_iff.1 hrp).1
     have hts:splsOf E (j+1)=splsOf E j++[splOf E p]:=by unfold splsOf;rw [take_snoc hrp,List.map_append];rfl
     have hml:((splsOf E j).map encSpl).length=j:=by rw [List.length_map];exact htl
     rw [hrv]
     rcases ho with ⟨hn,rfl,rfl⟩|⟨q,rfl,rfl⟩
     ·conv=>whnf
      repeat ((first|refine ⟨_,_,Rem.here _,⟨Nat.le_of_ble_eq_true rfl,rfl⟩,?_⟩|intro (nb:Nat));conv=>whnf)
      refine cF rfl ?_
      conv=>whnf
      repeat ((first|refine ⟨gP_of ⟨by omega,by omega⟩,?_⟩|(refine ⟨Nat.le_of_ble_eq_true rfl,fun q=>?_⟩));conv=>whnf)
      exact ⟨_,_,Turn.perm (List.perm_middle (l₁:=[_,_])).symm,_,(by omega),j+1,_,[(q,.tok)],hp,es,rfl,rfl,rfl,by omega,by omega,.inr ⟨q,by rw [hts,hn];rfl,rfl⟩,hN⟩
     ·conv=>whnf
      repeat ((first|refine ⟨_,_,Rem.here _,⟨Nat.le_of_ble_eq_true rfl,rfl⟩,?_⟩|intro (nb:Nat));conv=>whnf)
      refine cF rfl ?_
      conv=>whnf
      repeat ((first|refine ⟨gP_of ⟨by omega,by omega⟩,?_⟩|(refine ⟨(by rw [List.length_append,hml];simp;unfold AMAX;omega),fun q2=>⟨_,.there (.there (.here _)),?_⟩⟩));conv=>whnf)
      exact ⟨_,_,Turn.refl _ _,_,(by omega),j+1,_,[(q2,.tok)],hp,es,rfl,rfl,rfl,by omega,by omega,.inr ⟨q2,by rw [hts,List.map_append];rfl,rfl⟩,hN⟩
  ·have hje:splsOf E j=splsOf E most.toNat:=by rw [show j=most.toNat by omega]
   rw [hje] at ho htl
   by_cases hz3:wayS E st0=[]
   ·rcases ho with ⟨hn,rfl,rfl⟩|⟨q,rfl,rfl⟩
    all_goals
     conv=>whnf
     skip
     refine cT (by simp [splsOf,hz3]) ?_
     conv=>whnf
     skip
     rw [hl0,he0,if_pos hz3,if_neg (by decide)]
     exact VLe.tup (.cons (VLe.nil (by decide)) (.cons (VLe.refl _) .nil))
   ·have hpos:0<(splsOf E most.toNat).length:=by
     unfold splsOf
     rw [List.length_map,List.length_take]
     have:=List.length_pos_iff.2 hz3
     omega
    rcases ho with ⟨hn,rfl,rfl⟩|⟨q,rfl,rfl⟩
    ·rw [hn] at hpos;simp at hpos
    ·conv=>whnf
     skip
     refine cF (decide_eq_false (by rw [List.length_map];omega)) ?_
     conv=>whnf
     skip
     rw [hl0,he0,if_neg hz3,if_pos rfl]
     exact VLe.tup (.cons VLe.sl (.cons (VLe.refl _) .nil))
def bestS (H:Hou) (B:Hab) (f:Frm):Spl:=(listS H B f 1).headD ⟨[],[],0⟩
theorem listS_one {H:Hou} {B:Hab} {f:Frm} {most:Int} (h:listE H B f most=0):listS H B f most≠[]:=by
 have h0:=h
 unfold listE at h0
 split at h0
 ·rename_i h1;exact absurd h0 h1
 split at h0
 ·rename_i hm
  split at h0
  ·cases h0
  ·rename_i hne
   unfold listS splsOf
   rw [if_pos h]
   have:=List.length_pos_iff.2 hne
   refine List.length_pos_iff.1 ?_
   rw [List.length_map,List.length_take]
   omega
 ·cases h0
theorem spBestW (H:Hou) (B:Hab) (f:Frm) (hh:HouFit H) (hB:HabFit B) (hfl:f.clitics.length≤LMAX) :
  QCall Tryz.prog 22 [.agg (encHou H),.agg (encHab B),.agg (encFrm f)] [] (.tup [.agg (encSpl (bestS H B f)),.int .i64 (listE H B f 1)]):=by
 have hl:=spListW H B f 1 hh hB hfl
 refine QCall.of ?_
 refine fcalls (F:=Tryz.f22) c22 rfl rfl rfl mixed rfl fun X=>?_
 conv=>whnf
 intro rb
 conv=>whnf
 repeat (refine QCall.k0 (hl) ?_;conv=>whnf)
 refine ⟨fun h0=>?_,fun h0=>?_⟩<;>simp at h0
 ·have hn:listS H B f 1=[]:=by unfold listS;rw [if_neg h0]
  conv=>whnf
  repeat ((first|(refine ⟨_,_,.here _,leOK,?_⟩)|refine ⟨_,_,.head _,rfl,?_⟩);conv=>whnf)
  unfold bestS
  rw [hn]
  exact VLe.tup (.cons (VLe.agg (.cons (VLe.nil (by decide)) (.cons (VLe.nil (by decide)) (.cons (VLe.refl _) .nil)))) (.cons (VLe.refl _) .nil))
 ·obtain ⟨x,t,hx⟩:=List.exists_cons_of_ne_nil (listS_one h0)
  have hx0:(listS H B f 1)[0]?=some x:=by rw [hx];rfl
  conv=>whnf
  repeat ((first|refine ix (by assumption) ?_|(refine ⟨_,_,.here _,leOK,?_⟩)|refine ⟨_,_,.head _,rfl,?_⟩);conv=>whnf)
  unfold bestS
  rw [hx,h0]
  exact VLe.refl _
end Go.Abs.Wall.Spl
namespace Go.Abs.Wall.Spl
open Go Go.Abs Go.Proofs Go.Abs.Wall
open Go.Abs.Wall.Lst hiding encWy wyCmp wyCmp_lt wayCompare fndW encWy_len idxW_iff binNil binW insNilW over224 InsR insC OpenR insW_acalls ndC putW NodeS NodeH getV GetC recCall putCall getStep getAll
def exB:Hab:=⟨[0,5,0,0,-1,0,0,0],2,2⟩
def exF0:Frm:=⟨0,-1,[]⟩
def exE:Env:=⟨exH,exB,⟨[110,102,114],1,[103,111,111,100],2⟩,[110,102,114],[3],2,4,
 [[⟨1,[110]⟩,⟨3,[110]⟩],[⟨1,[110,102,114]⟩,⟨3,[110,102,114]⟩],[⟨1,[102]⟩,⟨3,[102]⟩],[⟨1,[114]⟩,⟨3,[114]⟩],[⟨2,[110,102,114]⟩],[⟨4,[103,111,111,100]⟩],[⟨1,[116]⟩,⟨3,[116]⟩],[⟨1,[110]⟩,⟨2,[110]⟩,⟨3,[110]⟩]]⟩
theorem exRows:rowsM exH=exE.uses:=by
 have h:rowsM exH=(List.range exH.list.signs.length).map fun (i:Nat)=>isort useCmp (useGo exH.period (sgnAt exH (i:Int)).values):=by
  unfold rowsM
  refine List.map_congr_left fun i _=>?_
  unfold usesAt
  exact usesM_i _ _
 rw [h]
 decide +kernel
theorem exEnv:envM exH exB exF0=exE:=by
 unfold envM
 rw [exRows]
 rfl
def exL:List Spl:=[⟨[0,2,3,5],[⟨1,[110]⟩,⟨1,[102]⟩,⟨1,[114]⟩,⟨4,[103,111,111,100]⟩],5⟩,⟨[7,2,3,5],[⟨1,[110]⟩,⟨1,[102]⟩,⟨1,[114]⟩,⟨4,[103,111,111,100]⟩],5⟩,⟨[1,3,5],[⟨1,[110,102,114]⟩,⟨3,[114]⟩,⟨4,[103,111,111,100]⟩],8⟩,⟨[1,1,5],[⟨1,[110,102,114]⟩,⟨3,[110,102,114]⟩,⟨4,[103,111,111,100]⟩],13⟩]
theorem exWays:((wayS exE st0).take 5).map (splOf exE)=exL:=by decide +kernel
theorem exWays0:wayS exE st0≠[]:=by
 intro h
 have:=exWays
 rw [h] at this
 cases this
theorem exBeg:begErr exH exB exF0=0:=by decide +kernel
theorem exListE:listE exH exB exF0 5=0:=by
 unfold listE
 rw [if_neg (by rw [exBeg];decide),if_pos (by decide),exEnv,if_neg exWays0]
theorem exListS:listS exH exB exF0 5=exL:=by
 unfold listS
 rw [if_pos exListE,exEnv]
 exact exWays
theorem exFit:HouFit exH:=by
 have h1:∀ s∈exH.list.signs,s.code.length≤LMAX∧s.values.length≤LMAX∧∀ v∈s.values,v.text.length≤LMAX:=by decide +kernel
 have h2:∀ e∈exH.lex.entries,e.root.length≤LMAX∧e.cls.length≤LMAX:=by decide +kernel
 have h3:∀ e∈exH.lex.endings,e.text.length≤LMAX∧e.name.length≤LMAX:=by decide +kernel
 have h4:∀ e∈exH.lex.clitics,e.text.length≤LMAX∧e.name.length≤LMAX:=by decide +kernel
 exact ⟨⟨by decide +kernel,fun s hs=>⟨(h1 s hs).1,(h1 s hs).2.1,(h1 s hs).2.2⟩⟩,⟨by decide +kernel,by decide +kernel,by decide +kernel,fun e he=>⟨(h2 e he).1,(h2 e he).2⟩,fun e he=>⟨(h3 e he).1,(h3 e he).2⟩,fun e he=>⟨(h4 e he).1,(h4 e he).2⟩⟩⟩
def c18:Cfg:=⟨[0,1,2,3],[],[1],[],[(2,[0,1,2,3,4,5,6,7,8],[])],[]⟩
theorem spWorks:QCall Tryz.prog 18 [] [] (.bool true):=by
 have hl:=spListW exH exB exF0 5 exFit ⟨by decide⟩ (by decide)
 rw [exListE,exListS] at hl
 have hl2:QCall Tryz.prog 19 [.agg (encHou exH),.agg [.sl 1 none [[.int .i64 0],[.int .i64 5],[.int .i64 0],[.int .i64 0],[.int .i64 (-1)],[.int .i64 0],[.int .i64 0],[.int .i64 0]],.int .i64 2,.int .i64 2],.agg [.int .i64 0,.int .i64 (-1),.nilS],.int .i64 5] [] (.tup [.sl 3 none (exL.map encSpl),.int .i64 0]):=
  QCall.args hl (.cons (VLe.refl _) (.cons (VLe.refl _) (.cons (VLe.agg (.cons (VLe.refl _) (.cons (VLe.refl _) (.cons (VLe.nil (by decide)) .nil)))) (.cons (VLe.refl _) .nil))))
 have h1:=sameInts [1,3,5] [1,3,5] (by decide) (by decide)
 refine fcalls (F:=Tryz.f18) c18 rfl rfl rfl mixed rfl fun X=>?_
 conv=>whnf
 repeat ((first|refine gcall (exampleW) ?_|refine gcall (hl2) ?_|(refine ⟨2,_,gP_of ⟨rfl,rfl⟩,?_⟩)|refine gcall (h1) ?_|refine ⟨_,_,Rem.here _,⟨Nat.le_of_ble_eq_true rfl,rfl⟩,?_⟩|refine And.intro (by show drawOK (opsAt Tryz.f18 _) _=true;decide +kernel) ?_|intro (nb:Nat));conv=>whnf)
 exact ⟨congrArg AV.bool (by decide),rfl⟩
end Go.Abs.Wall.Spl
namespace Go.Abs.Wall.Spl
open Go Go.Abs Go.Proofs Go.Abs.Wall Go.Proofs.YtbmcnieifibckaaGreat.Br
theorem shHab {xs:List AV} (h:Sh Tryz.prog B20 36 xs):∃ B:Hab,xs=encHab B∧HabFit B∧(∀ a∈B.signs,IntKind.i64.has a)∧IntKind.i64.has B.rpt∧IntKind.i64.has B.cls:=by
 obtain ⟨ps,rfl,hp⟩:=sh_struct h rfl
 obtain ⟨x,y,z,rfl,h1,h2,h3⟩:=sh3 hp
 obtain ⟨a,rfl,ha,hi⟩:=shInts h1
 obtain ⟨b,rfl,hb⟩:=shInt h2
 obtain ⟨c,rfl,hc⟩:=shInt h3
 exact ⟨⟨a,b,c⟩,rfl,⟨by unfold B20 at ha;exact ha⟩,hi,hb,hc⟩
theorem argHab {x:AV} (h:ArgSh Tryz.prog B20 36 x):∃ B:Hab,x=.agg (encHab B)∧HabFit B∧(∀ a∈B.signs,IntKind.i64.has a)∧IntKind.i64.has B.rpt∧IntKind.i64.has B.cls:=by
 obtain ⟨xs,h,hx⟩:=h
 have hx:x=.agg xs:=hx
 subst hx
 obtain ⟨B,rfl,hf⟩:=shHab h
 exact ⟨B,rfl,hf⟩
end Go.Abs.Wall.Spl
