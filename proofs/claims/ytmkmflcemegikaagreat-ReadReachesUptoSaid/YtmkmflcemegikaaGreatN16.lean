/- What is proved: small laws for the walks of this seat, and contracts of its functions. No condition but those each theorem names. -/
import Derived.Test.YtmkmflcemegikaaGreatN15
set_option maxRecDepth 100000
set_option maxHeartbeats 2000000
set_option linter.unusedVariables false
set_option linter.unusedSimpArgs false
namespace Go.Abs.Wall.Lst
open Go Go.Abs Go.Proofs Go.Abs.Wall
def pthR (p:Pth):Rdg:=⟨p.2.map (·.word),p.1⟩
theorem path_step {g:List (List Edg)} (hg:GOK g) {i ρ:Nat} (hi:i<g.length) {w:Wy} {p:Pth} (hw:(wayAt g i)[ρ]?=some w) (hp:(rdV g i)[ρ]?=some p) :
  ∃ es x w' p',g[i]?=some es∧es[w.edge]?=some x∧EdgOK g.length i x∧(wayAt g x.to.toNat)[w.rank]?=some w'∧(rdV g x.to.toNat)[w.rank]?=some p'∧p=(w.cost,x::p'.2):=by
 obtain ⟨es,hes⟩:=get_lt hi
 have hE:=hg.edge i es hes
 rw [rdV_cons hes hE,List.getElem?_map] at hp
 unfold wayAt at hw
 rw [hes] at hw
 simp only at hw
 rw [hw] at hp
 have hp:mkR es (fun x=>rdV g x.to.toNat) w=p:=by simpa using hp
 obtain ⟨_,l,h2,h3⟩:=mgW_cand hw
 have hlt:=(List.getElem?_eq_some_iff.1 h2).1
 rw [clsG_len] at hlt
 obtain ⟨x,hx⟩:=get_lt hlt
 have ho:=hE x (List.mem_of_getElem? hx)
 obtain ⟨l',e1,e2⟩:=clsG_get hg hes hx
 rw [h2] at e1;cases e1
 rw [e2] at h3
 cases hq:(wayAt g x.to.toNat)[w.rank]? with
 | none=>rw [hq] at h3;cases h3
 | some w'=>
   have:=wayAt_rd hg (i:=x.to.toNat) (by have:=ho.hi;omega) w.rank
   rw [hq] at this
   cases hr:(rdV g x.to.toNat)[w.rank]? with
   | none=>rw [hr] at this;cases this
   | some p'=>
     refine ⟨es,x,w',p',hes,hx,ho,hq,hr,?_⟩
     rw [← hp]
     unfold mkR
     rw [hx]
     simp only
     rw [List.getD_eq_getElem?_getD,hr]
     rfl
theorem path_ends {g:List (List Edg)} {ρ:Nat} {w:Wy} {p:Pth} (hw:(wayAt g g.length)[ρ]?=some w) (hp:(rdV g g.length)[ρ]?=some p):p.2=[]∧ρ=0:=by
 rw [rdV_end] at hp
 cases ρ with
 | zero=>simp at hp;subst hp;exact ⟨rfl,rfl⟩
 | succ n=>simp at hp
theorem way_rank {g:List (List Edg)} {i ρ:Nat} {w:Wy} (hw:(wayAt g i)[ρ]?=some w):w.rank≤ρ:=by
 unfold wayAt at hw
 split at hw
 ·cases ρ with
  | zero=>simp at hw;subst hw;exact Nat.le_refl _
  | succ n=>simp at hw
 ·exact mgW_rank hw
def c41:Cfg:=⟨[0,1,4,5,6,7,8,17,31],[],[8],[],[(7,[0,1,2,3,4,5,6,7,8,9,10,11,12,13,14,15],[8]),(8,[0,1,2,3,4,5,6,7,8],[])],[]⟩
def rdgV (g:List (List Edg)) (rank:Nat):AV:=match (rdV g 0)[rank]? with
 | none=>.tup [.agg [.nilS,.int .i64 0],.bool false]
 | some p=>.tup [.agg (encRdg (pthR p)),.bool true]
theorem readingW (g:List (List Edg)) (hg:GOK g) (tb:Nat) (R:List Int) (ks:List Nat) (nq:Option Nat) (nv:AV) (hkl:ks.length=g.length) (hnv:g=[]∨nv=.sl 1 nq (ks.map encKey)) (rank:Nat) (hr:rank≤64) (hp:Heap) (hN:Nodes g 0 ks hp) :
  ACalls Tryz.prog 41 [.optr tb 0,.int .i64 rank] ((tb,tOb g R nv)::hp) (fun v h'=>v=rdgV g rank∧∃ hp',Nodes g 0 ks hp'∧h'=(tb,tOb g R nv)::hp'):=by
 have hgf:=hg.few
 have hget0:∀ (A B:Heap) (hp:Heap) (i r:Nat),i≤g.length→r≤64→Nodes g 0 ks hp→ACalls Tryz.prog 67 [.optr tb 0,.int .i64 i,.int .i64 r] (A++(tb,tOb g R nv)::(B++hp)) (fun v h'=>v=getV g i r∧∃ hp',Nodes g 0 ks hp'∧h'=A++(tb,tOb g R nv)::(B++hp')):=by
  intro A B hp i r hi hr hN
  obtain ⟨hA,hB,rfl,nA,nB⟩:=hN.split i (by omega)
  rw [Nat.zero_add] at nB
  have htl:(ks.take i).length=i:=by rw [List.length_take];omega
  have h1:=getAll g hg (g.length - i) i (by omega) tb R (ks.take i) (ks.drop i) nq nv r hB htl (by rw [List.take_append_drop];exact hkl) (by rw [List.take_append_drop];exact hnv) nB hr
  have pm:∀ hB:Heap,((tb,tOb g R nv)::hB++(A++(B++hA))).Perm (A++(tb,tOb g R nv)::(B++(hA++hB))):=fun hB=>
   (List.Perm.cons _ perm3).trans List.perm_middle.symm
  refine ACalls.re h1 (h2:=A++(B++hA)) (pm hB) ?_
  rintro v h3 ⟨rfl,hp',hn',rfl⟩
  refine ⟨_,pm hp',rfl,hA++hp',?_,rfl⟩
  have:=nA.join (by rw [htl,Nat.zero_add];exact hn')
  rwa [List.take_append_drop] at this
 refine ACalls.post (R:=fun v h'=>∃ v',v'=rdgV g rank∧VLe v v'∧∃ hp' Z,Nodes g 0 ks hp'∧h'.Perm ((tb,tOb g R nv)::hp'++Z)) ?_ ?_
 ·refine fcalls (F:=Tryz.f41) c41 rfl rfl rfl mixed rfl fun X=>?_
  conv=>whnf
  intro rb
  conv=>whnf
  skip
  refine ACalls.mono ?_ (hget0 [(rb,.vec [.nilS,.int .i64 0])] [] hp 0 rank (by omega) hr hN)
  clear hN
  rintro v h1 ⟨rfl,hp,hN,rfl⟩
  cases hw:(wayAt g 0)[rank]? with
  | none=>
    have hgv:getV g 0 rank=.tup [.agg (encWy wy0),.bool false]:=by unfold getV;rw [hw]
    rw [hgv]
    conv=>whnf
    intro wb
    conv=>whnf
    repeat (refine ⟨_,_,.here _,leOK,?_⟩;conv=>whnf)
    refine cT rfl ?_
    conv=>whnf
    repeat ((first|(refine ⟨_,_,.there (.here _),leOK,?_⟩)|refine ⟨_,_,.tail _ (.head _),rfl,?_⟩);conv=>whnf)
    have hrn:(rdV g 0)[rank]?=none:=by
     have:=wayAt_rd hg (i:=0) (by omega) rank
     rw [hw] at this
     cases hq:(rdV g 0)[rank]? with
     | none=>rfl
     | some p=>rw [hq] at this;cases this
    refine ⟨_,rfl,?_,hp,[(wb,_),(rb,_)],hN,(List.perm_append_comm (l₁:=[_,_]) (l₂:=(tb,tOb g R nv)::hp))⟩
    unfold rdgV
    rw [hrn]
    exact VLe.refl _
  | some w0=>
    have hgv:getV g 0 rank=.tup [.agg (encWy w0),.bool true]:=by unfold getV;rw [hw]
    obtain ⟨p,hrp⟩:∃ p,(rdV g 0)[rank]?=some p:=by
     have:=wayAt_rd hg (i:=0) (by omega) rank
     rw [hw] at this
     cases hq:(rdV g 0)[rank]? with
     | none=>rw [hq] at this;cases this
     | some p=>exact ⟨p,rfl⟩
    have hpc:p.1=w0.cost:=by
     have:=wayAt_rd hg (i:=0) (by omega) rank
     rw [hw,hrp] at this
     simpa using this
    rw [hgv]
    conv=>whnf
    intro wb
    conv=>whnf
    repeat (refine ⟨_,_,.here _,leOK,?_⟩;conv=>whnf)
    refine cF rfl ?_
    conv=>whnf
    repeat ((first|(refine ⟨_,_,.there (.here _),leOK,?_⟩)|refine ⟨_,_,.head _,rfl,?_⟩);conv=>whnf)
    refine tloop rfl mixed [0,4,6,7] [] (fun m r h=>∃ (i ρ:Nat) (w:Wy) (pc:Pth) (L:List Edg) (wv:AV) (wh hp:Heap) (rb wb:Nat),r=[(0,[],.optr tb 0),(4,[],.optr rb 0),(6,[],.int .i64 i),(7,[],.optr wb 0)]∧h=(wb,.vec (encWy w))::(rb,.vec [wv,.int .i64 p.1])::(tb,tOb g R nv)::(wh++hp)∧m=g.length - i∧i≤g.length∧(wayAt g i)[ρ]?=some w∧(rdV g i)[ρ]?=some pc∧p.2=L++pc.2∧ρ≤64∧Out 4 encWrd (L.map (·.word)) wv wh∧Nodes g 0 ks hp∧L.length≤i) ?_ ?_
    ·conv=>whnf
     exact ⟨_,_,Turn.refl _ _,_,0,rank,w0,p,[],.nilS,[],hp,rb,wb,rfl,by rw [hpc];rfl,rfl,by omega,hw,hrp,rfl,hr,.inl ⟨rfl,rfl,rfl⟩,hN,Nat.le_refl _⟩
    ·clear hN
     rintro m r h' ⟨i,ρ,w,pc,L,wv,wh,hp,rb,wb,rfl,rfl,rfl,hi,hwi,hpi,hL,hρ,ho,hN,hLi⟩
     conv=>whnf
     repeat ((refine ⟨_,_,.tail _ (.tail _ (.head _)),rfl,?_⟩);conv=>whnf)
     refine ⟨fun hz=>?_,fun hz=>?_⟩<;>simp at hz
     ·obtain ⟨es,x,w',p',hes,hx,hxo,hw',hp',hpe⟩:=path_step hg hz hwi hpi
      have hxlo:=hxo.lo
      have hxhi:=hxo.hi
      have hxf:=hxo.fit
      have hto:((x.to.toNat:Nat):Int)=x.to:=Int.toNat_of_nonneg (by omega)
      have hwr:=way_rank hwi
      have hml:((L.map (·.word)).map encWrd).length=L.length:=by simp
      have hgc:=fun A B hp hN=>hget0 A B hp x.to.toNat w.rank (by omega) (by omega) hN
      rw [hto] at hgc
      have hgv':getV g x.to.toNat w.rank=.tup [.agg (encWy w'),.bool true]:=by unfold getV;rw [hw']
      rcases ho with ⟨hLn,rfl,rfl⟩|⟨q,rfl,rfl⟩
      ·conv=>whnf
       repeat ((first|refine ix (by assumption) ?_|(refine ⟨_,_,.tail _ (.tail _ (.head _)),rfl,?_⟩)|refine gcall (wordW x.word (by have:=hxf.cl;unfold AMAX;omega) (by have:=hxf.us;unfold AMAX;omega)) ?_|refine ⟨_,_,Rem.here _,?_⟩|refine ⟨_,_,.head _,rfl,?_⟩|refine ⟨_,_,.tail _ (.head _),rfl,?_⟩|refine ⟨_,_,.here _,leOK,?_⟩|refine And.intro (by show drawOK (opsAt Tryz.f41 _) _=true;decide +kernel) ?_|intro (nb:Nat));conv=>whnf)
       refine ⟨Nat.le_of_ble_eq_true rfl,fun q=>?_⟩
       conv=>whnf
       repeat ((first|(refine ⟨_,_,.there (.there (.here _)),leOK,?_⟩)|refine ⟨_,_,.tail _ (.head _),rfl,?_⟩);conv=>whnf)
       refine ACalls.mono ?_ (hgc [(q,.tok),(wb,.vec (encWy w)),(rb,.vec [.sl 4 (some q) [encWrd x.word],.int .i64 p.1])] [] hp hN)
       clear hN
       rintro v h1 ⟨rfl,hp,hN,rfl⟩
       rw [hgv']
       conv=>whnf
       repeat ((refine ⟨_,_,.there (.here _),leOK,?_⟩);conv=>whnf)
       exact ⟨_,_,Turn.perm (List.perm_middle (l₁:=[_,_,_])).symm,_,(by omega),x.to.toNat,w.rank,w',p',L++[x],.sl 4 (some q) [encWrd x.word],[(q,.tok)],hp,rb,wb,by rw [hto],rfl,rfl,by omega,hw',hp',by rw [hL,hpe,List.append_assoc];rfl,by omega,.inr ⟨q,by rw [List.map_append,hLn];rfl,rfl⟩,hN,by rw [List.length_append];simp;omega⟩
      ·conv=>whnf
       repeat ((first|refine ix (by assumption) ?_|(refine ⟨_,_,.tail _ (.tail _ (.head _)),rfl,?_⟩)|refine gcall (wordW x.word (by have:=hxf.cl;unfold AMAX;omega) (by have:=hxf.us;unfold AMAX;omega)) ?_|refine ⟨_,_,Rem.here _,?_⟩|refine ⟨_,_,.head _,rfl,?_⟩|refine ⟨_,_,.tail _ (.head _),rfl,?_⟩|refine ⟨_,_,.here _,leOK,?_⟩|refine And.intro (by show drawOK (opsAt Tryz.f41 _) _=true;decide +kernel) ?_|intro (nb:Nat));conv=>whnf)
       refine ⟨(by rw [List.length_append,hml];simp;unfold AMAX;omega),fun q2=>⟨_,.there (.there (.there (.here _))),?_⟩⟩
       conv=>whnf
       repeat ((first|(refine ⟨_,_,.there (.here _),leOK,?_⟩)|refine ⟨_,_,.head _,rfl,?_⟩);conv=>whnf)
       refine ACalls.mono ?_ (hgc [(wb,.vec (encWy w)),(rb,.vec [.sl 4 (some q2) ((L.map (·.word)).map encWrd++[encWrd x.word]),.int .i64 p.1])] [(q2,.tok)] hp hN)
       clear hN
       rintro v h1 ⟨rfl,hp,hN,rfl⟩
       rw [hgv']
       conv=>whnf
       repeat (refine ⟨_,_,.here _,leOK,?_⟩;conv=>whnf)
       exact ⟨_,_,Turn.refl _ _,_,(by omega),x.to.toNat,w.rank,w',p',L++[x],.sl 4 (some q2) ((L.map (·.word)).map encWrd++[encWrd x.word]),[(q2,.tok)],hp,rb,wb,by rw [hto],rfl,rfl,by omega,hw',hp',by rw [hL,hpe,List.append_assoc];rfl,by omega,.inr ⟨q2,by rw [List.map_append,List.map_append];rfl,rfl⟩,hN,by rw [List.length_append];simp;omega⟩
     ·have hie:i=g.length:=by omega
      subst hie
      obtain ⟨hpn,_⟩:=path_ends hwi hpi
      conv=>whnf
      repeat ((first|(refine ⟨_,_,.there (.here _),leOK,?_⟩)|refine ⟨_,_,.tail _ (.head _),rfl,?_⟩);conv=>whnf)
      refine ⟨_,rfl,?_,hp,(wb,.vec (encWy w))::(rb,.vec [wv,.int .i64 p.1])::wh,hN,?_⟩
      ·unfold rdgV
       rw [hrp]
       show VLe _ (.tup [.agg [.sl 4 none ((p.2.map (·.word)).map encWrd),.int .i64 p.1],.bool true])
       rw [hL,hpn,List.append_nil]
       exact VLe.tup (.cons (VLe.agg (.cons (ho.le (by decide)) (.cons (VLe.refl _) .nil))) (.cons (VLe.refl _) .nil))
      ·exact (List.perm_middle (l₁:=[_,_])).trans (List.Perm.cons _ (List.perm_append_comm (l₁:=_::_::wh) (l₂:=hp)))
 ·rintro v h1 ⟨v',rfl,hv,hp',Z,hn',hpm⟩
  refine ⟨_,_,⟨rfl,hp',hn',rfl⟩,hv,fun k o hm=>hpm.mem_iff.2 (List.mem_append_left _ hm),fun hn=>?_⟩
  have:=((hpm.map (fun p:Nat × Ob=>p.1)).nodup_iff).1 hn
  unfold keys
  rw [List.map_append] at this
  exact (List.nodup_append.1 this).1
def rdsOf (g:List (List Edg)) (most:Nat):List Rdg:=((rdV g 0).take most).map pthR
def listErr (H:Hou) (line:List Int) (most:Int):Int:=if growErr H line≠0 then growErr H line else if 1≤most∧most≤64 then (if rdV (graphM H line) 0=[] then 52 else 0) else 1
def listL (H:Hou) (line:List Int) (most:Int):List Rdg:=if listErr H line most=0 then rdsOf (graphM H line) most.toNat else []
def c25:Cfg:=⟨[0,1,2,3,6,7,8,9,10,11,12,20,24,27,28,29,38,46],[],[11],[],[],[]⟩
theorem listW (H:Hou) (line:List Int) (most:Int) (hf:HouFit H) (hl:line.length≤1048576) :
  QCall Tryz.prog 25 [.agg (encHou H),.sl 1 none (ints line),.int .i64 most] [] (.tup [.sl 2 none ((listL H line most).map encRdg),.int .i64 (listErr H line most)]):=by
 have hgw:=growW H line hf hl
 refine QCall.of ?_
 refine fcalls (F:=Tryz.f25) c25 rfl rfl rfl mixed rfl fun X=>?_
 conv=>whnf
 repeat (refine QCall.k0 (hgw) ?_;conv=>whnf)
 refine ⟨fun h0=>?_,fun h0=>?_⟩<;>simp at h0
 ·have he:listErr H line most=growErr H line:=by unfold listErr;rw [if_pos h0]
  conv=>whnf
  skip
  unfold listL
  rw [he,if_neg h0]
  exact VLe.tup (.cons (VLe.nil (by decide)) (.cons (VLe.refl _) .nil))
 obtain ⟨hL,hsum,hg⟩:=growOK h0
 obtain ⟨g,hge⟩:∃ g,g=graphM H line:=⟨_,rfl⟩
 have hgv:growV H line=.iptr (encForest g (restT g)):=by rw [growV,if_pos h0,hge]
 have he0:listErr H line most=if 1≤most∧most≤64 then (if rdV g 0=[] then 52 else 0) else 1:=by unfold listErr;rw [if_neg (by omega),hge]
 have hl0:listL H line most=if listErr H line most=0 then rdsOf g most.toNat else []:=by unfold listL;rw [hge]
 rw [← hge] at hg hsum
 rw [hgv,h0]
 conv=>whnf
 repeat (refine QCall.k0 (within _ _ _) ?_;conv=>whnf)
 by_cases hm:1≤most∧most≤64
 rotate_left
 ·refine cT (by simp;omega) ?_
  conv=>whnf
  skip
  rw [hl0,he0,if_neg hm,if_neg (by decide)]
  exact VLe.tup (.cons (VLe.nil (by decide)) (.cons (VLe.refl _) .nil))
 rw [if_pos hm] at he0
 refine cF (by simp;omega) ?_
 conv=>whnf
 skip
 refine ACalls.mono ?_ (beginW g hg)
 rintro v h1 ⟨tb,ks,nq,nv,hp,rfl,hkl,hnv,hN,rfl⟩
 conv=>whnf
 skip
 refine tloop rfl mixed [6,9,27,28] [] (fun m r h=>∃ (j:Nat) (ov:AV) (oh hp:Heap),r=[(6,[],ov),(9,[],.optr tb 0),(27,[],.int .i64 most),(28,[],.int .i64 j)]∧h=(tb,tOb g (restT g) nv)::(oh++hp)∧m=65 - j∧(j:Int)≤most∧j≤(rdV g 0).length∧Out 2 encRdg (((rdV g 0).take j).map pthR) ov oh∧Nodes g 0 ks hp) ?_ ?_
 ·conv=>whnf
  exact ⟨_,_,Turn.refl _ _,_,0,.nilS,[],hp,rfl,rfl,rfl,by omega,by omega,.inl ⟨by simp,rfl,rfl⟩,hN⟩
 ·clear hN
  rintro m r h' ⟨j,ov,oh,hp,rfl,rfl,rfl,hjm,hjl,ho,hN⟩
  have htl:(((rdV g 0).take j).map pthR).length=j:=by rw [List.length_map,List.length_take];omega
  conv=>whnf
  refine ⟨fun hz=>?_,fun hz=>?_⟩<;>simp at hz
  ·have hrd:=readingW g hg tb (restT g) ks nq nv hkl hnv j (by omega) hp hN
   have pm:∀ hp:Heap,((tb,tOb g (restT g) nv)::hp++oh).Perm ((tb,tOb g (restT g) nv)::(oh++hp)):=fun hp=>List.Perm.cons _ List.perm_append_comm
   have hrd2:=ACalls.re (R':=fun v H'=>v=rdgV g j∧∃ hp',Nodes g 0 ks hp'∧H'=(tb,tOb g (restT g) nv)::(oh++hp')) hrd (pm hp) (by
    rintro v h1 ⟨rfl,hp',hn',rfl⟩
    exact ⟨_,pm hp',rfl,hp',hn',rfl⟩)
   conv=>whnf
   skip
   refine ACalls.mono ?_ hrd2
   clear hN hrd hrd2
   rintro v h1 ⟨rfl,hp,hN,rfl⟩
   cases hrp:(rdV g 0)[j]? with
   | none=>
     have hrv:rdgV g j=.tup [.agg [.nilS,.int .i64 0],.bool false]:=by unfold rdgV;rw [hrp]
     have hje:(rdV g 0).take j=(rdV g 0).take most.toNat:=by
      rw [List.getElem?_eq_none_iff] at hrp
      rw [List.take_of_length_le hrp,List.take_of_length_le (by omega)]
     rw [hrv]
     conv=>whnf
     repeat ((first|refine ⟨_,_,Rem.here _,⟨Nat.le_of_ble_eq_true rfl,rfl⟩,?_⟩|intro (nb:Nat));conv=>whnf)
     refine cT rfl ?_
     rw [hje] at ho htl
     by_cases hz3:rdV g 0=[]
     ·rcases ho with ⟨hn,rfl,rfl⟩|⟨q,rfl,rfl⟩
      all_goals
       conv=>whnf
       skip
       refine cT (by simp [hz3]) ?_
       conv=>whnf
       skip
       rw [hl0,he0,if_pos hz3,if_neg (by decide)]
       exact VLe.tup (.cons (VLe.nil (by decide)) (.cons (VLe.refl _) .nil))
     ·have hpos:0<(((rdV g 0).take most.toNat).map pthR).length:=by
       rw [List.length_map,List.length_take]
       have:=List.length_pos_iff.2 hz3
       omega
      rcases ho with ⟨hn,rfl,rfl⟩|⟨q,rfl,rfl⟩
      ·rw [hn] at hpos;simp at hpos
      ·conv=>whnf
       skip
       refine cF (decide_eq_false (by rw [List.length_map];omega)) ?_
       conv=>whnf
       skip
       rw [hl0,he0,if_neg hz3,if_pos rfl]
       exact VLe.tup (.cons VLe.sl (.cons (VLe.refl _) .nil))
   | some p=>
     have hrv:rdgV g j=.tup [.agg (encRdg (pthR p)),.bool true]:=by unfold rdgV;rw [hrp]
     have hjl2:=(List.getElem?_eq_some_iff.1 hrp).1
     have hts:((rdV g 0).take (j+1)).map pthR=((rdV g 0).take j).map pthR++[pthR p]:=by rw [take_snoc hrp,List.map_append];rfl
     have hml:((((rdV g 0).take j).map pthR).map encRdg).length=j:=by rw [List.length_map];exact htl
     rw [hrv]
     rcases ho with ⟨hn,rfl,rfl⟩|⟨q,rfl,rfl⟩
     ·conv=>whnf
      repeat ((first|refine ⟨_,_,Rem.here _,⟨Nat.le_of_ble_eq_true rfl,rfl⟩,?_⟩|intro (nb:Nat));conv=>whnf)
      refine cF rfl ?_
      conv=>whnf
      repeat ((first|refine ⟨gP_of ⟨by omega,by omega⟩,?_⟩|(refine ⟨Nat.le_of_ble_eq_true rfl,fun q=>?_⟩));conv=>whnf)
      exact ⟨_,_,Turn.perm (List.Perm.swap _ _ _),_,(by omega),j+1,_,[(q,.tok)],hp,rfl,rfl,rfl,by omega,by omega,.inr ⟨q,by rw [hts,hn];rfl,rfl⟩,hN⟩
     ·conv=>whnf
      repeat ((first|refine ⟨_,_,Rem.here _,⟨Nat.le_of_ble_eq_true rfl,rfl⟩,?_⟩|intro (nb:Nat));conv=>whnf)
      refine cF rfl ?_
      conv=>whnf
      repeat ((first|refine ⟨gP_of ⟨by omega,by omega⟩,?_⟩|(refine ⟨(by rw [List.length_append,hml];simp;unfold AMAX;omega),fun q2=>⟨_,.there (.here _),?_⟩⟩));conv=>whnf)
      exact ⟨_,_,Turn.refl _ _,_,(by omega),j+1,_,[(q2,.tok)],hp,rfl,rfl,rfl,by omega,by omega,.inr ⟨q2,by rw [hts,List.map_append];rfl,rfl⟩,hN⟩
  ·have hje:(rdV g 0).take j=(rdV g 0).take most.toNat:=by rw [show j=most.toNat by omega]
   rw [hje] at ho htl
   by_cases hz3:rdV g 0=[]
   ·rcases ho with ⟨hn,rfl,rfl⟩|⟨q,rfl,rfl⟩
    all_goals
     conv=>whnf
     skip
     refine cT (by simp [hz3]) ?_
     conv=>whnf
     skip
     rw [hl0,he0,if_pos hz3,if_neg (by decide)]
     exact VLe.tup (.cons (VLe.nil (by decide)) (.cons (VLe.refl _) .nil))
   ·have hpos:0<(((rdV g 0).take most.toNat).map pthR).length:=by
     rw [List.length_map,List.length_take]
     have:=List.length_pos_iff.2 hz3
     omega
    rcases ho with ⟨hn,rfl,rfl⟩|⟨q,rfl,rfl⟩
    ·rw [hn] at hpos;simp at hpos
    ·conv=>whnf
     skip
     refine cF (decide_eq_false (by rw [List.length_map];omega)) ?_
     conv=>whnf
     skip
     rw [hl0,he0,if_neg hz3,if_pos rfl]
     exact VLe.tup (.cons VLe.sl (.cons (VLe.refl _) .nil))
end Go.Abs.Wall.Lst
namespace Go.Abs.Wall.Lst
open Go Go.Abs Go.Proofs Go.Abs.Wall
def sumC (p:List Edg):Int:=(p.map (·.cost)).sum
end Go.Abs.Wall.Lst
