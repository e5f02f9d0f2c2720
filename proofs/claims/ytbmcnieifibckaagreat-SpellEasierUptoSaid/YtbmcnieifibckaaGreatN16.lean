/- What is proved: small laws for the walks of this seat, and contracts of its functions. No condition but those each theorem names. -/
import Derived.Test.YtbmcnieifibckaaGreatN15
set_option maxRecDepth 100000
set_option maxHeartbeats 2000000
set_option linter.unusedVariables false
set_option linter.unusedSimpArgs false
namespace Go.Abs.Wall.Lst
open Go Go.Abs Go.Proofs Go.Abs.Wall
def pthR (p:Pth):Rdg:=⟨p.2.map (·.word),p.1⟩
theorem path_step {g:List (List Edg)} (hg:GOK g) {i ρ:Nat} (hi:i<g.length) {w:Wy} {p:Pth} (hw:(wayAt g i)[ρ]?=some w) (hp:(rdV g i)[ρ]?=some p) :
  ∃ es x w' p',g[i]?=some es∧es[w.edge]?=some x∧EdgOK g.length i x∧(wayAt g x.to.toNat)[w.rank]?=some w'∧(rdV g x.to.toNat)[w.rank]?=some p'∧p=(w.cost,x::p'.2):=by
 obtain ⟨es,hes⟩:=get_lt hi
 have hE:=hg.edge i es hes
 rw [rdV_cons hes hE,List.getElem?_map] at hp
 unfold wayAt at hw
 rw [hes] at hw
 simp only at hw
 rw [hw] at hp
 have hp:mkR es (fun x=>rdV g x.to.toNat) w=p:=by simpa using hp
 obtain ⟨_,l,h2,h3⟩:=mgW_cand hw
 have hlt:=(List.getElem?_eq_some_iff.1 h2).1
 rw [clsG_len] at hlt
 obtain ⟨x,hx⟩:=get_lt hlt
 have ho:=hE x (List.mem_of_getElem? hx)
 obtain ⟨l',e1,e2⟩:=clsG_get hg hes hx
 rw [h2] at e1;cases e1
 rw [e2] at h3
 cases hq:(wayAt g x.to.toNat)[w.rank]? with
 | none=>rw [hq] at h3;cases h3
 | some w'=>
   have:=wayAt_rd hg (i:=x.to.toNat) (by have:=ho.hi;omega) w.rank
   rw [hq] at this
   cases hr:(rdV g x.to.toNat)[w.rank]? with
   | none=>rw [hr] at this;cases this
   | some p'=>
     refine ⟨es,x,w',p',hes,hx,ho,hq,hr,?_⟩
     rw [← hp]
     unfold mkR
     rw [hx]
     simp only
     rw [List.getD_eq_getElem?_getD,hr]
     rfl
theorem path_ends {g:List (List Edg)} {ρ:Nat} {w:Wy} {p:Pth} (hw:(wayAt g g.length)[ρ]?=some w) (hp:(rdV g g.length)[ρ]?=some p):p.2=[]∧ρ=0:=by
 rw [rdV_end] at hp
 cases ρ with
 | zero=>simp at hp;subst hp;exact ⟨rfl,rfl⟩
 | succ n=>simp at hp
theorem way_rank {g:List (List Edg)} {i ρ:Nat} {w:Wy} (hw:(wayAt g i)[ρ]?=some w):w.rank≤ρ:=by
 unfold wayAt at hw
 split at hw
 ·cases ρ with
  | zero=>simp at hw;subst hw;exact Nat.le_refl _
  | succ n=>simp at hw
 ·exact mgW_rank hw
def c148:Cfg:=⟨[0,1,4,5,6,7,8,17,31],[],[8],[],[(7,[0,1,2,3,4,5,6,7,8,9,10,11,12,13,14,15],[8]),(8,[0,1,2,3,4,5,6,7,8],[])],[]⟩
def rdgV (g:List (List Edg)) (rank:Nat):AV:=match (rdV g 0)[rank]? with
 | none=>.tup [.agg [.nilS,.int .i64 0],.bool false]
 | some p=>.tup [.agg (encRdg (pthR p)),.bool true]
theorem readingW (g:List (List Edg)) (hg:GOK g) (tb:Nat) (R:List Int) (ks:List Nat) (nq:Option Nat) (nv:AV) (hkl:ks.length=g.length) (hnv:g=[]∨nv=.sl 1 nq (ks.map encKey)) (rank:Nat) (hr:rank≤64) (hp:Heap) (hN:Nodes g 0 ks hp) :
  ACalls Tryz.prog 148 [.optr tb 0,.int .i64 rank] ((tb,tOb g R nv)::hp) (fun v h'=>v=rdgV g rank∧∃ hp',Nodes g 0 ks hp'∧h'=(tb,tOb g R nv)::hp'):=by
 have hgf:=hg.few
 have hget0:∀ (A B:Heap) (hp:Heap) (i r:Nat),i≤g.length→r≤64→Nodes g 0 ks hp→ACalls Tryz.prog 216 [.optr tb 0,.int .i64 i,.int .i64 r] (A++(tb,tOb g R nv)::(B++hp)) (fun v h'=>v=getV g i r∧∃ hp',Nodes g 0 ks hp'∧h'=A++(tb,tOb g R nv)::(B++hp')):=by
  intro A B hp i r hi hr hN
  obtain ⟨hA,hB,rfl,nA,nB⟩:=hN.split i (by omega)
  rw [Nat.zero_add] at nB
  have htl:(ks.take i).length=i:=by rw [List.length_take];omega
  have h1:=getAll g hg (g.length - i) i (by omega) tb R (ks.take i) (ks.drop i) nq nv r hB htl (by rw [List.take_append_drop];exact hkl) (by rw [List.take_append_drop];exact hnv) nB hr
  have pm:∀ hB:Heap,((tb,tOb g R nv)::hB++(A++(B++hA))).Perm (A++(tb,tOb g R nv)::(B++(hA++hB))):=fun hB=>
   (List.Perm.cons _ perm3).trans List.perm_middle.symm
  refine ACalls.re h1 (h2:=A++(B++hA)) (pm hB) ?_
  rintro v h3 ⟨rfl,hp',hn',rfl⟩
  refine ⟨_,pm hp',rfl,hA++hp',?_,rfl⟩
  have:=nA.join (by rw [htl,Nat.zero_add];exact hn')
  rwa [List.take_append_drop] at this
 refine ACalls.post (R:=fun v h'=>∃ v',v'=rdgV g rank∧VLe v v'∧∃ hp' Z,Nodes g 0 ks hp'∧h'.Perm ((tb,tOb g R nv)::hp'++Z)) ?_ ?_
 ·refine fcalls (F:=Tryz.f148) c148 rfl rfl rfl mixed rfl fun X=>?_
  conv=>whnf
  intro rb
  conv=>whnf
  skip
  refine ACalls.mono ?_ (hget0 [(rb,.vec [.nilS,.int .i64 0])] [] hp 0 rank (by omega) hr hN)
  clear hN
  rintro v h1 ⟨rfl,hp,hN,rfl⟩
  cases hw:(wayAt g 0)[rank]? with
  | none=>
    have hgv:getV g 0 rank=.tup [.agg (encWy wy0),.bool false]:=by unfold getV;rw [hw]
    rw [hgv]
    conv=>whnf
    intro wb
    conv=>whnf
    repeat (refine ⟨_,_,.here _,leOK,?_⟩;conv=>whnf)
    refine cT rfl ?_
    conv=>whnf
    repeat ((first|(refine ⟨_,_,.there (.here _),leOK,?_⟩)|refine ⟨_,_,.tail _ (.head _),rfl,?_⟩);conv=>whnf)
    have hrn:(rdV g 0)[rank]?=none:=by
     have:=wayAt_rd hg (i:=0) (by omega) rank
     rw [hw] at this
     cases hq:(rdV g 0)[rank]? with
     | none=>rfl
     | some p=>rw [hq] at this;cases this
    refine ⟨_,rfl,?_,hp,[(wb,_),(rb,_)],hN,(List.perm_append_comm (l₁:=[_,_]) (l₂:=(tb,tOb g R nv)::hp))⟩
    unfold rdgV
    rw [hrn]
    exact VLe.refl _
  | some w0=>
    have hgv:getV g 0 rank=.tup [.agg (encWy w0),.bool true]:=by unfold getV;rw [hw]
    obtain ⟨p,hrp⟩:∃ p,(rdV g 0)[rank]?=some p:=by
     have:=wayAt_rd hg (i:=0) (by omega) rank
     rw [hw] at this
     cases hq:(rdV g 0)[rank]? with
     | none=>rw [hq] at this;cases this
     | some p=>exact ⟨p,rfl⟩
    have hpc:p.1=w0.cost:=by
     have:=wayAt_rd hg (i:=0) (by omega) rank
     rw [hw,hrp] at this
     simpa using this
    rw [hgv]
    conv=>whnf
    intro wb
    conv=>whnf
    repeat (refine ⟨_,_,.here _,leOK,?_⟩;conv=>whnf)
    refine cF rfl ?_
    conv=>whnf
    repeat ((first|(refine ⟨_,_,.there (.here _),leOK,?_⟩)|refine ⟨_,_,.head _,rfl,?_⟩);conv=>whnf)
    refine tloop rfl mixed [0,4,6,7] [] (fun m r h=>∃ (i ρ:Nat) (w:Wy) (pc:Pth) (L:List Edg) (wv:AV) (wh hp:Heap) (rb wb:Nat),r=[(0,[],.optr tb 0),(4,[],.optr rb 0),(6,[],.int .i64 i),(7,[],.optr wb 0)]∧h=(wb,.vec (encWy w))::(rb,.vec [wv,.int .i64 p.1])::(tb,tOb g R nv)::(wh++hp)∧m=g.length - i∧i≤g.length∧(wayAt g i)[ρ]?=some w∧(rdV g i)[ρ]?=some pc∧p.2=L++pc.2∧ρ≤64∧Out 4 encWrd (L.map (·.word)) wv wh∧Nodes g 0 ks hp∧L.length≤i) ?_ ?_
    ·conv=>whnf
     exact ⟨_,_,Turn.refl _ _,_,0,rank,w0,p,[],.nilS,[],hp,rb,wb,rfl,by rw [hpc];rfl,rfl,by omega,hw,hrp,rfl,hr,.inl ⟨rfl,rfl,rfl⟩,hN,Nat.le_refl _⟩
    ·clear hN
     rintro m r h' ⟨i,ρ,w,pc,L,wv,wh,hp,rb,wb,rfl,rfl,rfl,hi,hwi,hpi,hL,hρ,ho,hN,hLi⟩
     conv=>whnf
     repeat ((refine ⟨_,_,.tail _ (.tail _ (.head _)),rfl,?_⟩);conv=>whnf)
     refine ⟨fun hz=>?_,fun hz=>?_⟩<;>simp at hz
     ·obtain ⟨es,x,w',p',hes,hx,hxo,hw',hp',hpe⟩:=path_step hg hz hwi hpi
      have hxlo:=hxo.lo
      have hxhi:=hxo.hi
      have hxf:=hxo.fit
      have hto:((x.to.toNat:Nat):Int)=x.to:=Int.toNat_of_nonneg (by omega)
      have hwr:=way_rank hwi
      have hml:((L.map (·.word)).map encWrd).length=L.length:=by simp
      have hgc:=fun A B hp hN=>hget0 A B hp x.to.toNat w.rank (by omega) (by omega) hN
      rw [hto] at hgc
      have hgv':getV g x.to.toNat w.rank=.tup [.agg (encWy w'),.bool true]:=by unfold getV;rw [hw']
      rcases ho with ⟨hLn,rfl,rfl⟩|⟨q,rfl,rfl⟩
      ·conv=>whnf
       repeat ((first|refine ix (by assumption) ?_|(refine ⟨_,_,.tail _ (.tail _ (.head _)),rfl,?_⟩)|refine gcall (wordW x.word (by have:=hxf.cl;unfold AMAX;omega) (by have:=hxf.us;unfold AMAX;omega)) ?_|refine ⟨_,_,Rem.here _,?_⟩|refine ⟨_,_,.head _,rfl,?_⟩|refine ⟨_,_,.tail _ (.head _),rfl,?_⟩|refine ⟨_,_,.here _,leOK,?_⟩|refine And.intro (by show drawOK (opsAt Tryz.f148 _) _=true;decide +kernel) ?_|intro (nb:Nat));conv=>whnf)
       refine ⟨Nat.le_of_ble_eq_true rfl,fun q=>?_⟩
       conv=>whnf
       repeat ((first|(refine ⟨_,_,.there (.there (.here _)),leOK,?_⟩)|refine ⟨_,_,.tail _ (.head _),rfl,?_⟩);conv=>whnf)
       refine ACalls.mono ?_ (hgc [(q,.tok),(wb,.vec (encWy w)),(rb,.vec [.sl 4 (some q) [encWrd x.word],.int .i64 p.1])] [] hp hN)
       clear hN
       rintro v h1 ⟨rfl,hp,hN,rfl⟩
       rw [hgv']
       conv=>whnf
       repeat ((refine ⟨_,_,.there (.here _),leOK,?_⟩);conv=>whnf)
       exact ⟨_,_,Turn.perm (List.perm_middle (l₁:=[_,_,_])).symm,_,(by omega),x.to.toNat,w.rank,w',p',L++[x],.sl 4 (some q) [encWrd x.word],[(q,.tok)],hp,rb,wb,by rw [hto],rfl,rfl,by omega,hw',hp',by rw [hL,hpe,List.append_assoc];rfl,by omega,.inr ⟨q,by rw [List.map_append,hLn];rfl,rfl⟩,hN,by rw [List.length_append];simp;omega⟩
      ·conv=>whnf
       repeat ((first|refine ix (by assumption) ?_|(refine ⟨_,_,.tail _ (.tail _ (.head _)),rfl,?_⟩)|refine gcall (wordW x.word (by have:=hxf.cl;unfold AMAX;omega) (by have:=hxf.us;unfold AMAX;omega)) ?_|refine ⟨_,_,Rem.here _,?_⟩|refine ⟨_,_,.head _,rfl,?_⟩|refine ⟨_,_,.tail _ (.head _),rfl,?_⟩|refine ⟨_,_,.here _,leOK,?_⟩|refine And.intro (by show drawOK (opsAt Tryz.f148 _) _=true;decide +kernel) ?_|intro (nb:Nat));conv=>whnf)
       refine ⟨(by rw [List.length_append,hml];simp;unfold AMAX;omega),fun q2=>⟨_,.there (.there (.there (.here _))),?_⟩⟩
       conv=>whnf
       repeat ((first|(refine ⟨_,_,.there (.here _),leOK,?_⟩)|refine ⟨_,_,.head _,rfl,?_⟩);conv=>whnf)
       refine ACalls.mono ?_ (hgc [(wb,.vec (encWy w)),(rb,.vec [.sl 4 (some q2) ((L.map (·.word)).map encWrd++[encWrd x.word]),.int .i64 p.1])] [(q2,.tok)] hp hN)
       clear hN
       rintro v h1 ⟨rfl,hp,hN,rfl⟩
       rw [hgv']
       conv=>whnf
       repeat (refine ⟨_,_,.here _,leOK,?_⟩;conv=>whnf)
       exact ⟨_,_,Turn.refl _ _,_,(by omega),x.to.toNat,w.rank,w',p',L++[x],.sl 4 (some q2) ((L.map (·.word)).map encWrd++[encWrd x.word]),[(q2,.tok)],hp,rb,wb,by rw [hto],rfl,rfl,by omega,hw',hp',by rw [hL,hpe,List.append_assoc];rfl,by omega,.inr ⟨q2,by rw [List.map_append,List.map_append];rfl,rfl⟩,hN,by rw [List.length_append];simp;omega⟩
     ·have hie:i=g.length:=by omega
      subst hie
      obtain ⟨hpn,_⟩:=path_ends hwi hpi
      conv=>whnf
      repeat ((first|(refine ⟨_,_,.there (.here _),leOK,?_⟩)|refine ⟨_,_,.tail _ (.head _),rfl,?_⟩);conv=>whnf)
      refine ⟨_,rfl,?_,hp,(wb,.vec (encWy w))::(rb,.vec [wv,.int .i64 p.1])::wh,hN,?_⟩
      ·unfold rdgV
       rw [hrp]
       show VLe _ (.tup [.agg [.sl 4 none ((p.2.map (·.word)).map encWrd),.int .i64 p.1],.bool true])
       rw [hL,hpn,List.append_nil]
       exact VLe.tup (.cons (VLe.agg (.cons (ho.le (by decide)) (.cons (VLe.refl _) .nil))) (.cons (VLe.refl _) .nil))
      ·exact (List.perm_middle (l₁:=[_,_])).trans (List.Perm.cons _ (List.perm_append_comm (l₁:=_::_::wh) (l₂:=hp)))
 ·rintro v h1 ⟨v',rfl,hv,hp',Z,hn',hpm⟩
  refine ⟨_,_,⟨rfl,hp',hn',rfl⟩,hv,fun k o hm=>hpm.mem_iff.2 (List.mem_append_left _ hm),fun hn=>?_⟩
  have:=((hpm.map (fun p:Nat × Ob=>p.1)).nodup_iff).1 hn
  unfold keys
  rw [List.map_append] at this
  exact (List.nodup_append.1 this).1
def rdsOf (g:List (List Edg)) (most:Nat):List Rdg:=((rdV g 0).take most).map pthR
def listErr (H:Hou) (line:List Int) (most:Int):Int:=if growErr H line≠0 then growErr H line else if 1≤most∧most≤64 then (if rdV (graphM H line) 0=[] then 52 else 0) else 1
def listL (H:Hou) (line:List Int) (most:Int):List Rdg:=if listErr H line most=0 then rdsOf (graphM H line) most.toNat else []
def c91:Cfg:=⟨[0,1,2,3,6,7,8,9,10,11,12,20,24,27,28,29,38,46],[],[11],[],[],[]⟩
theorem listW (H:Hou) (line:List Int) (most:Int) (hf:HouFit H) (hl:line.length≤1048576) :
  QCall Tryz.prog 91 [.agg (encHou H),.sl 1 none (ints line),.int .i64 most] [] (.tup [.sl 2 none ((listL H line most).map encRdg),.int .i64 (listErr H line most)]):=by
 have hgw:=growW H line hf hl
 refine QCall.of ?_
 refine fcalls (F:=Tryz.f91) c91 rfl rfl rfl mixed rfl fun X=>?_
 conv=>whnf
 repeat (refine QCall.k0 (hgw) ?_;conv=>whnf)
 refine ⟨fun h0=>?_,fun h0=>?_⟩<;>simp at h0
 ·have he:listErr H line most=growErr H line:=by unfold listErr;rw [if_pos h0]
  conv=>whnf
  skip
  unfold listL
  rw [he,if_neg h0]
  exact VLe.tup (.cons (VLe.nil (by decide)) (.cons (VLe.refl _) .nil))
 obtain ⟨hL,hsum,hg⟩:=growOK h0
 obtain ⟨g,hge⟩:∃ g,g=graphM H line:=⟨_,rfl⟩
 have hgv:growV H line=.iptr (encForest g (restT g)):=by rw [growV,if_pos h0,hge]
 have he0:listErr H line most=if 1≤most∧most≤64 then (if rdV g 0=[] then 52 else 0) else 1:=by unfold listErr;rw [if_neg (by omega),hge]
 have hl0:listL H line most=if listErr H line most=0 then rdsOf g most.toNat else []:=by unfold listL;rw [hge]
 rw [← hge] at hg hsum
 rw [hgv,h0]
 conv=>whnf
 repeat (refine QCall.k0 (within _ _ _) ?_;conv=>whnf)
 by_cases hm:1≤most∧most≤64
 rotate_left
 ·refine cT (by simp;omega) ?_
  conv=>whnf
  skip
  rw [hl0,he0,if_neg hm,if_neg (by decide)]
  exact VLe.tup (.cons (VLe.nil (by decide)) (.cons (VLe.refl _) .nil))
 rw [if_pos hm] at he0
 refine cF (by simp;omega) ?_
 conv=>whnf
 skip
 refine ACalls.mono ?_ (beginW g hg)
 rintro v h1 ⟨tb,ks,nq,nv,hp,rfl,hkl,hnv,hN,rfl⟩
 conv=>whnf
 skip
 refine tloop rfl mixed [6,9,27,28] [] (fun m r h=>∃ (j:Nat) (ov:AV) (oh hp:Heap),r=[(6,[],ov),(9,[],.optr tb 0),(27,[],.int .i64 most),(28,[],.int .i64 j)]∧h=(tb,tOb g (restT g) nv)::(oh++hp)∧m=65 - j∧(j:Int)≤most∧j≤(rdV g 0).length∧Out 2 encRdg (((rdV g 0).take j).map pthR) ov oh∧Nodes g 0 ks hp) ?_ ?_
 ·conv=>whnf
  exact ⟨_,_,Turn.refl _ _,_,0,.nilS,[],hp,rfl,rfl,rfl,by omega,by omega,.inl ⟨by simp,rfl,rfl⟩,hN⟩
 ·clear hN
  rintro m r h' ⟨j,ov,oh,hp,rfl,rfl,rfl,hjm,hjl,ho,hN⟩
  have htl:(((rdV g 0).take j).map pthR).length=j:=by rw [List.length_map,List.length_take];omega
  conv=>whnf
  refine ⟨fun hz=>?_,fun hz=>?_⟩<;>simp at hz
  ·have hrd:=readingW g hg tb (restT g) ks nq nv hkl hnv j (by omega) hp hN
   have pm:∀ hp:Heap,((tb,tOb g (restT g) nv)::hp++oh).Perm ((tb,tOb g (restT g) nv)::(oh++hp)):=fun hp=>List.Perm.cons _ List.perm_append_comm
   have hrd2:=ACalls.re (R':=fun v H'=>v=rdgV g j∧∃ hp',Nodes g 0 ks hp'∧H'=(tb,tOb g (restT g) nv)::(oh++hp')) hrd (pm hp) (by
    rintro v h1 ⟨rfl,hp',hn',rfl⟩
    exact ⟨_,pm hp',rfl,hp',hn',rfl⟩)
   conv=>whnf
   skip
   refine ACalls.mono ?_ hrd2
   clear hN hrd hrd2
   rintro v h1 ⟨rfl,hp,hN,rfl⟩
   cases hrp:(rdV g 0)[j]? with
   | none=>
     have hrv:rdgV g j=.tup [.agg [.nilS,.int .i64 0],.bool false]:=by unfold rdgV;rw [hrp]
     have hje:(rdV g 0).take j=(rdV g 0).take most.toNat:=by
      rw [List.getElem?_eq_none_iff] at hrp
      rw [List.take_of_length_le hrp,List.take_of_length_le (by omega)]
     rw [hrv]
     conv=>whnf
     repeat ((first|refine ⟨_,_,Rem.here _,⟨Nat.le_of_ble_eq_true rfl,rfl⟩,?_⟩|intro (nb:Nat));conv=>whnf)
     refine cT rfl ?_
     rw [hje] at ho htl
     by_cases hz3:rdV g 0=[]
     ·rcases ho with ⟨hn,rfl,rfl⟩|⟨q,rfl,rfl⟩
      all_goals
       conv=>whnf
       skip
       refine cT (by simp [hz3]) ?_
       conv=>whnf
       skip
       rw [hl0,he0,if_pos hz3,if_neg (by decide)]
       exact VLe.tup (.cons (VLe.nil (by decide)) (.cons (VLe.refl _) .nil))
     ·have hpos:0<(((rdV g 0).take most.toNat).map pthR).length:=by
       rw [List.length_map,List.length_take]
       have:=List.length_pos_iff.2 hz3
       omega
      rcases ho with ⟨hn,rfl,rfl⟩|⟨q,rfl,rfl⟩
      ·rw [hn] at hpos;simp at hpos
      ·conv=>whnf
       skip
       refine cF (decide_eq_false (by rw [List.length_map];omega)) ?_
       conv=>whnf
       skip
       rw [hl0,he0,if_neg hz3,if_pos rfl]
       exact VLe.tup (.cons VLe.sl (.cons (VLe.refl _) .nil))
   | some p=>
     have hrv:rdgV g j=.tup [.agg (encRdg (pthR p)),.bool true]:=by unfold rdgV;rw [hrp]
     have hjl2:=(List.getElem?_eq_some_iff.1 hrp).1
     have hts:((rdV g 0).take (j+1)).map pthR=((rdV g 0).take j).map pthR++[pthR p]:=by rw [take_snoc hrp,List.map_append];rfl
     have hml:((((rdV g 0).take j).map pthR).map encRdg).length=j:=by rw [List.length_map];exact htl
     rw [hrv]
     rcases ho with ⟨hn,rfl,rfl⟩|⟨q,rfl,rfl⟩
     ·conv=>whnf
      repeat ((first|refine ⟨_,_,Rem.here _,⟨Nat.le_of_ble_eq_true rfl,rfl⟩,?_⟩|intro (nb:Nat));conv=>whnf)
      refine cF rfl ?_
      conv=>whnf
      repeat ((first|refine ⟨gP_of ⟨by omega,by omega⟩,?_⟩|(refine ⟨Nat.le_of_ble_eq_true rfl,fun q=>?_⟩));conv=>whnf)
      exact ⟨_,_,Turn.perm (List.Perm.swap _ _ _),_,(by omega),j+1,_,[(q,.tok)],hp,rfl,rfl,rfl,by omega,by omega,.inr ⟨q,by rw [hts,hn];rfl,rfl⟩,hN⟩
     ·conv=>whnf
      repeat ((first|refine ⟨_,_,Rem.here _,⟨Nat.le_of_ble_eq_true rfl,rfl⟩,?_⟩|intro (nb:Nat));conv=>whnf)
      refine cF rfl ?_
      conv=>whnf
      repeat ((first|refine ⟨gP_of ⟨by omega,by omega⟩,?_⟩|(refine ⟨(by rw [List.length_append,hml];simp;unfold AMAX;omega),fun q2=>⟨_,.there (.here _),?_⟩⟩));conv=>whnf)
      exact ⟨_,_,Turn.refl _ _,_,(by omega),j+1,_,[(q2,.tok)],hp,rfl,rfl,rfl,by omega,by omega,.inr ⟨q2,by rw [hts,List.map_append];rfl,rfl⟩,hN⟩
  ·have hje:(rdV g 0).take j=(rdV g 0).take most.toNat:=by rw [show j=most.toNat by omega]
   rw [hje] at ho htl
   by_cases hz3:rdV g 0=[]
   ·rcases ho with ⟨hn,rfl,rfl⟩|⟨q,rfl,rfl⟩
    all_goals
     conv=>whnf
     skip
     refine cT (by simp [hz3]) ?_
     conv=>whnf
     skip
     rw [hl0,he0,if_pos hz3,if_neg (by decide)]
     exact VLe.tup (.cons (VLe.nil (by decide)) (.cons (VLe.refl _) .nil))
   ·have hpos:0<(((rdV g 0).take most.toNat).map pthR).length:=by
     rw [List.length_map,List.length_take]
     have:=List.length_pos_iff.2 hz3
     omega
    rcases ho with ⟨hn,rfl,rfl⟩|⟨q,rfl,rfl⟩
    ·rw [hn] at hpos;simp at hpos
    ·conv=>whnf
     skip
     refine cF (decide_eq_false (by rw [List.length_map];omega)) ?_
     conv=>whnf
     skip
     rw [hl0,he0,if_neg hz3,if_pos rfl]
     exact VLe.tup (.cons VLe.sl (.cons (VLe.refl _) .nil))
end Go.Abs.Wall.Lst
namespace Go.Abs.Wall.Lst
open Go Go.Abs Go.Proofs Go.Abs.Wall
def sumC (p:List Edg):Int:=(p.map (·.cost)).sum
def encT:List Edg→List AV
 | []=>[.int .i64 0,.int .i64 0,.nilS,.nilS,.nilP]
 | x::r=>encWrd x.word++[.iptr (.int .i64 (sumC r)::encT r)]
def encN (p:List Edg):List AV:=.int .i64 (sumC p)::encT p
def encR (p:List Edg):List AV:=[.iptr (encN p)]
def encS (l:List (List Edg)):List AV:=[.sl 1 none (l.map encR)]
theorem encS_len (l:List (List Edg)):(encS l).length=1:=rfl
def clsS (ls:List (List (List Edg))):List (List Int):=ls.map fun l=>l.map sumC
def selW (ls:List (List (List Edg))) (w:Wy):List Edg:=(ls.getD w.edge []).getD w.rank []
def curL (ls:List (List (List Edg))) (rs:Nat→Nat):List (List (List Edg)):=ls.mapIdx fun k l=>l.drop (rs k)
theorem curL_len (ls:List (List (List Edg))) (rs:Nat→Nat):(curL ls rs).length=ls.length:=by simp [curL]
theorem curL_get {ls:List (List (List Edg))} {rs:Nat→Nat} {k:Nat} {l:List (List Edg)} (h:ls[k]?=some l):(curL ls rs)[k]?=some (l.drop (rs k)):=by
 unfold curL
 rw [List.getElem?_mapIdx,h];rfl
theorem curL_up {ls:List (List (List Edg))} {rs:Nat→Nat} {k:Nat} {l:List (List Edg)} (h:ls[k]?=some l):(curL ls rs).set k ((l.drop (rs k)).drop 1)=curL ls (up rs k):=by
 refine List.ext_getElem? fun j=>?_
 by_cases hj:j=k
 ·subst hj
  rw [List.getElem?_set_self (by rw [curL_len];exact (List.getElem?_eq_some_iff.1 h).1),curL_get h,List.drop_drop]
  unfold up
  rw [if_pos rfl,Nat.add_comm]
 ·rw [List.getElem?_set_ne (Ne.symm hj)]
  unfold curL
  rw [List.getElem?_mapIdx,List.getElem?_mapIdx]
  unfold up
  rw [if_neg hj]
theorem curL_zero (ls:List (List (List Edg))):curL ls zro=ls:=by
 unfold curL zro
 refine List.ext_getElem? fun j=>?_
 rw [List.getElem?_mapIdx]
 cases ls[j]?<;>rfl
def BestTo (cur:List (List (List Edg))) (i:Nat) (b:Int):Prop:=
 (b = -1∧∀ j l,j<i→cur[j]?=some l→l=[]) ∨
 ∃ (k:Nat) (p:List Edg) (r:List (List Edg)),b=(k:Int)∧k<i∧cur[k]?=some (p::r)∧∀ (j:Nat) q s,j<i→cur[j]?=some (q::s)→sumC p<sumC q∨(sumC p=sumC q∧k≤j)
theorem BestTo.lt {cur:List (List (List Edg))} {i:Nat} {b:Int} {n:Nat} (h:BestTo cur i b) (hi:i≤n):-1≤b∧b<n:=by
 rcases h with ⟨rfl,_⟩|⟨k,p,r,rfl,hk,_⟩<;>omega
theorem BestTo.full {cur:List (List (List Edg))} {i:Nat} {b:Int} {lb:List (List Edg)} (h:BestTo cur i b) (hb:0≤b) (hlb:cur[b.toNat]?=some lb):0<lb.length:=by
 rcases h with ⟨rfl,_⟩|⟨k,p,r,rfl,hk,hc,_⟩
 ·omega
 ·rw [Int.toNat_natCast,hc] at hlb
  cases hlb
  simp
theorem BestTo.step {cur:List (List (List Edg))} {i:Nat} {b:Int} {li lb:List (List Edg)} (h:BestTo cur i b) (hli:cur[i]?=some li) (hlb:cur[b.toNat]?=some lb) :
  (0<li.length→(b<0∨sumC (li.getD 0 [])<sumC (lb.getD 0 []))→BestTo cur (i+1) i)∧(¬ (0<li.length∧(b<0∨sumC (li.getD 0 [])<sumC (lb.getD 0 [])))→BestTo cur (i+1) b):=by
 have cases1:∀ (j:Nat),j<i+1→j<i∨j=i:=fun j hj=>by omega
 constructor
 ·intro h1 h2
  cases li with
  | nil=>simp at h1
  | cons p r=>
    refine .inr ⟨i,p,r,rfl,by omega,hli,fun j q s hj hq=>?_⟩
    rcases cases1 j hj with hj|rfl
    ·left
     rcases h with ⟨rfl,he⟩|⟨k,p',r',rfl,hk,hc,hm⟩
     ·have:=he j _ hj hq
      cases this
     ·rw [Int.toNat_natCast,hc] at hlb
      cases hlb
      have h3:sumC p<sumC p':=by
       rcases h2 with h2|h2
       ·omega
       ·simpa using h2
      rcases hm j q s hj hq with e|⟨e,_⟩<;>omega
    ·rw [hli] at hq
     cases hq
     exact .inr ⟨rfl,Nat.le_refl _⟩
 ·intro hn
  rcases h with ⟨rfl,he⟩|⟨k,p,r,rfl,hk,hc,hm⟩
  ·refine .inl ⟨rfl,fun j l hj hl=>?_⟩
   rcases cases1 j hj with hj|rfl
   ·exact he j l hj hl
   ·rw [hli] at hl
    cases hl
    refine Classical.byContradiction fun hne=>hn ⟨List.length_pos_iff.2 hne,.inl (by omega)⟩
  ·refine .inr ⟨k,p,r,rfl,by omega,hc,fun j q s hj hq=>?_⟩
   rcases cases1 j hj with hj|rfl
   ·exact hm j q s hj hq
   ·rw [hli] at hq
    cases hq
    rw [Int.toNat_natCast,hc] at hlb
    cases hlb
    have:¬ sumC q<sumC p:=fun e=>hn ⟨by simp,.inr (by simpa using e)⟩
    by_cases e:sumC p<sumC q
    ·exact .inl e
    ·exact .inr ⟨by omega,by omega⟩
theorem BestTo.end {ls:List (List (List Edg))} {rs:Nat→Nat} {b:Int} (h:BestTo (curL ls rs) ls.length b) :
  (b = -1∧best (clsS ls) rs=none)∨∃ (k:Nat) (p:List Edg) (r:List (List Edg)) (l:List (List Edg)),b=(k:Int)∧ls[k]?=some l∧(curL ls rs)[k]?=some (p::r)∧l.drop (rs k)=p::r∧best (clsS ls) rs=some ⟨sumC p,k,rs k⟩:=by
 have hcand:∀ x,Cand (clsS ls) rs x→∃ q s,(curL ls rs)[x.edge]?=some (q::s)∧sumC q=x.cost:=by
  rintro x ⟨h1,l,h2,h3⟩
  unfold clsS at h2
  rw [List.getElem?_map] at h2
  cases hl:ls[x.edge]? with
  | none=>rw [hl] at h2;cases h2
  | some l0=>
    rw [hl] at h2;cases h2
    rw [List.getElem?_map,h1] at h3
    cases hq:l0[rs x.edge]? with
    | none=>rw [hq] at h3;cases h3
    | some q=>
      rw [hq] at h3
      refine ⟨q,l0.drop (rs x.edge+1),?_,by simpa using h3⟩
      rw [curL_get hl,drop_cons hq]
 rcases h with ⟨rfl,he⟩|⟨k,p,r,rfl,hk,hc,hm⟩
 ·left
  refine ⟨rfl,best_empty fun x hx=>?_⟩
  obtain ⟨q,s,h1,_⟩:=hcand x hx
  have hlt:=(List.getElem?_eq_some_iff.1 h1).1
  rw [curL_len] at hlt
  have:=he x.edge _ hlt h1
  cases this
 ·right
  obtain ⟨l,hl⟩:=get_lt (l:=ls) hk
  have hd:l.drop (rs k)=p::r:=by
   have:=curL_get (rs:=rs) hl
   rw [hc] at this
   exact (Option.some.inj this).symm
  have hp:l[rs k]?=some p:=by
   have:=congrArg (fun z=>z[0]?) hd
   simpa [List.getElem?_drop] using this
  refine ⟨k,p,r,l,rfl,hl,hc,hd,best_of ⟨rfl,l.map sumC,?_,?_⟩ fun y hy=>?_⟩
  ·unfold clsS;rw [List.getElem?_map,hl];rfl
  ·show (l.map sumC)[rs k]?=some (sumC p)
   rw [List.getElem?_map,hp];rfl
  ·obtain ⟨q,s,h1,h2⟩:=hcand y hy
   have hlt:=(List.getElem?_eq_some_iff.1 h1).1
   rw [curL_len] at hlt
   rcases hm y.edge q s hlt h1 with e|⟨e1,e2⟩
   ·exact .inr (.inl (by show sumC p<y.cost;omega))
   ·by_cases e3:y.edge=k
    ·left
     refine Cand.eq hy ⟨rfl,l.map sumC,?_,?_⟩ e3
     ·unfold clsS;rw [List.getElem?_map,hl];rfl
     ·show (l.map sumC)[rs k]?=some (sumC p)
      rw [List.getElem?_map,hp];rfl
    ·exact .inr (.inr ⟨by show sumC p=y.cost;omega,by show k<y.edge;omega⟩)
def mrgL (ls:List (List (List Edg))) (most:Nat):List (List Edg):=((mgW (clsS ls)).take most).map (selW ls)
def c161:Cfg:=⟨[0,1,4,5,6,7,11,15,48,51],[],[],[],[(7,[0,1,2,3,4,5,6,7,8,9,10,11,12,13,14,15,16,17,18,19,20,21,22,23,24,25,26,27,28,29,30],[])],[]⟩
theorem mergeW (ls:List (List (List Edg))) (hne:0<ls.length) (hl:ls.length≤65536) (hll:∀ l∈ls,l.length≤65536) (most:Nat) (hm:most≤64) (b:Nat) :
  ACalls Tryz.prog 161 [.osl b 0 ls.length 1,.int .i64 most] [(b,.vec (ls.map encS).flatten)] (fun v h'=>v=.sl 1 none ((mrgL ls most).map encR)∧h'=[]):=by
 refine ACalls.post (R:=fun v h'=>VLe v (.sl 1 none ((mrgL ls most).map encR))) ?_ ?_
 ·refine fcalls (F:=Tryz.f161) c161 rfl rfl rfl mixed rfl fun X=>?_
  conv=>whnf
  skip
  refine tloop rfl mixed [0,1,5] [] (fun m r h=>∃ (t:Nat) (ov:AV) (oh:Heap),r=[(0,[],.osl b 0 ls.length 1),(1,[],.int .i64 most),(5,[],ov)]∧h=(b,.vec ((curL ls (stS (clsS ls) t)).map encS).flatten)::oh∧m=65 - t∧t≤most∧t≤(mgW (clsS ls)).length∧Out 1 encR (((mgW (clsS ls)).take t).map (selW ls)) ov oh) ?_ ?_
  ·conv=>whnf
   exact ⟨_,_,Turn.refl _ _,_,0,.nilS,[],rfl,by rw [show stS (clsS ls) 0=zro from rfl,curL_zero],rfl,by omega,by omega,.inl ⟨by simp,rfl,rfl⟩⟩
  ·rintro m r h' ⟨t,ov,oh,rfl,rfl,rfl,htm,htl,ho⟩
   have ho':=ho
   have hol:(((mgW (clsS ls)).take t).map (selW ls)).length=t:=by rw [List.length_map,List.length_take];omega
   obtain ⟨cur,hcur⟩:∃ cur,cur=curL ls (stS (clsS ls) t):=⟨_,rfl⟩
   have hcl:cur.length=ls.length:=by rw [hcur,curL_len]
   have hclen:∀ (k:Nat) l,cur[k]?=some l→l.length≤65536:=by
    intro k l hk
    rw [hcur] at hk
    have hlt:=(List.getElem?_eq_some_iff.1 hk).1
    rw [curL_len] at hlt
    obtain ⟨l0,hl0⟩:=get_lt (l:=ls) hlt
    rw [curL_get hl0] at hk
    cases hk
    have:=hll l0 (List.mem_of_getElem? hl0)
    rw [List.length_drop];omega
   rw [← hcur]
   have hml:((((mgW (clsS ls)).take t).map (selW ls)).map encR).length=t:=by rw [List.length_map];exact hol
   rcases ho with ⟨hon,rfl,rfl⟩|⟨q,rfl,rfl⟩
   ·have ht0:t=0:=by rw [hon] at hol;exact hol.symm
    skip
    conv=>whnf
    skip
    refine ⟨fun hz=>?_,fun hz=>?_⟩<;>simp at hz
    ·have htm2:t<most:=by omega
     refine tloop rfl mixed [0,1,5,6,7] [] (fun m r h=>∃ (i:Nat) (bi:Int),r=[(0,[],.osl b 0 ls.length 1),(1,[],.int .i64 most),(5,[],.nilS),(6,[],.int .i64 bi),(7,[],.int .i64 i)]∧h=(b,.vec (cur.map encS).flatten)::[]∧m=ls.length - i∧i≤ls.length∧BestTo cur i bi) ?_ ?_
     ·conv=>whnf
      exact ⟨_,_,Turn.refl _ _,_,0,-1,rfl,rfl,rfl,by omega,.inl ⟨rfl,fun j l hj=>by omega⟩⟩
     ·rintro m r h' ⟨i,bi,rfl,rfl,rfl,hi,hb⟩
      conv=>whnf
      refine ⟨fun hz2=>?_,fun hz2=>?_⟩<;>simp at hz2
      ·obtain ⟨li,hli⟩:=get_lt (l:=cur) (i:=i) (by omega)
       have hlil:=hclen i li hli
       have hbi:-1≤bi∧bi<ls.length:=hb.lt (by omega)
       obtain ⟨lb,hlb⟩:=get_lt (l:=cur) (i:=bi.toNat) (by omega)
       have hlbl:=hclen _ lb hlb
       conv=>whnf
       repeat ((first|(refine ixo (i:=i) (by omega) ?_)|(refine ldE encS_len (.head _) (by omega) hli ?_)|(refine ixg (enc:=encR) [] ?_ ?_;(focus (conv=>whnf;skip));(focus (intro h1 h2;simp only [decide_eq_true_eq,decide_eq_false_iff_not,List.length_map] at h1 h2;first|(show 0≤(0:Int)∧(0:Int)<(li.length:Int);omega)|(show 0≤(0:Int)∧(0:Int)<(lb.length:Int);have:=hb.full (by omega) hlb;omega))))|(refine ixog ?_ ?_;(focus (conv=>whnf;skip));(focus (intro h1 h2;simp only [decide_eq_true_eq,decide_eq_false_iff_not,List.length_map] at h1 h2;show 0≤bi∧bi<ls.length;omega)))|(refine ldE encS_len (.head _) (by omega) hlb ?_)|refine And.intro (by show drawOK (opsAt Tryz.f161 _) _=true;decide +kernel) ?_);conv=>whnf)
       refine ⟨fun hz3=>?_,fun hz3=>?_⟩
       ·conv=>whnf
        repeat (refine ⟨gP_of ⟨by omega,by omega⟩,?_⟩;conv=>whnf)
        conv=>whnf
        skip
        exact ⟨_,_,Turn.refl _ _,_,(by omega),i+1,i,rfl,rfl,rfl,by omega,(hb.step hli hlb).1 (by simp at hz3;omega) (by simp at hz3;simpa using hz3.2)⟩
       ·conv=>whnf
        repeat (refine ⟨gP_of ⟨by omega,by omega⟩,?_⟩;conv=>whnf)
        conv=>whnf
        skip
        exact ⟨_,_,Turn.refl _ _,_,(by omega),i+1,bi,rfl,rfl,rfl,by omega,(hb.step hli hlb).2 (by rintro ⟨e1,e2⟩;simp at hz3;simp at e2;have:=hz3 e1;omega)⟩
      ·obtain rfl:i=ls.length:=by omega
       rw [hcur] at hb
       rcases hb.end with ⟨rfl,hbn⟩|⟨k,pp,rr,l,rfl,hlk,hck,hdk,hbk⟩
       ·have hte:(mgW (clsS ls)).take t=(mgW (clsS ls)).take most:=by
         have hle:(mgW (clsS ls)).length≤t:=by
          rcases Nat.lt_or_ge t (mgW (clsS ls)).length with e|e
          ·obtain ⟨x,hx⟩:=get_lt e
           rw [mgW_get,hbn] at hx
           cases hx
          ·exact e
         rw [List.take_of_length_le hle,List.take_of_length_le (by omega)]
        conv=>whnf
        skip
        refine ⟨fun hz3=>?_,fun hz3=>?_⟩<;>simp at hz3
        have hfin:mrgL ls most=((mgW (clsS ls)).take t).map (selW ls):=by unfold mrgL;rw [hte]
        conv=>whnf
        skip
        rw [hfin]
        exact ho'.le (by decide)
       ·have hbk':=hbk
        rw [← mgW_get] at hbk'
        have hklt:k<ls.length:=(List.getElem?_eq_some_iff.1 hlk).1
        rw [← hcur] at hck
        have hkl:=hclen k _ hck
        conv=>whnf
        skip
        refine ⟨fun hz3=>absurd (of_decide_eq_true hz3) (by omega),fun hz3=>?_⟩
        conv=>whnf
        repeat ((first|(refine ixo (i:=k) (by omega) ?_)|(refine ldE encS_len (.head _) (by omega) hck ?_)|(refine ix (enc:=encR) (i:=0) rfl ?_));conv=>whnf)
        have htk:((mgW (clsS ls)).take (t+1)).map (selW ls)=((mgW (clsS ls)).take t).map (selW ls)++[pp]:=by
         rw [take_snoc hbk',List.map_append]
         refine congrArg (_++[·]) ?_
         show (ls.getD k []).getD (stS (clsS ls) t k) []=pp
         rw [show ls.getD k []=l by rw [List.getD_eq_getElem?_getD,hlk];rfl,List.getD_eq_getElem?_getD]
         have:=congrArg (fun z=>z[0]?) hdk
         simp only [List.getElem?_drop,Nat.add_zero,List.getElem?_cons_zero] at this
         rw [this];rfl
        have hup:cur.set k rr=curL ls (stS (clsS ls) (t+1)):=by
         rw [stS_succ hbk',hcur,← curL_up hlk,hdk];rfl
        have hlen2:t<(mgW (clsS ls)).length:=(List.getElem?_eq_some_iff.1 hbk').1
        refine ⟨Nat.le_of_ble_eq_true rfl,fun q2=>?_⟩
        conv=>whnf
        repeat ((first|(refine ixo (i:=k) (by omega) ?_)|(refine ldE encS_len (by first|exact .head _|exact .tail _ (.head _)) (by omega) hck ?_)|(refine ⟨gP_of ⟨by decide,by rw [List.length_map,List.length_cons];omega,Int.le_refl _⟩,?_⟩));conv=>whnf)
        conv=>whnf
        have hcut:List.drop (Int.toNat 1) (List.take ((((pp::rr).map encR).length:Int)).toNat ((pp::rr).map encR))=rr.map encR:=by
         rw [Int.toNat_natCast,List.take_length];rfl
        refine stE (enc:=encS) (L:=cur) rr (by decide) encS_len (by rw [hcl];exact hklt) (by omega) (by unfold encS;rw [← hcut];rfl) (by first|exact .here _|exact .there (.here _)) ?_
        conv=>whnf
        skip
        exact ⟨_,_,Turn.perm (List.Perm.swap _ _ _),_,(by omega),t+1,_,[(q2,.tok)],rfl,(by rw [hup]),rfl,by omega,by omega,.inr ⟨q2,(by rw [htk,hon];rfl),rfl⟩⟩
    ·have hte:(mgW (clsS ls)).take t=(mgW (clsS ls)).take most:=by rw [show t=most by omega]
     have hfin:mrgL ls most=((mgW (clsS ls)).take t).map (selW ls):=by unfold mrgL;rw [hte]
     conv=>whnf
     skip
     rw [hfin]
     exact ho'.le (by decide)
   ·skip
    skip
    conv=>whnf
    skip
    refine ⟨fun hz=>?_,fun hz=>?_⟩<;>simp at hz
    ·have htm2:t<most:=by omega
     refine tloop rfl mixed [0,1,5,6,7] [] (fun m r h=>∃ (i:Nat) (bi:Int),r=[(0,[],.osl b 0 ls.length 1),(1,[],.int .i64 most),(5,[],.sl 1 (some q) ((((mgW (clsS ls)).take t).map (selW ls)).map encR)),(6,[],.int .i64 bi),(7,[],.int .i64 i)]∧h=(b,.vec (cur.map encS).flatten)::[(q,.tok)]∧m=ls.length - i∧i≤ls.length∧BestTo cur i bi) ?_ ?_
     ·conv=>whnf
      exact ⟨_,_,Turn.refl _ _,_,0,-1,rfl,rfl,rfl,by omega,.inl ⟨rfl,fun j l hj=>by omega⟩⟩
     ·rintro m r h' ⟨i,bi,rfl,rfl,rfl,hi,hb⟩
      conv=>whnf
      refine ⟨fun hz2=>?_,fun hz2=>?_⟩<;>simp at hz2
      ·obtain ⟨li,hli⟩:=get_lt (l:=cur) (i:=i) (by omega)
       have hlil:=hclen i li hli
       have hbi:-1≤bi∧bi<ls.length:=hb.lt (by omega)
       obtain ⟨lb,hlb⟩:=get_lt (l:=cur) (i:=bi.toNat) (by omega)
       have hlbl:=hclen _ lb hlb
       conv=>whnf
       repeat ((first|(refine ixo (i:=i) (by omega) ?_)|(refine ldE encS_len (.head _) (by omega) hli ?_)|(refine ixg (enc:=encR) [] ?_ ?_;(focus (conv=>whnf;skip));(focus (intro h1 h2;simp only [decide_eq_true_eq,decide_eq_false_iff_not,List.length_map] at h1 h2;first|(show 0≤(0:Int)∧(0:Int)<(li.length:Int);omega)|(show 0≤(0:Int)∧(0:Int)<(lb.length:Int);have:=hb.full (by omega) hlb;omega))))|(refine ixog ?_ ?_;(focus (conv=>whnf;skip));(focus (intro h1 h2;simp only [decide_eq_true_eq,decide_eq_false_iff_not,List.length_map] at h1 h2;show 0≤bi∧bi<ls.length;omega)))|(refine ldE encS_len (.head _) (by omega) hlb ?_)|refine And.intro (by show drawOK (opsAt Tryz.f161 _) _=true;decide +kernel) ?_);conv=>whnf)
       refine ⟨fun hz3=>?_,fun hz3=>?_⟩
       ·conv=>whnf
        repeat (refine ⟨gP_of ⟨by omega,by omega⟩,?_⟩;conv=>whnf)
        conv=>whnf
        skip
        exact ⟨_,_,Turn.refl _ _,_,(by omega),i+1,i,rfl,rfl,rfl,by omega,(hb.step hli hlb).1 (by simp at hz3;omega) (by simp at hz3;simpa using hz3.2)⟩
       ·conv=>whnf
        repeat (refine ⟨gP_of ⟨by omega,by omega⟩,?_⟩;conv=>whnf)
        conv=>whnf
        skip
        exact ⟨_,_,Turn.refl _ _,_,(by omega),i+1,bi,rfl,rfl,rfl,by omega,(hb.step hli hlb).2 (by rintro ⟨e1,e2⟩;simp at hz3;simp at e2;have:=hz3 e1;omega)⟩
      ·obtain rfl:i=ls.length:=by omega
       rw [hcur] at hb
       rcases hb.end with ⟨rfl,hbn⟩|⟨k,pp,rr,l,rfl,hlk,hck,hdk,hbk⟩
       ·have hte:(mgW (clsS ls)).take t=(mgW (clsS ls)).take most:=by
         have hle:(mgW (clsS ls)).length≤t:=by
          rcases Nat.lt_or_ge t (mgW (clsS ls)).length with e|e
          ·obtain ⟨x,hx⟩:=get_lt e
           rw [mgW_get,hbn] at hx
           cases hx
          ·exact e
         rw [List.take_of_length_le hle,List.take_of_length_le (by omega)]
        conv=>whnf
        skip
        refine ⟨fun hz3=>?_,fun hz3=>?_⟩<;>simp at hz3
        have hfin:mrgL ls most=((mgW (clsS ls)).take t).map (selW ls):=by unfold mrgL;rw [hte]
        conv=>whnf
        skip
        rw [hfin]
        exact ho'.le (by decide)
       ·have hbk':=hbk
        rw [← mgW_get] at hbk'
        have hklt:k<ls.length:=(List.getElem?_eq_some_iff.1 hlk).1
        rw [← hcur] at hck
        have hkl:=hclen k _ hck
        conv=>whnf
        skip
        refine ⟨fun hz3=>absurd (of_decide_eq_true hz3) (by omega),fun hz3=>?_⟩
        conv=>whnf
        repeat ((first|(refine ixo (i:=k) (by omega) ?_)|(refine ldE encS_len (.head _) (by omega) hck ?_)|(refine ix (enc:=encR) (i:=0) rfl ?_));conv=>whnf)
        have htk:((mgW (clsS ls)).take (t+1)).map (selW ls)=((mgW (clsS ls)).take t).map (selW ls)++[pp]:=by
         rw [take_snoc hbk',List.map_append]
         refine congrArg (_++[·]) ?_
         show (ls.getD k []).getD (stS (clsS ls) t k) []=pp
         rw [show ls.getD k []=l by rw [List.getD_eq_getElem?_getD,hlk];rfl,List.getD_eq_getElem?_getD]
         have:=congrArg (fun z=>z[0]?) hdk
         simp only [List.getElem?_drop,Nat.add_zero,List.getElem?_cons_zero] at this
         rw [this];rfl
        have hup:cur.set k rr=curL ls (stS (clsS ls) (t+1)):=by
         rw [stS_succ hbk',hcur,← curL_up hlk,hdk];rfl
        have hlen2:t<(mgW (clsS ls)).length:=(List.getElem?_eq_some_iff.1 hbk').1
        refine ⟨(by rw [List.length_append,hml];simp;unfold AMAX;omega),fun q2=>⟨_,.there (.here _),?_⟩⟩
        conv=>whnf
        repeat ((first|(refine ixo (i:=k) (by omega) ?_)|(refine ldE encS_len (by first|exact .head _|exact .tail _ (.head _)) (by omega) hck ?_)|(refine ⟨gP_of ⟨by decide,by rw [List.length_map,List.length_cons];omega,Int.le_refl _⟩,?_⟩));conv=>whnf)
        conv=>whnf
        have hcut:List.drop (Int.toNat 1) (List.take ((((pp::rr).map encR).length:Int)).toNat ((pp::rr).map encR))=rr.map encR:=by
         rw [Int.toNat_natCast,List.take_length];rfl
        refine stE (enc:=encS) (L:=cur) rr (by decide) encS_len (by rw [hcl];exact hklt) (by omega) (by unfold encS;rw [← hcut];rfl) (by first|exact .here _|exact .there (.here _)) ?_
        conv=>whnf
        skip
        exact ⟨_,_,Turn.refl _ _,_,(by omega),t+1,_,[(q2,.tok)],rfl,(by rw [hup]),rfl,by omega,by omega,.inr ⟨q2,(by rw [htk,List.map_append];rfl),rfl⟩⟩
    ·have hte:(mgW (clsS ls)).take t=(mgW (clsS ls)).take most:=by rw [show t=most by omega]
     have hfin:mrgL ls most=((mgW (clsS ls)).take t).map (selW ls):=by unfold mrgL;rw [hte]
     conv=>whnf
     skip
     rw [hfin]
     exact ho'.le (by decide)
 ·intro v h1 hv
  exact ⟨.sl 1 none ((mrgL ls most).map encR),[],⟨rfl,rfl⟩,hv,fun k o hm=>(by cases hm),fun _=>(by simp [keys])⟩
end Go.Abs.Wall.Lst
