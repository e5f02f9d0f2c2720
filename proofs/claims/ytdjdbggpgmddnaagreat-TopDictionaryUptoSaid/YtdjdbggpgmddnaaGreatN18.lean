/- Small laws for the walks and contracts of functions; each theorem names its conditions. -/
import Derived.Test.YtdjdbggpgmddnaaGreatN17
import Derived.Test.YtdjdbggpgmddnaaGreatN16
import Derived.Test.YtdjdbggpgmddnaaGreatN15
import Derived.Test.YtdjdbggpgmddnaaGreatN14
set_option maxRecDepth 100000
set_option maxHeartbeats 2000000
set_option linter.unusedVariables false
set_option linter.unusedSimpArgs false
namespace Go.Abs.Wall.Lst
open Go Go.Abs Go.Proofs Go.Abs.Wall
def pthR (p:Pth):Rdg:=⟨p.2.map (·.word),p.1⟩
theorem path_step {g:List (List Edg)} (hg:GOK g) {i ρ:Nat} (hi:i<g.length) {w:Wy} {p:Pth} (hw:(wayAt g i)[ρ]?=some w) (hp:(rdV g i)[ρ]?=some p) :
  ∃ es x w' p',g[i]?=some es/\es[w.edge]?=some x/\EdgOK g.length i x/\(wayAt g x.to.toNat)[w.rank]?=some w'/\(rdV g x.to.toNat)[w.rank]?=some p'/\p=(w.cost,x::p'.2):=by
 obtain ⟨es,hes⟩:=get_lt hi;have hE:=hg.edge i es hes;rw [rdV_cons hes hE,List.getElem?_map] at hp;unfold wayAt at hw;rw [hes] at hw;simp only at hw;rw [hw] at hp;have hp:mkR es (fun x=>rdV g x.to.toNat) w=p:=(by simpa using hp);obtain ⟨_,l,h2,h3⟩:=mgW_cand hw;have hlt:=(List.getElem?_eq_some_iff.1 h2).1;rw [clsG_len] at hlt;obtain ⟨x,hx⟩:=get_lt hlt;have ho:=hE x (List.mem_of_getElem? hx);obtain ⟨l',e1,e2⟩:=clsG_get hg hes hx;rw [h2] at e1;cases e1
 rw [e2] at h3;cases hq:(wayAt g x.to.toNat)[w.rank]? with
 | none=>rw [hq] at h3;cases h3
 | some w'=>
   have:=wayAt_rd hg (i:=x.to.toNat) (by have:=ho.hi;omega) w.rank;rw [hq] at this;cases hr:(rdV g x.to.toNat)[w.rank]? with
   | none=>rw [hr] at this;cases this
   | some p'=>
     refine ⟨es,x,w',p',hes,hx,ho,hq,hr,?_⟩;rw [<- hp];unfold mkR;rw [hx];simp only;rw [List.getD_eq_getElem?_getD,hr];rfl
theorem path_ends {g:List (List Edg)} {ρ:Nat} {w:Wy} {p:Pth} (hw:(wayAt g g.length)[ρ]?=some w) (hp:(rdV g g.length)[ρ]?=some p):p.2=[]/\ρ=0:=by
 rw [rdV_end] at hp;cases ρ with
 | zero=>simp at hp;subst hp;exact ⟨rfl,rfl⟩
 | succ n=>simp at hp
theorem way_rank {g:List (List Edg)} {i ρ:Nat} {w:Wy} (hw:(wayAt g i)[ρ]?=some w):w.rank<=ρ:=by
 unfold wayAt at hw;split at hw
 ·cases ρ with
  | zero=>simp at hw;subst hw;exact Nat.le_refl _
  | succ n=>simp at hw
 exact mgW_rank hw
def c62:Cfg:=⟨[0,1,4,5,6,7,8,17,31],[],[8],[],[(7,[0,1,2,3,4,5,6,7,8,9,10,11,12,13,14,15],[8]),(8,[0,1,2,3,4,5,6,7,8],[])],[]⟩
def rdgV (g:List (List Edg)) (rank:Nat):AV:=match (rdV g 0)[rank]? with
 | none=>.tup [.agg [.nilS,.int .i64 0],.bool false]
 | some p=>.tup [.agg (encRdg (pthR p)),.bool true]
theorem readingW (g:List (List Edg)) (hg:GOK g) (tb:Nat) (R:List Int) (ks:List Nat) (nq:Option Nat) (nv:AV) (hkl:ks.length=g.length) (hnv:g=[]\/nv=.sl 1 nq (ks.map encKey)) (rank:Nat) (hr:rank<=64) (hp:Heap) (hN:Nodes g 0 ks hp) :
  ACalls Tryz.prog 62 [.optr tb 0,.int .i64 rank] ((tb,tOb g R nv)::hp) (fun v h'=>v=rdgV g rank/\∃ hp',Nodes g 0 ks hp'/\h'=(tb,tOb g R nv)::hp'):=by
 have hgf:=hg.few
 have hget0:∀ (A B:Heap) (hp:Heap) (i r:Nat),i<=g.length->r<=64->Nodes g 0 ks hp->ACalls Tryz.prog 91 [.optr tb 0,.int .i64 i,.int .i64 r] (A++(tb,tOb g R nv)::(B++hp)) (fun v h'=>v=getV g i r/\∃ hp',Nodes g 0 ks hp'/\h'=A++(tb,tOb g R nv)::(B++hp')):=by
  intro A B hp i r hi hr hN;obtain ⟨hA,hB,rfl,nA,nB⟩:=hN.split i (by omega);rw [Nat.zero_add] at nB;have htl:(ks.take i).length=i:=by rw [List.length_take];omega
  have h1:=getAll g hg (g.length - i) i (by omega) tb R (ks.take i) (ks.drop i) nq nv r hB htl (by rw [List.take_append_drop];exact hkl) (by rw [List.take_append_drop];exact hnv) nB hr
  have pm:∀ hB:Heap,((tb,tOb g R nv)::hB++(A++(B++hA))).Perm (A++(tb,tOb g R nv)::(B++(hA++hB))):=fun hB=>
   (List.Perm.cons _ perm3).trans List.perm_middle.symm
  refine ACalls.re h1 (h2:=A++(B++hA)) (pm hB) ?_;rintro v h3 ⟨rfl,hp',hn',rfl⟩;refine ⟨_,pm hp',rfl,hA++hp',?_,rfl⟩;have:=nA.join (by rw [htl,Nat.zero_add];exact hn');rwa [List.take_append_drop] at this
 refine ACalls.post (R:=fun v h'=>∃ v',v'=rdgV g rank/\VLe v v'/\∃ hp' Z,Nodes g 0 ks hp'/\h'.Perm ((tb,tOb g R nv)::hp'++Z)) ?_ ?_
 ·refine fcalls (F:=Tryz.f62) c62 rfl rfl rfl mixed rfl fun X=>?_;(conv=>whnf);intro rb;(conv=>whnf);skip;refine ACalls.mono ?_ (hget0 [(rb,.vec [.nilS,.int .i64 0])] [] hp 0 rank (by omega) hr hN);clear hN;rintro v h1 ⟨rfl,hp,hN,rfl⟩;cases hw:(wayAt g 0)[rank]? with
  | none=>
    have hgv:getV g 0 rank=.tup [.agg (encWy wy0),.bool false]:=by unfold getV;rw [hw]
    rw [hgv];(conv=>whnf);intro wb;(conv=>whnf);repeat (refine ⟨_,_,.here _,leOK,?_⟩;conv=>whnf)
    refine cT rfl ?_;(conv=>whnf);repeat ((first|(refine ⟨_,_,.there (.here _),leOK,?_⟩)|refine ⟨_,_,.tail _ (.head _),rfl,?_⟩);conv=>whnf)
    have hrn:(rdV g 0)[rank]?=none:=by
     have:=wayAt_rd hg (i:=0) (by omega) rank;rw [hw] at this;cases hq:(rdV g 0)[rank]? with
     | none=>rfl
     | some p=>rw [hq] at this;cases this
    refine ⟨_,rfl,?_,hp,[(wb,_),(rb,_)],hN,(List.perm_append_comm (l₁:=[_,_]) (l₂:=(tb,tOb g R nv)::hp))⟩;unfold rdgV;rw [hrn];exact VLe.refl _
  | some w0=>
    have hgv:getV g 0 rank=.tup [.agg (encWy w0),.bool true]:=by unfold getV;rw [hw]
    obtain ⟨p,hrp⟩:∃ p,(rdV g 0)[rank]?=some p:=by
     have:=wayAt_rd hg (i:=0) (by omega) rank;rw [hw] at this;cases hq:(rdV g 0)[rank]? with
     | none=>rw [hq] at this;cases this
     | some p=>exact ⟨p,rfl⟩
    have hpc:p.1=w0.cost:=by have:=wayAt_rd hg (i:=0) (by omega) rank;rw [hw,hrp] at this;simpa using this
    rw [hgv];(conv=>whnf);intro wb;(conv=>whnf);repeat (refine ⟨_,_,.here _,leOK,?_⟩;conv=>whnf)
    refine cF rfl ?_;(conv=>whnf);repeat ((first|(refine ⟨_,_,.there (.here _),leOK,?_⟩)|refine ⟨_,_,.head _,rfl,?_⟩);conv=>whnf)
    refine tloop rfl mixed [0,4,6,7] [] (fun m r h=>∃ (i ρ:Nat) (w:Wy) (pc:Pth) (L:List Edg) (wv:AV) (wh hp:Heap) (rb wb:Nat),r=[(0,[],.optr tb 0),(4,[],.optr rb 0),(6,[],.int .i64 i),(7,[],.optr wb 0)]/\h=(wb,.vec (encWy w))::(rb,.vec [wv,.int .i64 p.1])::(tb,tOb g R nv)::(wh++hp)/\m=g.length - i/\i<=g.length/\(wayAt g i)[ρ]?=some w/\(rdV g i)[ρ]?=some pc/\p.2=L++pc.2/\ρ<=64/\Out 4 encWrd (L.map (·.word)) wv wh/\Nodes g 0 ks hp/\L.length<=i) ?_ ?_
    ·(conv=>whnf);exact ⟨_,_,Turn.refl _ _,_,0,rank,w0,p,[],.nilS,[],hp,rb,wb,rfl,by rw [hpc];rfl,rfl,by omega,hw,hrp,rfl,hr,.inl ⟨rfl,rfl,rfl⟩,hN,Nat.le_refl _⟩
    clear hN;rintro m r h' ⟨i,ρ,w,pc,L,wv,wh,hp,rb,wb,rfl,rfl,rfl,hi,hwi,hpi,hL,hρ,ho,hN,hLi⟩;(conv=>whnf);repeat ((refine ⟨_,_,.tail _ (.tail _ (.head _)),rfl,?_⟩);conv=>whnf)
    refine ⟨fun hz=>?_,fun hz=>?_⟩<;>simp at hz
    ·obtain ⟨es,x,w',p',hes,hx,hxo,hw',hp',hpe⟩:=path_step hg hz hwi hpi;have hxlo:=hxo.lo;have hxhi:=hxo.hi;have hxf:=hxo.fit;have hto:((x.to.toNat:Nat):Int)=x.to:=Int.toNat_of_nonneg (by omega);have hwr:=way_rank hwi;have hml:((L.map (·.word)).map encWrd).length=L.length:=(by simp);have hgc:=fun A B hp hN=>hget0 A B hp x.to.toNat w.rank (by omega) (by omega) hN;rw [hto] at hgc;have hgv':getV g x.to.toNat w.rank=.tup [.agg (encWy w'),.bool true]:=by unfold getV;rw [hw']
     rcases ho with ⟨hLn,rfl,rfl⟩|⟨q,rfl,rfl⟩
     ·(conv=>whnf);repeat ((first|refine ix (by assumption) ?_|(refine ⟨_,_,.tail _ (.tail _ (.head _)),rfl,?_⟩)|refine gcall (wordW x.word (by have:=hxf.cl;unfold AMAX;omega) (by have:=hxf.us;unfold AMAX;omega)) ?_|refine ⟨_,_,Rem.here _,?_⟩|refine ⟨_,_,.head _,rfl,?_⟩|refine ⟨_,_,.tail _ (.head _),rfl,?_⟩|refine ⟨_,_,.here _,leOK,?_⟩|refine And.intro (by show drawOK (opsAt Tryz.f62 _) _=true;decide +kernel) ?_|intro (nb:Nat));conv=>whnf)
      refine ⟨Nat.le_of_ble_eq_true rfl,fun q=>?_⟩;(conv=>whnf);repeat ((first|(refine ⟨_,_,.there (.there (.here _)),leOK,?_⟩)|refine ⟨_,_,.tail _ (.head _),rfl,?_⟩);conv=>whnf)
      refine ACalls.mono ?_ (hgc [(q,.tok),(wb,.vec (encWy w)),(rb,.vec [.sl 4 (some q) [encWrd x.word],.int .i64 p.1])] [] hp hN);clear hN;rintro v h1 ⟨rfl,hp,hN,rfl⟩;rw [hgv'];(conv=>whnf);repeat ((refine ⟨_,_,.there (.here _),leOK,?_⟩);conv=>whnf)
      exact ⟨_,_,Turn.perm (List.perm_middle (l₁:=[_,_,_])).symm,_,(by omega),x.to.toNat,w.rank,w',p',L++[x],.sl 4 (some q) [encWrd x.word],[(q,.tok)],hp,rb,wb,by rw [hto],rfl,rfl,by omega,hw',hp',by rw [hL,hpe,List.append_assoc];rfl,by omega,.inr ⟨q,by rw [List.map_append,hLn];rfl,rfl⟩,hN,by rw [List.length_append];simp;omega⟩
     (conv=>whnf);repeat ((first|refine ix (by assumption) ?_|(refine ⟨_,_,.tail _ (.tail _ (.head _)),rfl,?_⟩)|refine gcall (wordW x.word (by have:=hxf.cl;unfold AMAX;omega) (by have:=hxf.us;unfold AMAX;omega)) ?_|refine ⟨_,_,Rem.here _,?_⟩|refine ⟨_,_,.head _,rfl,?_⟩|refine ⟨_,_,.tail _ (.head _),rfl,?_⟩|refine ⟨_,_,.here _,leOK,?_⟩|refine And.intro (by show drawOK (opsAt Tryz.f62 _) _=true;decide +kernel) ?_|intro (nb:Nat));conv=>whnf)
     refine ⟨(by rw [List.length_append,hml];simp;unfold AMAX;omega),fun q2=>⟨_,.there (.there (.there (.here _))),?_⟩⟩;(conv=>whnf);repeat ((first|(refine ⟨_,_,.there (.here _),leOK,?_⟩)|refine ⟨_,_,.head _,rfl,?_⟩);conv=>whnf)
     refine ACalls.mono ?_ (hgc [(wb,.vec (encWy w)),(rb,.vec [.sl 4 (some q2) ((L.map (·.word)).map encWrd++[encWrd x.word]),.int .i64 p.1])] [(q2,.tok)] hp hN);clear hN;rintro v h1 ⟨rfl,hp,hN,rfl⟩;rw [hgv'];(conv=>whnf);repeat (refine ⟨_,_,.here _,leOK,?_⟩;conv=>whnf)
     exact ⟨_,_,Turn.refl _ _,_,(by omega),x.to.toNat,w.rank,w',p',L++[x],.sl 4 (some q2) ((L.map (·.word)).map encWrd++[encWrd x.word]),[(q2,.tok)],hp,rb,wb,by rw [hto],rfl,rfl,by omega,hw',hp',by rw [hL,hpe,List.append_assoc];rfl,by omega,.inr ⟨q2,by rw [List.map_append,List.map_append];rfl,rfl⟩,hN,by rw [List.length_append];simp;omega⟩
    have hie:i=g.length:=(by omega);subst hie;obtain ⟨hpn,_⟩:=path_ends hwi hpi;(conv=>whnf);repeat ((first|(refine ⟨_,_,.there (.here _),leOK,?_⟩)|refine ⟨_,_,.tail _ (.head _),rfl,?_⟩);conv=>whnf)
    refine ⟨_,rfl,?_,hp,(wb,.vec (encWy w))::(rb,.vec [wv,.int .i64 p.1])::wh,hN,?_⟩
    ·unfold rdgV;rw [hrp];show VLe _ (.tup [.agg [.sl 4 none ((p.2.map (·.word)).map encWrd),.int .i64 p.1],.bool true]);rw [hL,hpn,List.append_nil];exact VLe.tup (.cons (VLe.agg (.cons (ho.le (by decide)) (.cons (VLe.refl _) .nil))) (.cons (VLe.refl _) .nil))
    exact (List.perm_middle (l₁:=[_,_])).trans (List.Perm.cons _ (List.perm_append_comm (l₁:=_::_::wh) (l₂:=hp)))
 rintro v h1 ⟨v',rfl,hv,hp',Z,hn',hpm⟩;refine ⟨_,_,⟨rfl,hp',hn',rfl⟩,hv,fun k o hm=>hpm.mem_iff.2 (List.mem_append_left _ hm),fun hn=>?_⟩;have:=((hpm.map (fun p:Nat × Ob=>p.1)).nodup_iff).1 hn;unfold keys;rw [List.map_append] at this;exact (List.nodup_append.1 this).1
def rdsOf (g:List (List Edg)) (most:Nat):List Rdg:=((rdV g 0).take most).map pthR
def listErr (H:Hou) (line:List Int) (most:Int):Int:=if growErr H line≠0 then growErr H line else if 1<=most/\most<=64 then (if rdV (graphM H line) 0=[] then 52 else 0) else 1
def listL (H:Hou) (line:List Int) (most:Int):List Rdg:=if listErr H line most=0 then rdsOf (graphM H line) most.toNat else []
def c27:Cfg:=⟨[0,1,2,3,6,7,8,9,10,11,12,20,24,27,28,29,38,46],[],[11],[],[],[]⟩
theorem listW (H:Hou) (line:List Int) (most:Int) (hf:HouFit H) (hl:line.length<=1048576) :
  QCall Tryz.prog 27 [.agg (encHou H),.sl 1 none (ints line),.int .i64 most] [] (.tup [.sl 2 none ((listL H line most).map encRdg),.int .i64 (listErr H line most)]):=by
 have hgw:=growW H line hf hl;refine QCall.of ?_;refine fcalls (F:=Tryz.f27) c27 rfl rfl rfl mixed rfl fun X=>?_;(conv=>whnf);repeat (refine QCall.k0 (hgw) ?_;conv=>whnf)
 refine ⟨fun h0=>?_,fun h0=>?_⟩<;>simp at h0
 ·have he:listErr H line most=growErr H line:=by unfold listErr;rw [if_pos h0]
  (conv=>whnf);skip;unfold listL;rw [he,if_neg h0];exact VLe.tup (.cons (VLe.nil (by decide)) (.cons (VLe.refl _) .nil))
 obtain ⟨hL,hsum,hg⟩:=growOK h0;obtain ⟨g,hge⟩:∃ g,g=graphM H line:=⟨_,rfl⟩;have hgv:growV H line=.iptr (encForest g (restT g)):=(by rw [growV,if_pos h0,hge]);have he0:listErr H line most=if 1<=most/\most<=64 then (if rdV g 0=[] then 52 else 0) else 1:=by unfold listErr;rw [if_neg (by omega),hge]
 have hl0:listL H line most=if listErr H line most=0 then rdsOf g most.toNat else []:=by unfold listL;rw [hge]
 rw [<- hge] at hg hsum;rw [hgv,h0];(conv=>whnf);repeat (refine QCall.k0 (within _ _ _) ?_;conv=>whnf)
 by_cases hm:1<=most/\most<=64
 rotate_left
 ·refine cT (by simp;omega) ?_;(conv=>whnf);skip;rw [hl0,he0,if_neg hm,if_neg (by decide)];exact VLe.tup (.cons (VLe.nil (by decide)) (.cons (VLe.refl _) .nil))
 rw [if_pos hm] at he0;refine cF (by simp;omega) ?_;(conv=>whnf);skip;refine ACalls.mono ?_ (beginW g hg);rintro v h1 ⟨tb,ks,nq,nv,hp,rfl,hkl,hnv,hN,rfl⟩;(conv=>whnf);skip;refine tloop rfl mixed [6,9,27,28] [] (fun m r h=>∃ (j:Nat) (ov:AV) (oh hp:Heap),r=[(6,[],ov),(9,[],.optr tb 0),(27,[],.int .i64 most),(28,[],.int .i64 j)]/\h=(tb,tOb g (restT g) nv)::(oh++hp)/\m=65 - j/\(j:Int)<=most/\j<=(rdV g 0).length/\Out 2 encRdg (((rdV g 0).take j).map pthR) ov oh/\Nodes g 0 ks hp) ?_ ?_
 ·(conv=>whnf);exact ⟨_,_,Turn.refl _ _,_,0,.nilS,[],hp,rfl,rfl,rfl,by omega,by omega,.inl ⟨by simp,rfl,rfl⟩,hN⟩
 clear hN;rintro m r h' ⟨j,ov,oh,hp,rfl,rfl,rfl,hjm,hjl,ho,hN⟩;have htl:(((rdV g 0).take j).map pthR).length=j:=by rw [List.length_map,List.length_take];omega
 (conv=>whnf);refine ⟨fun hz=>?_,fun hz=>?_⟩<;>simp at hz
 ·have hrd:=readingW g hg tb (restT g) ks nq nv hkl hnv j (by omega) hp hN;have pm:∀ hp:Heap,((tb,tOb g (restT g) nv)::hp++oh).Perm ((tb,tOb g (restT g) nv)::(oh++hp)):=fun hp=>List.Perm.cons _ List.perm_append_comm
  have hrd2:=ACalls.re (R':=fun v H'=>v=rdgV g j/\∃ hp',Nodes g 0 ks hp'/\H'=(tb,tOb g (restT g) nv)::(oh++hp')) hrd (pm hp) (by
   rintro v h1 ⟨rfl,hp',hn',rfl⟩;exact ⟨_,pm hp',rfl,hp',hn',rfl⟩)
  (conv=>whnf);skip;refine ACalls.mono ?_ hrd2;clear hN hrd hrd2;rintro v h1 ⟨rfl,hp,hN,rfl⟩;cases hrp:(rdV g 0)[j]? with
  | none=>
    have hrv:rdgV g j=.tup [.agg [.nilS,.int .i64 0],.bool false]:=by unfold rdgV;rw [hrp]
    have hje:(rdV g 0).take j=(rdV g 0).take most.toNat:=by rw [List.getElem?_eq_none_iff] at hrp;rw [List.take_of_length_le hrp,List.take_of_length_le (by omega)]
    rw [hrv];(conv=>whnf);repeat ((first|refine ⟨_,_,Rem.here _,⟨Nat.le_of_ble_eq_true rfl,rfl⟩,?_⟩|intro (nb:Nat));conv=>whnf)
    refine cT rfl ?_;rw [hje] at ho htl;by_cases hz3:rdV g 0=[]
    ·rcases ho with ⟨hn,rfl,rfl⟩|⟨q,rfl,rfl⟩
     all_goals
      (conv=>whnf);skip;refine cT (by simp [hz3]) ?_;(conv=>whnf);skip;rw [hl0,he0,if_pos hz3,if_neg (by decide)];exact VLe.tup (.cons (VLe.nil (by decide)) (.cons (VLe.refl _) .nil))
    have hpos:0<(((rdV g 0).take most.toNat).map pthR).length:=by rw [List.length_map,List.length_take];have:=List.length_pos_iff.2 hz3;omega
    rcases ho with ⟨hn,rfl,rfl⟩|⟨q,rfl,rfl⟩
    ·rw [hn] at hpos;simp at hpos
    (conv=>whnf);skip;refine cF (decide_eq_false (by rw [List.length_map];omega)) ?_;(conv=>whnf);skip;rw [hl0,he0,if_neg hz3,if_pos rfl];exact VLe.tup (.cons VLe.sl (.cons (VLe.refl _) .nil))
  | some p=>
    have hrv:rdgV g j=.tup [.agg (encRdg (pthR p)),.bool true]:=by unfold rdgV;rw [hrp]
    have hjl2:=(List.getElem?_eq_some_iff.1 hrp).1;have hts:((rdV g 0).take (j+1)).map pthR=((rdV g 0).take j).map pthR++[pthR p]:=by rw [take_snoc hrp,List.map_append];rfl
    have hml:((((rdV g 0).take j).map pthR).map encRdg).length=j:=by rw [List.length_map];exact htl
    rw [hrv];rcases ho with ⟨hn,rfl,rfl⟩|⟨q,rfl,rfl⟩
    ·(conv=>whnf);repeat ((first|refine ⟨_,_,Rem.here _,⟨Nat.le_of_ble_eq_true rfl,rfl⟩,?_⟩|intro (nb:Nat));conv=>whnf)
     refine cF rfl ?_;(conv=>whnf);repeat ((first|refine ⟨gP_of ⟨by omega,by omega⟩,?_⟩|(refine ⟨Nat.le_of_ble_eq_true rfl,fun q=>?_⟩));conv=>whnf)
     exact ⟨_,_,Turn.perm (List.Perm.swap _ _ _),_,(by omega),j+1,_,[(q,.tok)],hp,rfl,rfl,rfl,by omega,by omega,.inr ⟨q,by rw [hts,hn];rfl,rfl⟩,hN⟩
    (conv=>whnf);repeat ((first|refine ⟨_,_,Rem.here _,⟨Nat.le_of_ble_eq_true rfl,rfl⟩,?_⟩|intro (nb:Nat));conv=>whnf)
    refine cF rfl ?_;(conv=>whnf);repeat ((first|refine ⟨gP_of ⟨by omega,by omega⟩,?_⟩|(refine ⟨(by rw [List.length_append,hml];simp;unfold AMAX;omega),fun q2=>⟨_,.there (.here _),?_⟩⟩));conv=>whnf)
    exact ⟨_,_,Turn.refl _ _,_,(by omega),j+1,_,[(q2,.tok)],hp,rfl,rfl,rfl,by omega,by omega,.inr ⟨q2,by rw [hts,List.map_append];rfl,rfl⟩,hN⟩
 have hje:(rdV g 0).take j=(rdV g 0).take most.toNat:=(by rw [show j=most.toNat by omega]);rw [hje] at ho htl;by_cases hz3:rdV g 0=[]
 ·rcases ho with ⟨hn,rfl,rfl⟩|⟨q,rfl,rfl⟩
  all_goals
   (conv=>whnf);skip;refine cT (by simp [hz3]) ?_;(conv=>whnf);skip;rw [hl0,he0,if_pos hz3,if_neg (by decide)];exact VLe.tup (.cons (VLe.nil (by decide)) (.cons (VLe.refl _) .nil))
 have hpos:0<(((rdV g 0).take most.toNat).map pthR).length:=by rw [List.length_map,List.length_take];have:=List.length_pos_iff.2 hz3;omega
 rcases ho with ⟨hn,rfl,rfl⟩|⟨q,rfl,rfl⟩
 ·rw [hn] at hpos;simp at hpos
 (conv=>whnf);skip;refine cF (decide_eq_false (by rw [List.length_map];omega)) ?_;(conv=>whnf);skip;rw [hl0,he0,if_neg hz3,if_pos rfl];exact VLe.tup (.cons VLe.sl (.cons (VLe.refl _) .nil))
end Go.Abs.Wall.Lst
namespace Go.Abs.Wall.Lst
open Go Go.Abs Go.Proofs Go.Abs.Wall
def sumC (p:List Edg):Int:=(p.map (·.cost)).sum
end Go.Abs.Wall.Lst
namespace Go.Abs.Wall.Lst
open Go Go.Abs Go.Proofs Go.Abs.Wall
theorem sumC_cons (x:Edg) (p:List Edg):sumC (x::p)=x.cost+sumC p:=by unfold sumC;rw [List.map_cons,List.sum_cons]
theorem rdV_sum {g:List (List Edg)} (hg:GOK g):∀ (d i:Nat),i+d=g.length->∀ p∈rdV g i,sumC p.2=p.1:=by
 intro d;induction d using Nat.strongRecOn with
 | _ d ih=>
   intro i hi p hp;by_cases h:i<g.length
   ·obtain ⟨es,hes⟩:=get_lt h;have hE:=hg.edge i es hes;rw [rdV_cons hes hE,List.mem_map] at hp;obtain ⟨w,hw,rfl⟩:=hp;rw [mkR_cost];obtain ⟨t,ht⟩:=List.mem_iff_getElem?.1 hw;obtain ⟨_,l,h2,h3⟩:=mgW_cand ht;unfold clsG at h2;rw [List.getElem?_map] at h2;cases hx:es[w.edge]? with
    | none=>rw [hx] at h2;cases h2
    | some x=>
      rw [hx] at h2;cases h2
      have ho:=hE x (List.mem_of_getElem? hx);unfold extC at h3;rw [List.getElem?_map] at h3;cases hq:(rdV g x.to.toNat)[w.rank]? with
      | none=>rw [hq] at h3;cases h3
      | some q=>
        rw [hq] at h3;have h3:x.cost+q.1=w.cost:=(by simpa using h3);have h5:=ho.lo;have h6:=ho.hi;have:=ih (g.length - x.to.toNat) (by omega) x.to.toNat (by omega) q (List.mem_of_getElem? hq);unfold mkR;rw [hx];show sumC (x::((rdV g x.to.toNat).getD w.rank (0,[])).2)=_;rw [List.getD_eq_getElem?_getD,hq];show sumC (x::q.2)=_;rw [sumC_cons,this,h3]
   have:i=g.length:=(by omega);subst this;rw [rdV_end] at hp;simp at hp;subst hp;rfl
end Go.Abs.Wall.Lst
namespace Go.Abs.Wall.Lst
open Go Go.Abs Go.Proofs Go.Abs.Wall
theorem _root_.Go.Abs.VsLe.pre {a b:List AV} (h:VsLe a b):∀ xs:List AV,VsLe (xs++a) (xs++b)
 | []=>h
 | x::xs=>.cons (VLe.refl x) (VsLe.pre h xs)
theorem VssLe.pre {a b:List (List AV)} (h:VssLe a b):∀ xs:List (List AV),VssLe (xs++a) (xs++b)
 | []=>h
 | x::xs=>.cons (VsLe.refl x) (VssLe.pre h xs)
theorem Turn.left {r:Regs} {A Z:Heap}:Turn r (A++Z) r A:=
 Turn.sub (fun k o hm=>List.mem_append_left _ hm) fun hn=>by unfold keys at hn ⊢;rw [List.map_append] at hn;exact (List.nodup_append.1 hn).1
end Go.Abs.Wall.Lst
namespace Go.Abs.Wall
open Go Go.Abs Go.Proofs
end Go.Abs.Wall
namespace Go.Abs.Wall.Lst
open Go Go.Abs Go.Proofs Go.Abs.Wall
def zeroRdg:Rdg:=⟨[],0⟩
def bestL (H:Hou) (line:List Int):Rdg:=(listL H line 1).headD zeroRdg
theorem rdsOf_nil {g:List (List Edg)} {m:Nat} (hm:1<=m):rdsOf g m=[]↔rdV g 0=[]:=by
 unfold rdsOf;rw [List.map_eq_nil_iff];cases rdV g 0 with
 | nil=>simp
 | cons p r=>cases m with
   | zero=>omega
   | succ m=>simp
def c10:Cfg:=⟨[0,1,2,4,5,6,7,15],[],[],[],[],[]⟩
theorem list_first {H:Hou} {line:List Int} (h:listErr H line 1=0):∃ r l,listL H line 1=r::l/\bestL H line=r:=by
 have hl:listL H line 1=rdsOf (graphM H line) (1:Int).toNat:=by unfold listL;rw [if_pos h]
 unfold listErr at h;split at h
 ·rename_i h1;exact absurd h h1
 rw [if_pos (by decide)] at h;split at h
 ·cases h
 rename_i h2;cases hr:listL H line 1 with
 | nil=>rw [hl] at hr;exact absurd ((rdsOf_nil (by decide)).1 hr) h2
 | cons r l=>exact ⟨r,l,rfl,by unfold bestL;rw [hr];rfl⟩
theorem list_none {H:Hou} {line:List Int} (h:listErr H line 1≠0):bestL H line=zeroRdg:=by unfold bestL listL;rw [if_neg h];rfl
theorem bestW (H:Hou) (line:List Int) (hf:HouFit H) (hl:line.length<=1048576) :
  QCall Tryz.prog 10 [.agg (encHou H),.sl 1 none (ints line)] [] (.tup [.agg (encRdg (bestL H line)),.int .i64 (listErr H line 1)]):=by
 refine QCall.of ?_;refine fcalls (F:=Tryz.f10) c10 rfl rfl rfl mixed rfl fun X=>?_;(conv=>whnf);intro rb;(conv=>whnf);repeat (refine QCall.k0 (listW H line 1 hf hl) ?_;conv=>whnf)
 refine ⟨fun hz=>?_,fun hz=>?_⟩<;>simp at hz
 ·(conv=>whnf);repeat ((first|(refine ⟨_,_,.here _,leOK,?_⟩)|refine ⟨_,_,.head _,rfl,?_⟩);conv=>whnf)
  rw [list_none hz];exact VLe.tup (.cons (VLe.agg (.cons (VLe.nil (by decide)) (.cons (VLe.refl _) .nil))) (.cons (VLe.refl _) .nil))
 obtain ⟨r,l,h1,h2⟩:=list_first hz;rw [h1,h2,hz];(conv=>whnf);repeat ((first|(refine ixn (enc:=encRdg) 0 rfl rfl ?_)|refine ⟨_,_,.head _,rfl,?_⟩|refine ⟨_,_,.here _,leOK,?_⟩);conv=>whnf)
 exact VLe.refl _
end Go.Abs.Wall.Lst
namespace Go.Abs.Wall.Lst
open Go Go.Abs Go.Proofs Go.Abs.Wall
theorem rdV_split {g:List (List Edg)} (hg:GOK g) {i:Nat} (hi:i<g.length) {p:Pth} (hp:p∈rdV g i) :
  ∃ es x q,g[i]?=some es/\x∈es/\q∈rdV g x.to.toNat/\p=(x.cost+q.1,x::q.2):=by
 obtain ⟨es,hes⟩:=get_lt hi;have hE:=hg.edge i es hes;rw [rdV_cons hes hE,List.mem_map] at hp;obtain ⟨w,hw,rfl⟩:=hp;obtain ⟨t,ht⟩:=List.mem_iff_getElem?.1 hw;obtain ⟨_,l,h2,h3⟩:=mgW_cand ht;unfold clsG at h2;rw [List.getElem?_map] at h2;cases hx:es[w.edge]? with
 | none=>rw [hx] at h2;cases h2
 | some x=>
   rw [hx] at h2;cases h2
   unfold extC at h3;rw [List.getElem?_map] at h3;cases hq:(rdV g x.to.toNat)[w.rank]? with
   | none=>rw [hq] at h3;cases h3
   | some q=>
     rw [hq] at h3;have h3:x.cost+q.1=w.cost:=(by simpa using h3);refine ⟨es,x,q,hes,List.mem_of_getElem? hx,List.mem_of_getElem? hq,?_⟩;unfold mkR;rw [hx];show (w.cost,x::((rdV g x.to.toNat).getD w.rank (0,[])).2)=_;rw [List.getD_eq_getElem?_getD,hq,h3];rfl
end Go.Abs.Wall.Lst
namespace Go.Abs.Wall.Lst
open Go Go.Abs Go.Proofs Go.Abs.Wall
theorem stS_taken (cls:List (List Int)) (k:Nat):∀ (t r:Nat),r<stS cls t k->∃ t',t'<t/\∃ x,(mgW cls)[t']?=some x/\x.edge=k/\x.rank=r
 | 0,r,h=>by cases h
 | t+1,r,h=>by
   cases hm:(mgW cls)[t]? with
   | none=>
     rw [stS_stay hm] at h;obtain ⟨t',h1,h2⟩:=stS_taken cls k t r h;exact ⟨t',by omega,h2⟩
   | some x=>
     by_cases h3:r<stS cls t k
     ·obtain ⟨t',h1,h2⟩:=stS_taken cls k t r h3;exact ⟨t',by omega,h2⟩
     rw [stS_succ hm] at h;unfold up at h;split at h
     ·rename_i he;have h5:=(mgW_cand hm).1;refine ⟨t,by omega,x,hm,he.symm,?_⟩;rw [h5,<- he];rw [<- he] at h;omega
     omega
theorem mgW_all {cls:List (List Int)} {k r:Nat} {l:List Int} {c:Int} (hl:cls[k]?=some l) (hc:l[r]?=some c):(⟨c,k,r⟩:Wy)∈mgW cls:=by
 have hlt:r<stS cls (mgW cls).length k:=by
  refine Classical.byContradiction fun hn=>?_;have hb:best cls (stS cls (mgW cls).length)=none:=by rw [<- mgW_get];exact List.getElem?_eq_none (Nat.le_refl _)
  have hr:stS cls (mgW cls).length k<l.length:=by have:=(List.getElem?_eq_some_iff.1 hc).1;omega
  obtain ⟨c',hc'⟩:=get_lt hr;exact best_none hb ⟨c',k,stS cls (mgW cls).length k⟩ ⟨rfl,l,hl,hc'⟩
 obtain ⟨t,_,x,hx,he,hr⟩:=stS_taken cls k _ r hlt;obtain ⟨_,l',h2,h3⟩:=mgW_cand hx
 have:x=⟨c,k,r⟩:=by
  obtain ⟨xc,xe,xr⟩:=x;simp only at he hr h2 h3;subst he hr;rw [hl] at h2;cases h2
  rw [hc] at h3;cases h3
  rfl
 rw [<- this];exact List.mem_of_getElem? hx
def PathG (g:List (List Edg)):Nat->List Edg->Prop
 | i,[]=>i=g.length
 | i,x::l=>∃ es,g[i]?=some es/\x∈es/\PathG g x.to.toNat l
theorem rdV_path {g:List (List Edg)} (hg:GOK g):∀ (d i:Nat),i+d=g.length->∀ p,p∈rdV g i↔PathG g i p.2/\p.1=sumC p.2:=by
 intro d;induction d using Nat.strongRecOn with
 | _ d ih=>
   intro i hi p;by_cases h:i<g.length
   ·constructor
    ·intro hp;refine ⟨?_,(rdV_sum hg d i hi p hp).symm⟩;obtain ⟨es,x,q,hes,hx,hq,rfl⟩:=rdV_split hg h hp;have ho:=hg.edge i es hes x hx;have h5:=ho.lo;have h6:=ho.hi;exact ⟨es,hes,hx,((ih (g.length - x.to.toNat) (by omega) x.to.toNat (by omega) q).1 hq).1⟩
    rintro ⟨hp,hc⟩;obtain ⟨pc,pl⟩:=p;simp only at hp hc;cases pl with
    | nil=>have hp:i=g.length:=hp;omega
    | cons x l=>
      obtain ⟨es,hes,hx,hp⟩:=hp;have hE:=hg.edge i es hes;have ho:=hE x hx;have h5:=ho.lo;have h6:=ho.hi;have hq:=(ih (g.length - x.to.toNat) (by omega) x.to.toNat (by omega) (sumC l,l)).2 ⟨hp,rfl⟩;obtain ⟨r,hr⟩:=List.mem_iff_getElem?.1 hq;obtain ⟨k,hk⟩:=List.mem_iff_getElem?.1 hx;rw [rdV_cons hes hE,List.mem_map];refine ⟨⟨x.cost+sumC l,k,r⟩,mgW_all (l:=extC x (rdV g x.to.toNat)) ?_ ?_,?_⟩
      ·unfold clsG;rw [List.getElem?_map,hk];rfl
      ·unfold extC;rw [List.getElem?_map,hr];rfl
      unfold mkR;show (match es[k]? with|none=>_|some x=>_)=_;rw [hk];show (x.cost+sumC l,x::((rdV g x.to.toNat).getD r (0,[])).2)=_;rw [List.getD_eq_getElem?_getD,hr,hc,sumC_cons];rfl
   have:i=g.length:=(by omega);subst this;rw [rdV_end,List.mem_singleton];constructor
   ·rintro rfl;exact ⟨rfl,rfl⟩
   rintro ⟨hp,hc⟩;obtain ⟨pc,pl⟩:=p;cases pl with
   | nil=>rw [show pc=0 from hc]
   | cons x l=>
     obtain ⟨es,hes,_⟩:=hp;rw [List.getElem?_eq_none (Nat.le_refl _)] at hes;cases hes
def Rows (g:List (List Edg)):Prop:=∀ (i:Nat) es,g[i]?=some es->∀ (j k:Nat) x y,j<k->es[j]?=some x->es[k]?=some y->wrdCmp x.word y.word<0
end Go.Abs.Wall.Lst
namespace Go.Abs.Wall.Lst
open Go Go.Abs Go.Proofs Go.Abs.Wall
theorem spellGo_pw {p:Prg} {u:Use}:∀ {l:List Cli} {c:Int},(spellGo p u l c).Pairwise fun a b=>a.cl.length=b.cl.length/\a.cl≠b.cl
 | [],_=>.nil
 | k::t,c=>by
   unfold spellGo;rw [List.pairwise_append];refine ⟨?_,spellGo_pw,fun a ha b hb=>?_⟩
   ·split
    ·exact List.pairwise_singleton _ _
    exact .nil
   split at ha
   ·rw [List.mem_singleton] at ha;subst ha;obtain ⟨j,_,hj⟩:=spellGo_mem hb;rw [hj];refine ⟨by simp,fun e=>?_⟩;have:=List.append_cancel_left e;simp at this;omega
   cases ha
theorem nextM_pw (s:Sp) (p:Prg) (u:Use):(nextM s p u).Pairwise fun a b=>a.cl.length=b.cl.length/\a.cl≠b.cl:=by
 unfold nextM spellM;repeat' split
 all_goals first|exact .nil|exact List.pairwise_singleton _ _|exact spellGo_pw
theorem nextM_pre {s:Sp} {p q:Prg} {u:Use} (h:q∈nextM s p u):p.cl <+: q.cl:=by
 unfold nextM spellM at h;repeat' split at h
 all_goals first|(cases h;done)|(rw [List.mem_singleton] at h;subst h;exact List.prefix_rfl)|(obtain ⟨j,_,hj⟩:=spellGo_mem h;rw [hj];exact List.prefix_append _ _)
theorem runP_pre {s:Sp}:∀ {us:List Use} {p q:Prg},RunP s p us q->p.cl <+: q.cl
 | [],p,q,h=>by have h:q=p:=h;rw [h];exact List.prefix_rfl
 | u::us,p,q,⟨r,h1,h2⟩=>List.IsPrefix.trans (nextM_pre h1) (runP_pre h2)
theorem pre_eq {α:Type} {a b z:List α} (h1:a <+: z) (h2:b <+: z) (hl:a.length=b.length):a=b:=
 (List.prefix_of_prefix_length_le h1 h2 (Nat.le_of_eq hl)).eq_of_length hl
theorem wordsF_mem {E:Env} {x:Edg} {r:List (List Use)} {q:Prg} {T:List Use} (h:x∈headW E q T++wordsR E r q T):∃ us,x.word.uses=T++us/\q.cl <+: x.word.form.clitics:=by
 rcases List.mem_append.1 h with h|h
 ·unfold headW at h;split at h
  ·rw [List.mem_singleton] at h;subst h;exact ⟨[],(List.append_nil _).symm,List.prefix_rfl⟩
  cases h
 rw [wordsR_mem] at h;obtain ⟨us,q',_,_,h3,_,rfl⟩:=h;exact ⟨us,rfl,runP_pre h3⟩
theorem wordsR_pw {E:Env}:∀ (rest:List (List Use)) (p:Prg) (T:List Use),(∀ r∈rest,r.Nodup)->(wordsR E rest p T).Pairwise fun x y=>x.word≠y.word
 | [],_,_,_=>.nil
 | us::r,p,T,hn=>by
   unfold wordsR;rw [List.pairwise_flatMap];constructor
   ·intro u hu;rw [List.pairwise_flatMap];constructor
    ·intro q hq;rw [List.pairwise_append];refine ⟨?_,wordsR_pw r q (T++[u]) (fun z hz=>hn z (by simp [hz])),fun a ha b hb e=>?_⟩
     ·unfold headW;split
      ·exact List.pairwise_singleton _ _
      exact .nil
     unfold headW at ha;split at ha
     ·rw [List.mem_singleton] at ha;subst ha;rw [wordsR_mem] at hb;obtain ⟨us',q',h1,_,_,_,rfl⟩:=hb;have:=congrArg (fun w=>w.uses.length) e;simp only [mkEdge,List.length_append] at this;have:=List.length_pos_iff.2 h1;omega
     cases ha
    refine (nextM_pw E.s p u).imp ?_;rintro a b ⟨h1,h2⟩ x hx y hy e;obtain ⟨_,_,h3⟩:=wordsF_mem hx;obtain ⟨_,_,h4⟩:=wordsF_mem hy;rw [e] at h3;exact h2 (pre_eq h3 h4 h1)
   refine (hn us (by simp)).imp ?_;rintro a b hab x hx y hy e;obtain ⟨q1,_,hx⟩:=List.mem_flatMap.1 hx;obtain ⟨q2,_,hy⟩:=List.mem_flatMap.1 hy;obtain ⟨u1,h3,_⟩:=wordsF_mem hx;obtain ⟨u2,h4,_⟩:=wordsF_mem hy;rw [e,h4] at h3;rw [List.append_assoc,List.append_assoc] at h3;have:=List.append_cancel_left h3;simp at this;exact hab this.1.symm
theorem usesAt_nodup {H:Hou} (hH:HouOK H) {n:Int} (h:0<=n/\n<H.list.signs.length):(usesAt H n).Nodup:=by have:=lst_sgn hH.lst _ (List.mem_of_getElem? (sgnAt_get h.1 h.2));unfold usesAt usesM sortU;exact (sortL_perm.nodup_iff).2 (useGo_nodup (sgn_apart this _))
theorem wordsOf_form {H:Hou} {All:List (List Use)} {i e k:Nat} {x:Edg} (h:x∈wordsOf H All i e k):x.word.form.entry=e/\x.word.form.ending=(k:Int) - 1:=by
 unfold wordsOf at h;split at h
 ·cases h
 unfold wordsF at h;rcases List.mem_append.1 h with h|h
 ·unfold headW at h;split at h
  ·rw [List.mem_singleton] at h;subst h;exact ⟨rfl,rfl⟩
  cases h
 rw [wordsR_mem] at h;obtain ⟨us,q',_,_,_,_,rfl⟩:=h;exact ⟨rfl,rfl⟩
theorem range_lt (n:Nat):(List.range n).Pairwise (·<·):=List.pairwise_lt_range
theorem wordsAll_pw {H:Hou} {All:List (List Use)} {i:Nat} (hn:∀ r∈All,r.Nodup):(wordsAll H All i).Pairwise fun x y=>x.word≠y.word:=by
 unfold wordsAll;rw [List.pairwise_flatMap];constructor
 ·intro e he;unfold wordsEnt;rw [List.pairwise_flatMap];constructor
  ·intro k hk;unfold wordsOf;split
   ·exact .nil
   unfold wordsF;rw [headW_nil,List.nil_append];exact wordsR_pw All _ _ hn
  refine (range_lt _).imp ?_;intro a b hab x hx y hy e;have h1:=(wordsOf_form hx).2;have h2:=(wordsOf_form hy).2;rw [e] at h1;omega
 refine (range_lt _).imp ?_;intro a b hab x hx y hy e;unfold wordsEnt at hx hy;obtain ⟨k1,_,hx⟩:=List.mem_flatMap.1 hx;obtain ⟨k2,_,hy⟩:=List.mem_flatMap.1 hy;have h1:=(wordsOf_form hx).1;have h2:=(wordsOf_form hy).1;rw [e] at h1;omega
theorem edgsAt_up {H:Hou} {line:List Int} (hL:LineOK H line) (i:Nat):(edgsAt H line i).Pairwise fun x y=>wrdCmp x.word y.word<0:=by
 have hn:∀ r∈allAt H line i,r.Nodup:=by intro r hr;unfold allAt at hr;obtain ⟨n,hm,rfl⟩:=List.mem_map.1 hr;exact usesAt_nodup hL.hou (hL.signs n (List.mem_of_mem_drop (List.mem_of_mem_take hm)))
 have h1:(edgsAt H line i).Pairwise fun x y=>x.word≠y.word:=by unfold edgsAt sortE;exact (sortL_perm.pairwise_iff (fun {x y} h=>Ne.symm h)).2 (wordsAll_pw hn)
 have h2:(edgsAt H line i).Pairwise fun x y=>¬ edgCmp y x<0:=by unfold edgsAt sortE;exact edgW.sorted _
 refine (h1.and h2).imp ?_;rintro x y ⟨h3,h4⟩;unfold edgCmp at h4;rw [zW.sgn] at h4;have h5:wrdCmp x.word y.word≠0:=fun e=>h3 ((zW.zero _ _).1 e);omega
end Go.Abs.Wall.Lst
namespace Go.Abs.Wall.Lst
open Go Go.Abs Go.Proofs Go.Abs.Wall
end Go.Abs.Wall.Lst
namespace Go.Abs.Wall.Lst
open Go Go.Abs Go.Proofs Go.Abs.Wall
theorem line_lex {H:Hou} {line:List Int} (h:lineErr H line=0):lexErr H.lex=0:=by
 unfold lineErr at h;split at h
 ·rename_i h1;exact absurd h h1
 rename_i h1;have h1:houErr H=0:=(by simpa using h1);unfold houErr at h1;split at h1
 ·rename_i h2;exact absurd h1 h2
 split at h1
 ·rename_i h2;exact absurd h1 h2
 rename_i h2;simpa using h2
theorem grow_line {H:Hou} {line:List Int} (h:growErr H line=0):lineErr H line=0:=by
 unfold growErr at h;split at h
 ·rename_i h1;exact absurd h h1
 rename_i h1;simpa using h1
end Go.Abs.Wall.Lst
namespace Go.Abs.Wall.Lst
open Go Go.Abs Go.Proofs Go.Abs.Wall
def onlyX (x:Lex) (keep:List Int):Lex:={ x with entries:=keep.map (entAt x) }
def onlyH (H:Hou) (keep:List Int):Hou:={ H with lex:=onlyX H.lex keep }
def reF (keep:List Int) (f:Frm):Frm:={ f with entry:=keep.getD f.entry.toNat 0 }
def reW (keep:List Int) (w:Wrd):Wrd:={ w with form:=reF keep w.form }
def reE (keep:List Int) (x:Edg):Edg:={ x with word:=reW keep x.word }
structure KeepOK (H:Hou) (keep:List Int):Prop where
 up:keep.Pairwise (·<·)
 inr:∀ k∈keep,0<=k/\k<H.lex.entries.length
theorem only_ent {x:Lex} {keep:List Int} {j:Int} (h0:0<=j) (h1:j<keep.length):entAt (onlyX x keep) j=entAt x (keep.getD j.toNat 0):=by obtain ⟨k,hk⟩:=get_lt (l:=keep) (i:=j.toNat) (by omega);rw [getD_of hk];unfold entAt onlyX;simp only;rw [List.getD_eq_getElem?_getD,List.getElem?_map,hk];rfl
theorem spGo_only (H:Hou) (keep:List Int) (e:Ent) (b:List UInt8) (cl:List Int):∀ (line:List Int) (us:List Use) (st:List Prg),spGo (onlyH H keep) ⟨onlyH H keep,e,b⟩ cl line us st=spGo H ⟨H,e,b⟩ cl line us st
 | n::t,u::us,st=>by rw [spGo,spGo,spGo_only H keep e b cl t us];rfl
 | [],us,st=>by cases us<;>rfl
 | n::t,[],st=>rfl
theorem spells_only {H:Hou} {keep:List Int} {line:List Int} {w:Wrd} (h0:0<=w.form.entry) (h1:w.form.entry<keep.length):spellsM (onlyH H keep) line w=spellsM H line (reW keep w):=by
 unfold spellsM;have e1:spOf (onlyH H keep) w.form=⟨onlyH H keep,entAt H.lex (keep.getD w.form.entry.toNat 0),(spOf H (reW keep w).form).body⟩:=by have hE:entAt (onlyH H keep).lex w.form.entry=entAt H.lex (keep.getD w.form.entry.toNat 0):=only_ent h0 h1;unfold spOf bodyM;rw [hE];rfl
 rw [e1,spGo_only];rfl
theorem price_only {H:Hou} {keep:List Int} {w:Wrd} (h0:0<=w.form.entry) (h1:w.form.entry<keep.length) (hf:frmErr (onlyX H.lex keep) w.form=0) (hf2:frmErr H.lex (reF keep w.form)=0):priceM (onlyH H keep) w=priceM H (reW keep w):=by unfold priceM frmW;show (if frmErr (onlyX H.lex keep) w.form=0 then wgtM (onlyX H.lex keep) w.form else 0)+_+_=_;rw [if_pos hf,if_pos (show frmErr H.lex (reW keep w).form=0 from hf2)];show wgtM (onlyX H.lex keep) w.form+_+(if (!closes w.uses&&!decide ((entAt (onlyX H.lex keep) w.form.entry).cls=[]))=true then _ else _)=_;unfold wgtM;rw [only_ent h0 h1];rfl
theorem frm_only {H:Hou} {keep:List Int} (hk:KeepOK H keep) (h1:lexErr (onlyX H.lex keep)=0) (h2:lexErr H.lex=0) {f:Frm} :
  frmErr (onlyX H.lex keep) f=0↔(0<=f.entry/\f.entry<keep.length)/\frmErr H.lex (reF keep f)=0:=by
 have hl:(onlyX H.lex keep).entries.length=keep.length:=by unfold onlyX;simp
 by_cases hw:0<=f.entry/\f.entry<keep.length
 ·have ha:wthn f.entry 0 (((onlyX H.lex keep).entries.length:Int) - 1)=true:=wthn_iff.2 ⟨hw.1,by omega⟩;have hm:keep.getD f.entry.toNat 0∈keep:=by obtain ⟨k,hk⟩:=get_lt (l:=keep) (i:=f.entry.toNat) (by omega);rw [getD_of hk];exact List.mem_of_getElem? hk
  have hr:=hk.inr _ hm;have hb:wthn (reF keep f).entry 0 ((H.lex.entries.length:Int) - 1)=true:=wthn_iff.2 ⟨hr.1,by show keep.getD f.entry.toNat 0<=_;omega⟩;have hbad:badEnd (onlyX H.lex keep) f=badEnd H.lex (reF keep f):=by unfold badEnd;rw [only_ent hw.1 hw.2];rfl
  have e1:frmErr (onlyX H.lex keep) f=if badEnd (onlyX H.lex keep) f=true then 46 else if 3<f.clitics.length then 47 else if cliOK (onlyX H.lex keep).clitics.length f.clitics (-1)=true then 0 else 47:=by unfold frmErr;rw [if_neg (by rw [h1];simp),if_neg (by rw [ha];decide)]
  have e2:frmErr H.lex (reF keep f)=if badEnd H.lex (reF keep f)=true then 46 else if 3<f.clitics.length then 47 else if cliOK H.lex.clitics.length f.clitics (-1)=true then 0 else 47:=by unfold frmErr;rw [if_neg (by rw [h2];simp),if_neg (by rw [hb];decide)];rfl
  rw [e1,e2,hbad];exact ⟨fun h=>⟨hw,h⟩,fun h=>h.2⟩
 have ha:wthn f.entry 0 (((onlyX H.lex keep).entries.length:Int) - 1)=false:=by rw [Bool.eq_false_iff,ne_eq,wthn_iff];omega
 constructor
 ·intro h;unfold frmErr at h;rw [if_neg (by omega),if_pos ha] at h;cases h
 intro h;exact absurd h.1 hw
theorem edgs_only {H:Hou} {keep:List Int} (hk:KeepOK H keep) {line:List Int} (hL:LineOK H line) (hL':LineOK (onlyH H keep) line) (h1:lexErr (onlyX H.lex keep)=0) (h2:lexErr H.lex=0)
  {i:Nat} (hi:i<=line.length) {x:Edg}:x∈edgsAt (onlyH H keep) line i↔(0<=x.word.form.entry/\x.word.form.entry<keep.length)/\reE keep x∈edgsAt H line i:=by
 rw [edgsAt_iff hL' h1 hi,edgsAt_iff hL h2 hi];show (frmErr (onlyX H.lex keep) _=0/\_)/\_↔_/\(frmErr H.lex (reF keep x.word.form)=0/\i+x.word.uses.length<=line.length/\spellsM H ((line.drop i).take x.word.uses.length) (reW keep x.word)=true)/\reE keep x=edgOf H i (reW keep x.word);constructor
 ·rintro ⟨⟨a,b,c⟩,d⟩;have hf:=(frm_only hk h1 h2).1 a;rw [spells_only hf.1.1 hf.1.2] at c;refine ⟨hf.1,⟨hf.2,b,c⟩,?_⟩;have hp:=price_only hf.1.1 hf.1.2 a hf.2;obtain ⟨fr,to,co,w⟩:=x;unfold edgOf at d ⊢;rw [hp] at d;simp only [Edg.mk.injEq] at d;obtain ⟨d1,d2,d3,-⟩:=d;unfold reE;simp only [Edg.mk.injEq];exact ⟨d1,d2,d3,by trivial⟩
 rintro ⟨hr,⟨a,b,c⟩,d⟩;have hf:=(frm_only hk h1 h2).2 ⟨hr,a⟩;refine ⟨⟨hf,b,by rw [spells_only hr.1 hr.2];exact c⟩,?_⟩;have hp:=price_only hr.1 hr.2 hf a;obtain ⟨fr,to,co,w⟩:=x;unfold edgOf at d ⊢;unfold reE at d;simp only [Edg.mk.injEq] at d;obtain ⟨d1,d2,d3,-⟩:=d;rw [hp];simp only [Edg.mk.injEq];exact ⟨d1,d2,d3,by trivial⟩
theorem reE_inj {keep:List Int} (hu:keep.Pairwise (·<·)) {x y:Edg} (hx:0<=x.word.form.entry/\x.word.form.entry<keep.length) (hy:0<=y.word.form.entry/\y.word.form.entry<keep.length) (h:reE keep x=reE keep y):x=y:=by
 obtain ⟨a1,a2,a3,⟨⟨f1,f2,f3⟩,u⟩⟩:=x;obtain ⟨b1,b2,b3,⟨⟨g1,g2,g3⟩,v⟩⟩:=y;unfold reE reW reF at h;simp only [Edg.mk.injEq,Wrd.mk.injEq,Frm.mk.injEq] at h hx hy ⊢;obtain ⟨h1,h2,h3,⟨h4,h5,h6⟩,h7⟩:=h;refine ⟨h1,h2,h3,⟨?_,h5,h6⟩,h7⟩;obtain ⟨p,hp⟩:=get_lt (l:=keep) (i:=f1.toNat) (by omega);obtain ⟨q,hq⟩:=get_lt (l:=keep) (i:=g1.toNat) (by omega);rw [getD_of hp,getD_of hq] at h4;subst h4;rw [List.pairwise_iff_getElem] at hu;obtain ⟨p1,p2⟩:=List.getElem?_eq_some_iff.1 hp;obtain ⟨q1,q2⟩:=List.getElem?_eq_some_iff.1 hq;rcases Nat.lt_trichotomy f1.toNat g1.toNat with h|h|h
 ·have:=hu _ _ p1 q1 h;omega
 ·omega
 have:=hu _ _ q1 p1 h;omega
theorem edgs_only_len {H:Hou} {keep:List Int} (hk:KeepOK H keep) {line:List Int} (hL:LineOK H line) (hL':LineOK (onlyH H keep) line) (h1:lexErr (onlyX H.lex keep)=0) (h2:lexErr H.lex=0)
  {i:Nat} (hi:i<=line.length):(edgsAt (onlyH H keep) line i).length<=(edgsAt H line i).length:=by
 have hn:((edgsAt (onlyH H keep) line i).map (reE keep)).Nodup:=by have hu:=edgsAt_up hL' i;show List.Pairwise _ _;rw [List.pairwise_map];refine List.Pairwise.imp_of_mem ?_ hu;intro x y hx hy hxy e;have:=reE_inj hk.up ((edgs_only hk hL hL' h1 h2 hi).1 hx).1 ((edgs_only hk hL hL' h1 h2 hi).1 hy).1 e;subst this;exact absurd hxy (zW.c.irr _)
 have:=nodup_sub_len hn fun y hy=>by obtain ⟨x,hx,rfl⟩:=List.mem_map.1 hy;exact ((edgs_only hk hL hL' h1 h2 hi).1 hx).2
 rwa [List.length_map] at this
theorem sumL_le {a b:List (List Edg)} (hl:a.length=b.length) (h:∀ (i:Nat) x y,a[i]?=some x->b[i]?=some y->x.length<=y.length):sumL a<=sumL b:=by
 unfold sumL;induction a generalizing b with
 | nil=>simp
 | cons x a ih=>
   cases b with
   | nil=>simp at hl
   | cons y b=>
     have h0:=h 0 x y rfl rfl;have:=ih (b:=b) (by simpa using hl) fun i x y h1 h2=>h (i+1) x y (by simpa using h1) (by simpa using h2);simp only [List.map_cons,List.sum_cons];omega
theorem grow_only {H:Hou} {keep:List Int} (hk:KeepOK H keep) (h1:lexErr (onlyX H.lex keep)=0) {line:List Int} (hg:growErr H line=0) (hl':lineErr (onlyH H keep) line=0):growErr (onlyH H keep) line=0:=by
 obtain ⟨hL,hs,_⟩:=growOK hg;have hL':=lineOK hl';have h2:=line_lex (grow_line hg);unfold growErr;rw [if_neg (by omega),if_neg]
 have:=sumL_le (a:=graphM (onlyH H keep) line) (b:=graphM H line) (by rw [graphM_len,graphM_len]) fun i x y hx hy=>by
  have hi:=(List.getElem?_eq_some_iff.1 hx).1;rw [graphM_len] at hi;rw [graphM_get hi] at hx hy;cases hx;cases hy
  exact edgs_only_len hk hL hL' h1 h2 (by omega)
 omega
end Go.Abs.Wall.Lst
namespace Go.Abs.Wall
open Go Go.Abs Go.Proofs
theorem _root_.Go.Abs.ACalls.cutT {f:FuncId} {vs:List AV} {h h0:Heap} {v0:AV} (hf:ACalls Tryz.prog f vs h fun v h'=>v=v0/\∃ Z,h'=Z++h0):ACalls Tryz.prog f vs h fun v h'=>v=v0/\h'=h0:=by refine ACalls.post hf ?_;rintro v h1 ⟨rfl,Z,rfl⟩;exact ⟨_,h0,⟨rfl,rfl⟩,VLe.refl _,fun k o hm=>List.mem_append_right _ hm,fun hn=>by unfold keys at hn ⊢;rw [List.map_append] at hn;exact (List.nodup_append.1 hn).2.1⟩
theorem _root_.Go.Abs.ACalls.cutV {f:FuncId} {vs:List AV} {h h0:Heap} {v0:AV} (hf:ACalls Tryz.prog f vs h fun v h'=>VLe v v0/\∃ Z,h'=Z++h0):ACalls Tryz.prog f vs h fun v h'=>v=v0/\h'=h0:=by refine ACalls.post hf ?_;rintro v h1 ⟨hv,Z,rfl⟩;exact ⟨_,h0,⟨rfl,rfl⟩,hv,fun k o hm=>List.mem_append_right _ hm,fun hn=>by unfold keys at hn ⊢;rw [List.map_append] at hn;exact (List.nodup_append.1 hn).2.1⟩
def encLnk (x:Lnk):List AV:=[.int .i64 x.entry,.int .i64 x.to]
def encLnks (es:List Lnk):List AV:=[.sl 2 none (es.map encLnk)]
def encGr (g:List (List Lnk)):List AV:=[.sl 1 none (g.map encLnks)]
def encCor (C:Cor):AV:=.sl 1 none (C.map encGr)
def risGo:List Int->Int->Int->Bool
 | [],_,_=>true
 | x::t,n,last=>(decide (0<=x)&&decide (x<=n - 1)&&decide (last<x))&&risGo t n x
def risM (l:List Int) (n:Int):Bool:=risGo l n (-1)
def c29:Cfg:=⟨[0,1,4,5,6,7,8,9,10,31],[],[],[],[],[]⟩
def c64:Cfg:=⟨[0,1,2,6],[],[],[],[],[]⟩
def c104:Cfg:=⟨[0,1,4,5,7,8,9,16],[],[],[],[],[]⟩
def c71:Cfg:=⟨[0,1,4],[],[],[],[],[]⟩
def c37:Cfg:=⟨[0,1,2],[],[],[],[],[]⟩
def c70:Cfg:=⟨[0,1,3],[],[],[],[],[]⟩
def c34:Cfg:=⟨[0,1,2,3,4],[],[],[],[],[]⟩
def c69:Cfg:=⟨[0,1,2,4],[],[],[],[],[]⟩
def c32:Cfg:=⟨[2],[],[],[],[],[]⟩
def c68:Cfg:=⟨[0,1,2,6,7,8,9,10,12,23,24,25,26,30,31,32,33,53],[],[12],[],[],[]⟩
def c31:Cfg:=⟨[0,1,4,5,7,8,9,15],[],[],[],[],[]⟩
def c35:Cfg:=⟨[0,1,2,6,7,9,10,11,25],[],[],[],[],[]⟩
theorem iwithin (n low high:Int):QCall Tryz.prog 64 [.int .i64 n,.int .i64 low,.int .i64 high] [] (.bool (decide (low<=n)&&decide (n<=high))):=by refine fcalls (F:=Tryz.f64) c64 rfl rfl rfl mixed rfl fun X=>?_;(conv=>whnf);skip;exact ⟨rfl,rfl⟩
theorem indexI (l:List Int) (v:Int) (hl:l.length<=LMAX):QCall Tryz.prog 104 [.sl 1 none (ints l),.int .i64 v] [] (.int .i64 (firstI (fun x=>decide (v=x)) l)):=by
 refine fcalls (F:=Tryz.f104) c104 rfl rfl rfl mixed rfl fun X=>?_;(conv=>whnf);unfold LMAX at hl;refine sloop rfl mixed [0,1,7,8] [] (fun m r h=>∃ (i:Nat),r=[(0,[],.sl 1 none (ints l)),(1,[],.int .i64 v),(7,[],.int .i64 (ints l).length),(8,[],.int .i64 i)]/\h=[]/\m=l.length - i/\i<=l.length/\Below (fun x=>decide (v=x)) l i) ?_ ?_
 ·(conv=>whnf);exact ⟨_,0,rfl,rfl,rfl,by omega,.zero⟩
 rintro m r h ⟨i,rfl,rfl,rfl,hi,hg⟩;(conv=>whnf);refine ⟨fun hc=>?_,fun hc=>?_⟩<;>simp at hc
 ·obtain ⟨x,hx⟩:=get_lt hc;(conv=>whnf);repeat (refine ix (by assumption) ?_;conv=>whnf)
  refine ⟨fun hd=>?_,fun hd=>?_⟩
  ·(conv=>whnf);exact ⟨by rw [hg.at hx hd],rfl⟩
  (conv=>whnf);repeat (refine ⟨gP_of ⟨by omega,by omega⟩,?_⟩;conv=>whnf)
  exact ⟨_,by omega,i+1,rfl,rfl,rfl,by omega,hg.succ hx hd⟩
 (conv=>whnf);exact ⟨by rw [hg.end hc],rfl⟩
theorem containsI (l:List Int) (v:Int) (hl:l.length<=LMAX):QCall Tryz.prog 71 [.sl 1 none (ints l),.int .i64 v] [] (.bool (memW l v)):=by
 refine fcalls (F:=Tryz.f71) c71 rfl rfl rfl mixed rfl fun X=>?_;(conv=>whnf);repeat (refine QCall.k0 (indexI l v hl) ?_;conv=>whnf)
 refine ⟨congrArg AV.bool ((firstI_any _ l).trans ?_),rfl⟩;unfold memW;rw [Bool.eq_iff_iff,List.any_eq_true];simp
theorem everyA (e:Int) (h:Heap):QCall Tryz.prog 32 [.int .i64 e] h (.bool (everyW e)):=by refine QCall.wide ?_ h;refine fcalls (F:=Tryz.f32) c32 rfl rfl rfl mixed rfl fun X=>?_;(conv=>whnf);exact ⟨rfl,rfl⟩
theorem chosenA (keep:List Int):QCall Tryz.prog 37 [.sl 1 none (ints keep)] [] (.fn 70 [.iptr [.sl 1 none (ints keep)]]):=by refine QCall.of' ?_;refine fcalls (F:=Tryz.f37) c37 rfl rfl rfl mixed rfl fun X=>?_;(conv=>whnf);skip
theorem chosenF (keep:List Int) (hl:keep.length<=LMAX) (e:Int):QCall Tryz.prog 70 [.int .i64 e,.iptr [.sl 1 none (ints keep)]] [] (.bool (memW keep e)):=by
 refine fcalls (F:=Tryz.f70) c70 rfl rfl rfl mixed rfl fun X=>?_;(conv=>whnf);repeat (refine QCall.k0 (containsI keep e hl) ?_;conv=>whnf)
 exact ⟨rfl,rfl⟩
theorem butA (f:FuncId) (caps:List AV) (one:Int):QCall Tryz.prog 34 [.fn f caps,.int .i64 one] [] (.fn 69 [.iptr [.int .i64 one],.iptr [.fn f caps]]):=by refine QCall.of' ?_;refine fcalls (F:=Tryz.f34) c34 rfl rfl rfl mixed rfl fun X=>?_;(conv=>whnf);skip
theorem butF {f:FuncId} {caps:List AV} {w:Int->Bool} {hp:Heap} (hw:∀ e:Int,QCall Tryz.prog f (.int .i64 e::caps) hp (.bool (w e))) (one e:Int):QCall Tryz.prog 69 [.int .i64 e,.iptr [.int .i64 one],.iptr [.fn f caps]] hp (.bool (but w one e)):=by
 have h1:=hw e;refine fcalls (F:=Tryz.f69) c69 rfl rfl rfl mixed rfl fun X=>?_;(conv=>whnf);repeat ((refine gcallH h1 ?_);conv=>whnf)
 exact ⟨rfl,rfl⟩
theorem set_same {l:List Bool} {k:Nat} (h:l[k]?=some true):l.set k true=l:=by
 refine List.ext_getElem? fun j=>?_;rw [List.getElem?_set];by_cases e:k=j
 ·subst e;have:=(List.getElem?_eq_some_iff.1 h).1;rw [if_pos rfl,h];simp [this]
 rw [if_neg e]
structure GFit (g:List (List Lnk)):Prop where
 ok:LOK g
 few:g.length<=1048576
 row:∀ es∈g,es.length<=1048576
theorem readsA {C:Cor} {i:Nat} {g:List (List Lnk)} (hi:C[i]?=some g) (hgf:GFit g) {f:FuncId} {caps:List AV} {w:Int->Bool} {hp:Heap} (hw:∀ e:Int,QCall Tryz.prog f (.int .i64 e::caps) hp (.bool (w e))) :
  QCall Tryz.prog 68 [encCor C,.int .i64 i,.fn f caps] hp (.bool (rdM w g)):=by
 have hg:=hgf.ok;have hn:=hgf.few;refine ACalls.cutT ?_;refine fcalls (F:=Tryz.f68) c68 rfl rfl rfl mixed rfl fun X=>?_;(conv=>whnf);repeat ((first|refine ix (by assumption) ?_|(refine ⟨gP_of ⟨by rw [List.length_map];omega,by rw [List.length_map];omega⟩,?_⟩)|(refine ⟨⟨rfl,by rw [List.length_map];omega,by rw [List.length_map];omega⟩,fun b=>?_⟩));conv=>whnf)
 rw [boolRow0,show (((g.map encLnks).length:Int)+1).toNat=g.length+1 by rw [List.length_map];omega];repeat ((first|(refine ixo (i:=0) (by omega) ?_)|(refine stE true (by decide) encB_len (i:=0) (by simp) (Nat.zero_add _) rfl (.here _) ?_));conv=>whnf)
 obtain ⟨l0,hl0⟩:∃ l,l=(List.replicate (g.length+1) false).set 0 true:=⟨_,rfl⟩;have hrm:rdL w g=rdGo w g 0 l0:=by rw [hl0];rfl
 rw [<- hl0];refine sloop rfl mixed [2,7,8,23,24,25] [] (fun m r h=>∃ (i:Nat) (l:List Bool),r=[(2,[],.fn f caps),(7,[],.sl 1 none (g.map encLnks)),(8,[],.osl b 0 (g.length+1) 1),(23,[],.sl 1 none (g.map encLnks)),(24,[],.int .i64 (g.map encLnks).length),(25,[],.int .i64 i)]/\h=(b,.vec (l.map encB).flatten)::hp/\m=g.length - i/\i<=g.length/\l.length=g.length+1/\rdGo w g 0 l0=rdGo w (g.drop i) i l) ?_ ?_
 ·(conv=>whnf);exact ⟨_,0,l0,rfl,rfl,rfl,by omega,by rw [hl0];simp,rfl⟩
 rintro m r h ⟨i,l,rfl,rfl,rfl,hi,hl,hgo⟩;(conv=>whnf);refine ⟨fun hi2=>?_,fun hi2=>?_⟩<;>simp at hi2
 ·obtain ⟨es,hes⟩:=get_lt hi2;have hmany:=hgf.row es (List.mem_of_getElem? hes);rw [drop_cons hes,rdGo] at hgo;(conv=>whnf);repeat (refine ix (by assumption) ?_;conv=>whnf)
  refine sloop rfl mixed [2,7,8,9,23,24,25,30,31,32] [] (fun m r h=>∃ (k:Nat) (l:List Bool),r=[(2,[],.fn f caps),(7,[],.sl 1 none (g.map encLnks)),(8,[],.osl b 0 (g.length+1) 1),(9,[],.int .i64 i),(23,[],.sl 1 none (g.map encLnks)),(24,[],.int .i64 (g.map encLnks).length),(25,[],.int .i64 i),(30,[],.sl 2 none (es.map encLnk)),(31,[],.int .i64 (es.map encLnk).length),(32,[],.int .i64 k)]/\h=(b,.vec (l.map encB).flatten)::hp/\m=es.length - k/\k<=es.length/\l.length=g.length+1/\rdGo w g 0 l0=rdGo w (g.drop (i+1)) (i+1) (mkL w i (es.drop k) l)) ?_ ?_
  ·(conv=>whnf);exact ⟨_,0,l,rfl,rfl,rfl,by omega,hl,hgo⟩
  clear hgo hl;rintro m r h ⟨k,l,rfl,rfl,rfl,hk,hl,hgo⟩;obtain ⟨li,hli⟩:=get_lt (l:=l) (i:=i) (by omega);have hgd:=getD_of (d:=false) hli;(conv=>whnf);refine ⟨fun hc=>?_,fun hc=>?_⟩<;>simp at hc
  ·obtain ⟨x,hx⟩:=get_lt hc;have hxo:=hg i es hes x (List.mem_of_getElem? hx);obtain ⟨lt,hlt⟩:=get_lt (l:=l) (i:=x.to.toNat) (by omega);rw [drop_cons hx,mkL,hgd] at hgo;have hwx:=hw x.entry;(conv=>whnf);repeat ((first|refine ix (by assumption) ?_|(intro (b9:Nat))|(refine ixo (i:=i) (by omega) ?_)|(refine ⟨x.to.toNat,gP_of ⟨by omega,by omega⟩,?_⟩)|(refine ldE encB_len (.head _) (Nat.zero_add _) hli ?_)|(refine ldE encB_len (.head _) (Nat.zero_add _) hlt ?_)|(refine gcallH (QCall.more hwx) ?_)|refine ⟨_,_,Rem.here _,⟨Nat.le_of_ble_eq_true rfl,rfl⟩,?_⟩);conv=>whnf)
   refine ⟨fun hq=>?_,fun hq=>?_⟩
   ·have hq:((li&&!lt)&&w x.entry)=true:=hq;rw [if_pos (by cases li<;>simp_all)] at hgo
    (conv=>whnf);repeat ((first|refine ⟨gP_of ⟨by omega,by omega⟩,?_⟩|(refine ⟨x.to.toNat,gP_of ⟨by omega,by omega⟩,?_⟩)|(refine stE true (by decide) encB_len (i:=x.to.toNat) (by omega) (Nat.zero_add _) rfl (.here _) ?_));conv=>whnf)
    exact ⟨_,by omega,k+1,_,rfl,rfl,rfl,by omega,by rw [List.length_set];exact hl,hgo⟩
   have hq:((li&&!lt)&&w x.entry)=false:=hq
   have hgo2:(if (li&&w x.entry)=true then l.set x.to.toNat true else l)=l:=by
    split
    ·rename_i h1;refine set_same ?_;rw [hlt];cases lt<;>simp_all
    rfl
   rw [hgo2] at hgo;(conv=>whnf);repeat (refine ⟨gP_of ⟨by omega,by omega⟩,?_⟩;conv=>whnf)
   exact ⟨_,by omega,k+1,_,rfl,rfl,rfl,by omega,hl,hgo⟩
  rw [drop_nil hc,mkL] at hgo;(conv=>whnf);repeat (refine ⟨gP_of ⟨by omega,by omega⟩,?_⟩;conv=>whnf)
  exact ⟨_,by omega,i+1,_,rfl,rfl,rfl,by omega,hl,hgo⟩
 rw [drop_nil hi2,rdGo] at hgo;obtain ⟨lz,hlz⟩:=get_lt (l:=l) (i:=g.length) (by omega);(conv=>whnf);repeat ((first|(refine ⟨g.length,gP_of ⟨by rw [List.length_map],by omega⟩,?_⟩)|(refine ldE encB_len (.head _) (Nat.zero_add _) hlz ?_));conv=>whnf)
 refine ⟨congrArg AV.bool ?_,[_],rfl⟩;unfold rdM;rw [hrm,hgo,getD_of hlz]
theorem allA {C:Cor} (hg:∀ g∈C,GFit g) (hC:C.length<=1048576) {f:FuncId} {caps:List AV} {w:Int->Bool} {hp:Heap} (hw:∀ e:Int,QCall Tryz.prog f (.int .i64 e::caps) hp (.bool (w e))) :
  QCall Tryz.prog 31 [encCor C,.fn f caps] hp (.bool (allB C w)):=by
 refine fcalls (F:=Tryz.f31) c31 rfl rfl rfl mixed rfl fun X=>?_;(conv=>whnf);refine sloop rfl mixed [0,1,7,8] [] (fun m r h=>∃ (i:Nat),r=[(0,[],encCor C),(1,[],.fn f caps),(7,[],.int .i64 (C.map encGr).length),(8,[],.int .i64 i)]/\h=hp/\m=C.length - i/\i<=C.length/\allB C w=(C.drop i).all (rdM w)) ?_ ?_
 ·(conv=>whnf);exact ⟨_,0,rfl,rfl,rfl,by omega,rfl⟩
 rintro m r h ⟨i,rfl,rfl,rfl,hi,ha⟩;(conv=>whnf);refine ⟨fun hi2=>?_,fun hi2=>?_⟩<;>simp at hi2
 ·obtain ⟨g,hgi⟩:=get_lt hi2;have hgg:=hg g (List.mem_of_getElem? hgi);rw [drop_cons hgi,List.all_cons] at ha;have hr:=readsA hgi hgg hw;(conv=>whnf);repeat ((refine QCall.k hr ?_);conv=>whnf)
  refine ⟨fun hq=>?_,fun hq=>?_⟩
  ·have hq:(!rdM w g)=true:=hq;rw [Bool.not_eq_true'] at hq;rw [hq,Bool.false_and] at ha;(conv=>whnf);skip;exact ⟨congrArg AV.bool ha.symm,rfl⟩
  have hq:(!rdM w g)=false:=hq;rw [Bool.not_eq_false'] at hq;rw [hq,Bool.true_and] at ha;(conv=>whnf);repeat (refine ⟨gP_of ⟨by omega,by omega⟩,?_⟩;conv=>whnf)
  exact ⟨_,by omega,i+1,rfl,rfl,rfl,by omega,ha⟩
 rw [drop_nil hi2] at ha;(conv=>whnf);skip;exact ⟨congrArg AV.bool ha.symm,rfl⟩
def encNat (n:Nat):List AV:=[.int .i64 (n:Int)]
theorem ints_nat (l:List Nat):ints (l.map fun i:Nat=>(i:Int))=l.map encNat:=by unfold ints;rw [List.map_map];rfl
theorem filter_snoc {p:Nat->Bool} (i:Nat):(List.range (i+1)).filter p=(List.range i).filter p++(if p i=true then [i] else []):=by rw [List.range_succ,List.filter_append,List.filter_cons];split<;>simp
theorem filter_len {p:Nat->Bool} (i:Nat):((List.range i).filter p).length<=i:=by have:=List.length_filter_le p (List.range i);rwa [List.length_range] at this
theorem needsA {C:Cor} (hg:∀ g∈C,GFit g) (hC:C.length<=1048576) {f:FuncId} {caps:List AV} {w:Int->Bool} {hp:Heap} (hw:∀ e:Int,QCall Tryz.prog f (.int .i64 e::caps) hp (.bool (w e))) (e:Int) :
  QCall Tryz.prog 35 [encCor C,.fn f caps,.int .i64 e] hp (.sl 1 none (ints (needsM C w e))):=by
 refine ACalls.cutV ?_;unfold needsM;rw [ints_nat];refine fcalls (F:=Tryz.f35) c35 rfl rfl rfl mixed rfl fun X=>?_;(conv=>whnf);refine tloop rfl mixed [0,1,2,6,9,10] [] (fun m r h=>∃ (i:Nat) (ov:AV) (oh:Heap),r=[(0,[],encCor C),(1,[],.fn f caps),(2,[],.int .i64 e),(6,[],ov),(9,[],.int .i64 (C.map encGr).length),(10,[],.int .i64 i)]/\h=oh++hp/\m=C.length - i/\i<=C.length/\Out 1 encNat ((List.range i).filter (needsF C w e)) ov oh) ?_ ?_
 ·(conv=>whnf);exact ⟨_,_,Turn.refl _ _,_,0,.nilS,[],rfl,rfl,rfl,by omega,.inl ⟨rfl,rfl,rfl⟩⟩
 rintro m r h' ⟨i,ov,oh,rfl,rfl,rfl,hi,ho⟩;have hol:=filter_len (p:=needsF C w e) i;(conv=>whnf);refine ⟨fun hi2=>?_,fun hi2=>?_⟩<;>simp at hi2
 ·obtain ⟨g,hgi⟩:=get_lt hi2;have hgg:=hg g (List.mem_of_getElem? hgi);have h1:=readsA hgi hgg hw;have h2:=readsA hgi hgg (butF hw e);have hf:needsF C w e i=(rdM w g&&!rdM (but w e) g):=by unfold needsF;rw [getD_of hgi]
  have hsn:=filter_snoc (p:=needsF C w e) i;rw [hf] at hsn;rcases ho with ⟨he,rfl,rfl⟩|⟨q,rfl,rfl⟩
  all_goals
   (conv=>whnf);repeat ((first|(refine QCall.k h1 ?_)|(refine QCall.k (QCall.more h1) ?_)|(refine gcall (butA _ _ _) ?_)|(refine gcallH h2 ?_)|(refine gcallH (QCall.more h2) ?_));conv=>whnf)
   refine ⟨fun hq=>?_,fun hq=>?_⟩
   ·have hq:(rdM w g&&!rdM (but w e) g)=true:=hq;rw [if_pos hq] at hsn;(conv=>whnf);repeat ((first|refine ⟨gP_of ⟨by omega,by omega⟩,?_⟩|(refine ⟨Nat.le_of_ble_eq_true rfl,fun q'=>?_⟩)|(refine ⟨(by simp;unfold AMAX;omega),fun q'=>⟨_,.here _,?_⟩⟩));conv=>whnf)
    refine ⟨_,_,Turn.refl _ _,_,(by omega),i+1,_,[(q',.tok)],rfl,rfl,rfl,by omega,.inr ⟨q',?_,rfl⟩⟩;rw [hsn,List.map_append];first|done|rfl|(rw [he];done)|(rw [he];rfl)
   have hq:(rdM w g&&!rdM (but w e) g)=false:=hq;rw [if_neg (by rw [hq];decide),List.append_nil] at hsn;(conv=>whnf);repeat (refine ⟨gP_of ⟨by omega,by omega⟩,?_⟩;conv=>whnf)
   refine ⟨_,_,Turn.refl _ _,_,(by omega),i+1,_,_,rfl,rfl,rfl,by omega,?_⟩;rw [hsn];first|exact .inl ⟨he,rfl,rfl⟩|exact .inr ⟨q,rfl,rfl⟩
 have hi3:i=C.length:=(by omega);subst hi3;(conv=>whnf);skip;exact ⟨ho.le (by decide),_,rfl⟩
theorem risW (l:List Int) (n:Int) (hl:l.length<=LMAX) (hn:0<=n/\n<=140737488355328):QCall Tryz.prog 29 [.sl 1 none (ints l),.int .i64 n] [] (.bool (risM l n)):=by
 refine fcalls (F:=Tryz.f29) c29 rfl rfl rfl mixed rfl fun X=>?_;(conv=>whnf);unfold LMAX at hl;refine sloop rfl mixed [0,1,7,8,9] [] (fun m r h=>∃ (i:Nat) (last:Int),r=[(0,[],.sl 1 none (ints l)),(1,[],.int .i64 n),(7,[],.sl 1 none (ints l)),(8,[],.int .i64 (ints l).length),(9,[],.int .i64 i)]/\h=[]/\m=l.length - i/\i<=l.length/\risM l n=risGo (l.drop i) n last/\((i=0/\last = -1)\/(0<i/\l[i - 1]?=some last))) ?_ ?_
 ·(conv=>whnf);exact ⟨_,0,-1,rfl,rfl,rfl,by omega,rfl,.inl ⟨rfl,rfl⟩⟩
 rintro m r h ⟨i,last,rfl,rfl,rfl,hi,hg,hla⟩;(conv=>whnf);refine ⟨fun hc=>?_,fun hc=>?_⟩<;>simp at hc
 ·obtain ⟨x,hx⟩:=get_lt hc;rw [drop_cons hx,risGo] at hg
  have hcond:((!(decide (0<=x)&&decide (x<=n - 1)))||(decide ((i:Int) > 0)&&decide (x<=l.getD ((i:Int) - 1).toNat 0)))=!(decide (0<=x)&&decide (x<=n - 1)&&decide (last<x)):=by
   rcases hla with ⟨rfl,rfl⟩|⟨h0,h1⟩
   ·rw [Bool.eq_iff_iff];simp;omega
   rw [show ((i:Int) - 1).toNat=i - 1 by omega,getD_of h1,Bool.eq_iff_iff];simp;omega
  (conv=>whnf);repeat ((first|refine ⟨gP_of ⟨by omega,by omega⟩,?_⟩|refine ix (by assumption) ?_|refine QCall.k0 (iwithin x 0 (n - 1)) ?_|(refine ixg (enc:=fun n=>[AV.int .i64 n]) (0:Int) ?_ ?_;(focus (conv=>whnf;skip));(focus (intro g0 g1;simp only [decide_eq_true_eq] at g1;show 0<=(i:Int) - 1/\(i:Int) - 1<(l.length:Int);omega))));conv=>whnf)
  refine ⟨fun hq=>?_,fun hq=>?_⟩
  ·have hq:=hcond.symm.trans hq;rw [Bool.not_eq_true'] at hq;rw [hq,Bool.false_and] at hg;(conv=>whnf);skip;exact ⟨congrArg AV.bool hg.symm,rfl⟩
  have hq:=hcond.symm.trans hq;rw [Bool.not_eq_false'] at hq;rw [hq,Bool.true_and] at hg;(conv=>whnf);repeat (refine ⟨gP_of ⟨by omega,by omega⟩,?_⟩;conv=>whnf)
  exact ⟨_,by omega,i+1,x,rfl,rfl,rfl,by omega,hg,.inr ⟨by omega,by rw [Nat.add_sub_cancel];exact hx⟩⟩
 rw [drop_nil hc,risGo] at hg;(conv=>whnf);skip;exact ⟨congrArg AV.bool hg.symm,rfl⟩
end Go.Abs.Wall
