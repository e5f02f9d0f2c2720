/- What is proved: small laws for the walks of this seat, and contracts of its functions. No condition but those each theorem names. -/
import Derived.Test.YtbmcnieifibckaaGreatN16
import Derived.Test.YtbmcnieifibckaaGreatN14
set_option maxRecDepth 100000
set_option maxHeartbeats 2000000
set_option linter.unusedVariables false
set_option linter.unusedSimpArgs false
namespace Go.Abs.Wall.Lst
open Go Go.Abs Go.Proofs Go.Abs.Wall
theorem bestGo_take {m:Nat} {rs:Nat→Nat} (h:∀ j,rs j<m):∀ {ls:List (List Int)} {k:Nat},bestGo rs (ls.map (·.take m)) k=bestGo rs ls k
 | [],k=>rfl
 | l::ls,k=>by
   rw [List.map_cons]
   unfold bestGo
   rw [bestGo_take h,List.getElem?_take_of_lt (h k)]
theorem best_take {m:Nat} {rs:Nat→Nat} {cls:List (List Int)} (h:∀ j,rs j<m):best (cls.map (·.take m)) rs=best cls rs:=bestGo_take h
theorem stS_take (cls:List (List Int)) (m:Nat):∀ t,t≤m→stS (cls.map (·.take m)) t=stS cls t
 | 0,_=>rfl
 | t+1,ht=>by
   have ih:=stS_take cls m t (by omega)
   unfold stS at ih ⊢
   rw [stF_succ,stF_succ,ih,best_take fun j=>by have:=stS_le cls t j;unfold stS at this;omega]
theorem mgW_take (cls:List (List Int)) (m:Nat):(mgW (cls.map (·.take m))).take m=(mgW cls).take m:=by
 refine List.ext_getElem? fun t=>?_
 by_cases h:t<m
 ·rw [List.getElem?_take_of_lt h,List.getElem?_take_of_lt h,mgW_get,mgW_get,stS_take cls m t (by omega)]
  exact best_take fun j=>by have:=stS_le cls t j;omega
 ·rw [List.getElem?_take_eq_none (by omega),List.getElem?_take_eq_none (by omega)]
def tl (g:List (List Edg)) (m j:Nat):List (List Edg):=((rdV g j).take m).map (·.2)
theorem tl_end (g:List (List Edg)) {m:Nat} (hm:1≤m):tl g m g.length=[[]]:=by
 unfold tl
 rw [rdV_end,List.take_of_length_le (by simpa using hm)]
 rfl
theorem tl_len (g:List (List Edg)) (m j:Nat):(tl g m j).length≤m:=by
 unfold tl
 rw [List.length_map,List.length_take];omega
theorem sumC_cons (x:Edg) (p:List Edg):sumC (x::p)=x.cost+sumC p:=by unfold sumC;rw [List.map_cons,List.sum_cons]
theorem rdV_sum {g:List (List Edg)} (hg:GOK g):∀ (d i:Nat),i+d=g.length→∀ p∈rdV g i,sumC p.2=p.1:=by
 intro d
 induction d using Nat.strongRecOn with
 | _ d ih=>
   intro i hi p hp
   by_cases h:i<g.length
   ·obtain ⟨es,hes⟩:=get_lt h
    have hE:=hg.edge i es hes
    rw [rdV_cons hes hE,List.mem_map] at hp
    obtain ⟨w,hw,rfl⟩:=hp
    rw [mkR_cost]
    obtain ⟨t,ht⟩:=List.mem_iff_getElem?.1 hw
    obtain ⟨_,l,h2,h3⟩:=mgW_cand ht
    unfold clsG at h2
    rw [List.getElem?_map] at h2
    cases hx:es[w.edge]? with
    | none=>rw [hx] at h2;cases h2
    | some x=>
      rw [hx] at h2
      cases h2
      have ho:=hE x (List.mem_of_getElem? hx)
      unfold extC at h3
      rw [List.getElem?_map] at h3
      cases hq:(rdV g x.to.toNat)[w.rank]? with
      | none=>rw [hq] at h3;cases h3
      | some q=>
        rw [hq] at h3
        have h3:x.cost+q.1=w.cost:=by simpa using h3
        have h5:=ho.lo;have h6:=ho.hi
        have:=ih (g.length - x.to.toNat) (by omega) x.to.toNat (by omega) q (List.mem_of_getElem? hq)
        unfold mkR
        rw [hx]
        show sumC (x::((rdV g x.to.toNat).getD w.rank (0,[])).2)=_
        rw [List.getD_eq_getElem?_getD,hq]
        show sumC (x::q.2)=_
        rw [sumC_cons,this,h3]
   ·have:i=g.length:=by omega
    subst this
    rw [rdV_end] at hp
    simp at hp
    subst hp
    rfl
theorem tl_bound {g:List (List Edg)} (hg:GOK g) {j:Nat} (hj:j≤g.length) (m:Nat):∀ p∈tl g m j,0≤sumC p∧sumC p≤1080000:=by
 intro p hp
 unfold tl at hp
 obtain ⟨q,hq,rfl⟩:=List.mem_map.1 hp
 have hq:=List.mem_of_mem_take hq
 have h1:=rdV_bound hg (g.length - j) j (by omega) q hq
 have h2:=rdV_sum hg (g.length - j) j (by omega) q hq
 have:=hg.few
 rw [h2]
 omega
def lsG (g:List (List Edg)) (m:Nat) (es:List Edg):List (List (List Edg)):=es.map fun x=>(tl g m x.to.toNat).map (x::·)
theorem clsS_lsG {g:List (List Edg)} (hg:GOK g) {m i:Nat} {es:List Edg} (hes:g[i]?=some es):clsS (lsG g m es)=(clsG g es).map (·.take m):=by
 unfold clsS lsG clsG
 rw [List.map_map,List.map_map]
 refine List.map_congr_left fun x hx=>?_
 have ho:=hg.edge i es hes x hx
 have h5:=ho.lo;have h6:=ho.hi
 show ((tl g m x.to.toNat).map (x::·)).map sumC=(extC x (rdV g x.to.toNat)).take m
 unfold tl extC
 rw [List.map_map,List.map_map,← List.map_take]
 refine List.map_congr_left fun p hp=>?_
 show sumC (x::p.2)=x.cost+p.1
 rw [sumC_cons,rdV_sum hg (g.length - x.to.toNat) _ (by omega) p (List.mem_of_mem_take hp)]
theorem tl_step {g:List (List Edg)} (hg:GOK g) {m i:Nat} {es:List Edg} (hes:g[i]?=some es):mrgL (lsG g m es) m=tl g m i:=by
 have hE:=hg.edge i es hes
 unfold mrgL
 rw [clsS_lsG hg hes,mgW_take]
 unfold tl
 rw [rdV_cons hes hE,← List.map_take,List.map_map]
 refine List.map_congr_left fun w hw=>?_
 obtain ⟨t,ht⟩:=List.mem_iff_getElem?.1 hw
 have htm:t<m:=by
  have:=(List.getElem?_eq_some_iff.1 ht).1
  rw [List.length_take] at this;omega
 rw [List.getElem?_take_of_lt htm] at ht
 have hr:=mgW_rank ht
 obtain ⟨_,l,h2,h3⟩:=mgW_cand ht
 unfold clsG at h2
 rw [List.getElem?_map] at h2
 cases hx:es[w.edge]? with
 | none=>rw [hx] at h2;cases h2
 | some x=>
   rw [hx] at h2
   cases h2
   unfold extC at h3
   rw [List.getElem?_map] at h3
   cases hq:(rdV g x.to.toNat)[w.rank]? with
   | none=>rw [hq] at h3;cases h3
   | some q=>
     show selW (lsG g m es) w=(mkR es (fun x=>rdV g x.to.toNat) w).2
     unfold selW lsG mkR
     rw [List.getD_eq_getElem?_getD,List.getD_eq_getElem?_getD,List.getElem?_map,hx]
     show (((tl g m x.to.toNat).map (x::·))[w.rank]?).getD []=x::((rdV g x.to.toNat).getD w.rank (0,[])).2
     unfold tl
     rw [List.getD_eq_getElem?_getD,hq,List.getElem?_map,List.getElem?_map,List.getElem?_take_of_lt (by omega),hq]
     rfl
def c82:Cfg:=⟨[0,1,2],[1],[2],[],[],[]⟩
def c98:Cfg:=⟨[0,1,4,5,6,7,8,9,10,11,12,13,14,15,31,40,57,108,131],[],[],[],[(15,[0,1,2,3,4,5,6,7,8,9,10,11,12,13,14,15,16,17,18,19,20,21,22,23,24,25,26,27,28,29,30,31,32,33],[]),(26,[0,1,2,3,4,5,6,7,8,9,10],[])],[]⟩
theorem copyWordW (w:Wrd) (h1:w.form.clitics.length≤AMAX) (h2:w.uses.length≤AMAX):QCall Tryz.prog 82 [.agg (encWrd w)] [] (.agg (encWrd w)):=by
 refine QCall.of ?_
 refine fcalls (F:=Tryz.f82) c82 rfl rfl rfl mixed rfl fun X=>?_
 conv=>whnf
 intro b1
 conv=>whnf
 intro b2
 conv=>whnf
 repeat ((first|(refine ⟨(by rw [ints_length];exact h1),fun q1=>?_⟩)|(refine ⟨(by rw [List.length_map];exact h2),fun q2=>?_⟩)|(refine ⟨_,_,.there (.there (.here _)),leOK,?_⟩)|(refine ⟨_,_,.there (.there (.there (.here _))),leOK,?_⟩)|(refine ⟨_,_,.tail _ (.tail _ (.head _)),rfl,?_⟩)|(refine ⟨_,_,.tail _ (.tail _ (.tail _ (.head _))),rfl,?_⟩)|refine ⟨_,_,.tail _ (.head _),rfl,?_⟩);conv=>whnf)
 refine ⟨_,_,.there (.there (.here _)),⟨Nat.le_of_ble_eq_true rfl,rfl⟩,?_⟩
 exact VLe.agg (.cons (VLe.refl _) (.cons (VLe.refl _) (.cons VLe.sl (.cons VLe.sl .nil))))
end Go.Abs.Wall.Lst
namespace Go.Abs.Wall.Lst
open Go Go.Abs Go.Proofs Go.Abs.Wall
theorem rdV_fit {g:List (List Edg)} (hg:GOK g):∀ (d i:Nat),i+d=g.length→∀ p∈rdV g i,p.2.length≤d∧∀ x∈p.2,WrdFit x.word:=by
 intro d
 induction d using Nat.strongRecOn with
 | _ d ih=>
   intro i hi p hp
   by_cases h:i<g.length
   ·obtain ⟨es,hes⟩:=get_lt h
    have hE:=hg.edge i es hes
    rw [rdV_cons hes hE,List.mem_map] at hp
    obtain ⟨w,hw,rfl⟩:=hp
    unfold mkR
    cases hx:es[w.edge]? with
    | none=>exact ⟨Nat.zero_le _,fun x hx=>by cases hx⟩
    | some x=>
      have ho:=hE x (List.mem_of_getElem? hx)
      have h5:=ho.lo;have h6:=ho.hi
      show (x::((rdV g x.to.toNat).getD w.rank (0,[])).2).length≤d∧∀ y∈x::((rdV g x.to.toNat).getD w.rank (0,[])).2,WrdFit y.word
      rw [List.getD_eq_getElem?_getD]
      cases hq:(rdV g x.to.toNat)[w.rank]? with
      | none=>
        refine ⟨by simp;omega,fun y hy=>?_⟩
        rw [List.mem_singleton.1 hy]
        exact ho.fit
      | some q=>
        obtain ⟨h7,h8⟩:=ih (g.length - x.to.toNat) (by omega) x.to.toNat (by omega) q (List.mem_of_getElem? hq)
        refine ⟨by show q.2.length+1≤d;omega,fun y hy=>?_⟩
        rcases List.mem_cons.1 hy with rfl|hy
        ·exact ho.fit
        ·exact h8 y hy
   ·have:i=g.length:=by omega
    subst this
    rw [rdV_end] at hp
    simp at hp
    subst hp
    exact ⟨Nat.zero_le _,fun x hx=>by cases hx⟩
theorem tl_fit {g:List (List Edg)} (hg:GOK g) {j:Nat} (hj:j≤g.length) (m:Nat):∀ p∈tl g m j,p.length≤60∧∀ x∈p,WrdFit x.word:=by
 intro p hp
 unfold tl at hp
 obtain ⟨q,hq,rfl⟩:=List.mem_map.1 hp
 obtain ⟨h1,h2⟩:=rdV_fit hg (g.length - j) j (by omega) q (List.mem_of_mem_take hq)
 have:=hg.few
 exact ⟨by omega,h2⟩
def slP (l:List (List Edg)):AV:=.sl 1 none (l.map encR)
def TT (g:List (List Edg)) (m a j:Nat):AV:=if a≤j then slP (tl g m j) else .nilS
def rdgOf (p:List Edg):Rdg:=⟨p.map (·.word),sumC p⟩
theorem rdsOf_tl {g:List (List Edg)} (hg:GOK g) (m:Nat):rdsOf g m=(tl g m 0).map rdgOf:=by
 unfold rdsOf tl
 rw [List.map_map]
 refine List.map_congr_left fun p hp=>?_
 show pthR p=rdgOf p.2
 unfold pthR rdgOf
 rw [rdV_sum hg g.length 0 (by omega) p (List.mem_of_mem_take hp)]
theorem mrgL_nil (m:Nat):mrgL [] m=[]:=by
 unfold mrgL clsS mgW
 simp [remGo,gen]
theorem mergeNil (most:Nat) (hm:most≤64):QCall Tryz.prog 161 [.nilO,.int .i64 most] [] (slP []):=by
 refine QCall.of ?_
 refine fcalls (F:=Tryz.f161) c161 rfl rfl rfl mixed rfl fun X=>?_
 conv=>whnf
 skip
 refine sloop rfl mixed [0,1,5] [] (fun m r h=>r=[(0,[],.nilO),(1,[],.int .i64 most),(5,[],.nilS)]∧h=[]∧m=0∧True) ?_ ?_
 ·conv=>whnf
  exact ⟨_,rfl,rfl,rfl,trivial⟩
 ·rintro m r h' ⟨rfl,rfl,rfl,-⟩
  conv=>whnf
  skip
  refine ⟨fun hz=>?_,fun hz=>?_⟩<;>simp at hz
  ·conv=>whnf
   skip
   refine sloop rfl mixed [0,1,5,6,7] [] (fun m r h=>r=[(0,[],.nilO),(1,[],.int .i64 most),(5,[],.nilS),(6,[],.int .i64 (-1)),(7,[],.int .i64 0)]∧h=[]∧m=0∧True) ?_ ?_
   ·conv=>whnf
    exact ⟨_,rfl,rfl,rfl,trivial⟩
   ·rintro m r h' ⟨rfl,rfl,rfl,-⟩
    conv=>whnf
    skip
    refine ⟨fun hz2=>absurd (of_decide_eq_true hz2) (by omega),fun _=>?_⟩
    conv=>whnf
    skip
    refine ⟨fun _=>?_,fun hz3=>absurd hz3 (by decide)⟩
    conv=>whnf
    skip
    exact VLe.nil (by decide)
  ·conv=>whnf
   skip
   exact VLe.nil (by decide)
theorem _root_.Go.Abs.VsLe.pre {a b:List AV} (h:VsLe a b):∀ xs:List AV,VsLe (xs++a) (xs++b)
 | []=>h
 | x::xs=>.cons (VLe.refl x) (VsLe.pre h xs)
theorem VssLe.pre {a b:List (List AV)} (h:VssLe a b):∀ xs:List (List AV),VssLe (xs++a) (xs++b)
 | []=>h
 | x::xs=>.cons (VsLe.refl x) (VssLe.pre h xs)
theorem Turn.left {r:Regs} {A Z:Heap}:Turn r (A++Z) r A:=
 Turn.sub (fun k o hm=>List.mem_append_left _ hm) fun hn=>by
  unfold keys at hn ⊢
  rw [List.map_append] at hn
  exact (List.nodup_append.1 hn).1
def ORow (L:List (List (List Edg))) (v:AV) (hp:Heap):Prop:=(L=[]∧v=.nilO∧hp=[])∨∃ lb,L≠[]∧v=.osl lb 0 L.length 1∧hp=[(lb,.vec (L.map encS).flatten)]
set_option maxHeartbeats 2000000 in
theorem firstW (g:List (List Edg)) (hg:GOK g) (most:Nat) (hm1:1≤most) (hm:most≤64):QCall Tryz.prog 98 [.sl 1 none (g.map encEdgs),.int .i64 most] [] (.sl 2 none ((rdsOf g most).map encRdg)):=by
 have hfew:=hg.few
 refine QCall.of ?_
 refine fcalls (F:=Tryz.f98) c98 rfl rfl rfl mixed rfl fun X=>?_
 conv=>whnf
 repeat ((first|(refine ⟨gP_of ⟨by rw [List.length_map];omega,by rw [List.length_map];omega⟩,?_⟩)|(refine ⟨⟨rfl,by rw [List.length_map];omega,by rw [List.length_map];omega⟩,fun b=>?_⟩));conv=>whnf)
 rw [show (((g.map encEdgs).length:Int)+1).toNat=g.length+1 by rw [List.length_map];omega,show repC (g.length+1) [AV.nilS]=rowsF (g.length+1) (fun _=>.nilS) from repC_F _ _]
 repeat ((first|(refine ⟨g.length,gP_of ⟨by rw [List.length_map],by omega⟩,?_⟩)|(refine stoF ?_ (.here _) ?_;(focus (show 0+g.length*1<g.length+1;omega)))|(refine ⟨gP_of ⟨by rw [List.length_map];omega,by rw [List.length_map];omega⟩,?_⟩));conv=>whnf)
 refine tloop rfl mixed [0,1,5,6] [] (fun m r h=>∃ (a:Nat) (c:Int),r=[(0,[],.sl 1 none (g.map encEdgs)),(1,[],.int .i64 most),(5,[],.osl b 0 (g.length+1) 1),(6,[],.int .i64 c)]∧h=[(b,.vec (rowsF (g.length+1) (TT g most a)))]∧m=a∧c=(a:Int) - 1∧a≤g.length) ?_ ?_
 ·conv=>whnf
  refine ⟨_,_,Turn.refl _ _,_,g.length,_,rfl,?_,rfl,by rw [List.length_map],by omega⟩
  refine congrArg (fun z=>[(b,Ob.vec z)]) (rowsF_congr fun j hj=>?_)
  unfold TT
  by_cases h:j=g.length
  ·rw [if_pos (show j=0+g.length*[AV.nilS].length by simp;omega),if_pos (by omega),h,tl_end g hm1];rfl
  ·rw [if_neg (show ¬ j=0+g.length*[AV.nilS].length by simp;omega),if_neg (by omega)]
 ·rintro a r h' ⟨a',c,rfl,rfl,rfl,hca,ha⟩
  conv=>whnf
  refine ⟨fun hi3=>?_,fun hi3=>?_⟩<;>simp at hi3
  ·obtain ⟨d,rfl⟩:∃ d,a=d+1:=⟨a - 1,by omega⟩
   have hcd:c=(d:Int):=by omega
   subst hcd
   obtain ⟨es,hes⟩:=get_lt (l:=g) (i:=d) (by omega)
   have hmany:=hg.many d es hes
   conv=>whnf
   skip
   refine tloop rfl mixed [0,1,5,6,7,8] [] (fun m r h=>∃ (k:Nat) (lv:AV) (lh:Heap),r=[(0,[],.sl 1 none (g.map encEdgs)),(1,[],.int .i64 most),(5,[],.osl b 0 (g.length+1) 1),(6,[],.int .i64 d),(7,[],lv),(8,[],.int .i64 k)]∧h=(b,.vec (rowsF (g.length+1) (TT g most (d+1))))::lh∧m=es.length - k∧k≤es.length∧ORow ((lsG g most es).take k) lv lh) ?_ ?_
   ·conv=>whnf
    exact ⟨_,_,Turn.weak (.cons (VLe.refl _) (.cons (VLe.refl _) (.cons (VLe.refl _) (.cons (VLe.refl _) (.cons nil_le_nilO (RLe.refl _)))))),_,0,.nilO,[],rfl,rfl,rfl,by omega,.inl ⟨rfl,rfl,rfl⟩⟩
   ·rintro m r h' ⟨k,lv,lh,rfl,rfl,rfl,hk,ho⟩
    have ho0:=ho
    rcases ho with ⟨hon,rfl,rfl⟩|⟨lb,hLn,rfl,rfl⟩
    ·skip
     conv=>whnf
     repeat (refine ix (by assumption) ?_;conv=>whnf)
     refine ⟨fun hk2=>?_,fun hk2=>?_⟩<;>simp at hk2
     ·obtain ⟨x,hx⟩:=get_lt hk2
      have hxo:=hg.edge d es hes x (List.mem_of_getElem? hx)
      have h1:=hxo.lo
      have h2:=hxo.hi
      have hq2:TT g most (d+1) (0+x.to.toNat*1)=slP (tl g most x.to.toNat):=by
       unfold TT
       rw [if_pos (by omega),Nat.zero_add,Nat.mul_one]
      conv=>whnf
      repeat ((first|refine ix (by assumption) ?_|(refine ⟨x.to.toNat,gP_of ⟨by omega,by omega⟩,?_⟩)|(refine ldoF (slP (tl g most x.to.toNat)) (.head _) rfl (by omega) hq2 ?_));conv=>whnf)
      have hTl:=tl_len g most x.to.toNat
      have hTb:=tl_bound hg (j:=x.to.toNat) (by omega) most
      have hxc:=hxo.cost
      have hnx:(lsG g most es).take (k+1)=(lsG g most es).take k++[(tl g most x.to.toNat).map (x::·)]:=by
       refine take_snoc ?_
       unfold lsG
       rw [List.getElem?_map,hx];rfl
      obtain ⟨T,hT⟩:∃ T,T=tl g most x.to.toNat:=⟨_,rfl⟩
      rw [← hT] at hTl hTb hnx
      rw [← hT]
      refine tloop rfl mixed [0,1,5,6,7,8,9,10,11] [] (fun m r h=>∃ (j:Nat) (ov:AV) (oh:Heap),r=[(0,[],.sl 1 none (g.map encEdgs)),(1,[],.int .i64 most),(5,[],.osl b 0 (g.length+1) 1),(6,[],.int .i64 d),(7,[],.nilO),(8,[],.int .i64 k),(9,[],ov),(10,[],slP T),(11,[],.int .i64 j)]∧h=(b,.vec (rowsF (g.length+1) (TT g most (d+1))))::([]++oh)∧m=T.length - j∧j≤T.length∧Out 1 encR ((T.take j).map (x::·)) ov oh) ?_ ?_
      ·conv=>whnf
       exact ⟨_,_,Turn.refl _ _,_,0,.nilS,[],rfl,rfl,rfl,by omega,.inl ⟨rfl,rfl,rfl⟩⟩
      ·rintro m r h' ⟨j,ov,oh,rfl,rfl,rfl,hj,ho2⟩
       have hol:((T.take j).map (x::·)).length=j:=by rw [List.length_map,List.length_take];omega
       rcases ho2 with ⟨hon2,rfl,rfl⟩|⟨q,rfl,rfl⟩
       ·conv=>whnf
        skip
        refine ⟨fun hj2=>?_,fun hj2=>?_⟩<;>simp at hj2
        ·obtain ⟨p,hp⟩:=get_lt (l:=T) (i:=j) (by omega)
         have hpb:=hTb p (List.mem_of_getElem? hp)
         have hst:((T.take (j+1)).map (x::·)).map encR=[[.iptr (.int .i64 (x.cost+sumC p)::(encWrd x.word++[.iptr (encN p)]))]]:=by
          rw [take_snoc hp,List.map_append,hon2]
          show [[AV.iptr (.int .i64 (sumC (x::p))::_)]]=_
          rw [sumC_cons];rfl
         conv=>whnf
         repeat ((first|refine ⟨gP_of ⟨by omega,by omega⟩,?_⟩|refine ix (by assumption) ?_|refine And.intro (by show drawOK (opsAt Tryz.f98 _) _=true;decide +kernel) ?_);conv=>whnf)
         refine ⟨Nat.le_of_ble_eq_true rfl,fun q2=>?_⟩
         conv=>whnf
         repeat (refine ⟨gP_of ⟨by omega,by omega⟩,?_⟩;conv=>whnf)
         exact ⟨_,_,Turn.perm (List.perm_append_comm (l₁:=[_]) (l₂:=[_])),_,(by omega),j+1,_,[(q2,.tok)],rfl,rfl,rfl,by omega,.inr ⟨q2,by rw [hst];rfl,rfl⟩⟩
        ·have hTe:((T.take j).map (x::·))=T.map (x::·):=by rw [List.take_of_length_le (by omega)]
         rw [hon2] at hTe
         conv=>whnf
         repeat ((first|refine ⟨gP_of ⟨by omega,by omega⟩,?_⟩|(refine ⟨⟨Nat.le_of_ble_eq_true rfl,Nat.le_of_ble_eq_true rfl⟩,fun b4=>?_⟩));conv=>whnf)
         have hve:VLe .nilS (slP (T.map (x::·))):=by rw [← hTe];exact VLe.nil (by decide)
         exact ⟨_,_,Turn.trans (Turn.cells (ys:=encS (T.map (x::·))) (.here _) (.cons hve .nil)) (Turn.perm (List.Perm.swap _ _ _)),_,(by omega),k+1,_,[(b4,_)],rfl,rfl,rfl,by omega,.inr ⟨b4,by rw [hnx];simp,(by rw [hnx,hon];rfl),(by rw [hnx,hon];rfl)⟩⟩
       ·conv=>whnf
        skip
        refine ⟨fun hj2=>?_,fun hj2=>?_⟩<;>simp at hj2
        ·obtain ⟨p,hp⟩:=get_lt (l:=T) (i:=j) (by omega)
         have hpb:=hTb p (List.mem_of_getElem? hp)
         have hst:((T.take (j+1)).map (x::·)).map encR=((T.take j).map (x::·)).map encR++[[.iptr (.int .i64 (x.cost+sumC p)::(encWrd x.word++[.iptr (encN p)]))]]:=by
          rw [take_snoc hp,List.map_append,List.map_append]
          show _++[[AV.iptr (.int .i64 (sumC (x::p))::_)]]=_
          rw [sumC_cons];rfl
         conv=>whnf
         repeat ((first|refine ⟨gP_of ⟨by omega,by omega⟩,?_⟩|refine ix (by assumption) ?_|refine And.intro (by show drawOK (opsAt Tryz.f98 _) _=true;decide +kernel) ?_);conv=>whnf)
         refine ⟨(by rw [List.length_append,List.length_map,hol];simp;unfold AMAX;omega),fun q2=>⟨_,.there (.here _),?_⟩⟩
         conv=>whnf
         repeat (refine ⟨gP_of ⟨by omega,by omega⟩,?_⟩;conv=>whnf)
         exact ⟨_,_,Turn.refl _ _,_,(by omega),j+1,_,[(q2,.tok)],rfl,rfl,rfl,by omega,.inr ⟨q2,by rw [hst];rfl,rfl⟩⟩
        ·have hTe:((T.take j).map (x::·))=T.map (x::·):=by rw [List.take_of_length_le (by omega)]
         rw [hTe]
         conv=>whnf
         repeat ((first|refine ⟨gP_of ⟨by omega,by omega⟩,?_⟩|(refine ⟨⟨Nat.le_of_ble_eq_true rfl,Nat.le_of_ble_eq_true rfl⟩,fun b4=>?_⟩));conv=>whnf)
         have hve:VLe (.sl 1 (some q) ((T.map (x::·)).map encR)) (slP (T.map (x::·))):=VLe.sl
         exact ⟨_,_,Turn.trans (Turn.trans (Turn.cells (ys:=encS (T.map (x::·))) (.here _) (.cons hve .nil)) (Turn.perm (List.Perm.swap _ _ _))) (Turn.drop (.there (.there (.here _)))),_,(by omega),k+1,_,[(b4,_)],rfl,rfl,rfl,by omega,.inr ⟨b4,by rw [hnx];simp,(by rw [hnx,hon];rfl),(by rw [hnx,hon];rfl)⟩⟩
     have hLe:(lsG g most es).take k=lsG g most es:=List.take_of_length_le (by unfold lsG;rw [List.length_map];omega)
     have htl:=tl_step hg (m:=most) hes
     rw [hLe] at hon
     rw [hon] at htl
     conv=>whnf
     repeat (refine QCall.k0 (mergeNil most hm) ?_;conv=>whnf)
     conv=>whnf
     repeat ((first|refine ⟨gP_of ⟨by omega,by omega⟩,?_⟩|(refine ⟨d,gP_of ⟨rfl,by omega⟩,?_⟩)|(refine stoF ?_ (.here _) ?_;(focus (show 0+d*1<g.length+1;omega))));conv=>whnf)
     refine ⟨_,_,Turn.refl _ _,_,(by omega),d,_,rfl,?_,rfl,rfl,by omega⟩
     refine congrArg (fun z=>[(b,Ob.vec z)]) (rowsF_congr fun j hj=>?_)
     unfold TT
     by_cases h:j=d
     ·rw [if_pos (show j=0+d*1 by omega),if_pos (by omega),h,← htl,mrgL_nil most]
     ·rw [if_neg (show ¬ j=0+d*1 by omega)]
      by_cases h2:d+1≤j
      ·rw [if_pos h2,if_pos (by omega)]
      ·rw [if_neg h2,if_neg (by omega)]
    ·skip
     have hLb:((lsG g most es).take k).length+1≤AMAX:=by rw [List.length_take];unfold AMAX;omega
     conv=>whnf
     repeat (refine ix (by assumption) ?_;conv=>whnf)
     refine ⟨fun hk2=>?_,fun hk2=>?_⟩<;>simp at hk2
     ·obtain ⟨x,hx⟩:=get_lt hk2
      have hxo:=hg.edge d es hes x (List.mem_of_getElem? hx)
      have h1:=hxo.lo
      have h2:=hxo.hi
      have hq2:TT g most (d+1) (0+x.to.toNat*1)=slP (tl g most x.to.toNat):=by
       unfold TT
       rw [if_pos (by omega),Nat.zero_add,Nat.mul_one]
      conv=>whnf
      repeat ((first|refine ix (by assumption) ?_|(refine ⟨x.to.toNat,gP_of ⟨by omega,by omega⟩,?_⟩)|(refine ldoF (slP (tl g most x.to.toNat)) (.head _) rfl (by omega) hq2 ?_));conv=>whnf)
      have hTl:=tl_len g most x.to.toNat
      have hTb:=tl_bound hg (j:=x.to.toNat) (by omega) most
      have hxc:=hxo.cost
      have hnx:(lsG g most es).take (k+1)=(lsG g most es).take k++[(tl g most x.to.toNat).map (x::·)]:=by
       refine take_snoc ?_
       unfold lsG
       rw [List.getElem?_map,hx];rfl
      obtain ⟨T,hT⟩:∃ T,T=tl g most x.to.toNat:=⟨_,rfl⟩
      rw [← hT] at hTl hTb hnx
      rw [← hT]
      refine tloop rfl mixed [0,1,5,6,7,8,9,10,11] [] (fun m r h=>∃ (j:Nat) (ov:AV) (oh:Heap),r=[(0,[],.sl 1 none (g.map encEdgs)),(1,[],.int .i64 most),(5,[],.osl b 0 (g.length+1) 1),(6,[],.int .i64 d),(7,[],.osl lb 0 ((lsG g most es).take k).length 1),(8,[],.int .i64 k),(9,[],ov),(10,[],slP T),(11,[],.int .i64 j)]∧h=(b,.vec (rowsF (g.length+1) (TT g most (d+1))))::([(lb,.vec (((lsG g most es).take k).map encS).flatten)]++oh)∧m=T.length - j∧j≤T.length∧Out 1 encR ((T.take j).map (x::·)) ov oh) ?_ ?_
      ·conv=>whnf
       exact ⟨_,_,Turn.refl _ _,_,0,.nilS,[],rfl,rfl,rfl,by omega,.inl ⟨rfl,rfl,rfl⟩⟩
      ·rintro m r h' ⟨j,ov,oh,rfl,rfl,rfl,hj,ho2⟩
       have hol:((T.take j).map (x::·)).length=j:=by rw [List.length_map,List.length_take];omega
       rcases ho2 with ⟨hon2,rfl,rfl⟩|⟨q,rfl,rfl⟩
       ·conv=>whnf
        skip
        refine ⟨fun hj2=>?_,fun hj2=>?_⟩<;>simp at hj2
        ·obtain ⟨p,hp⟩:=get_lt (l:=T) (i:=j) (by omega)
         have hpb:=hTb p (List.mem_of_getElem? hp)
         have hst:((T.take (j+1)).map (x::·)).map encR=[[.iptr (.int .i64 (x.cost+sumC p)::(encWrd x.word++[.iptr (encN p)]))]]:=by
          rw [take_snoc hp,List.map_append,hon2]
          show [[AV.iptr (.int .i64 (sumC (x::p))::_)]]=_
          rw [sumC_cons];rfl
         conv=>whnf
         repeat ((first|refine ⟨gP_of ⟨by omega,by omega⟩,?_⟩|refine ix (by assumption) ?_|refine And.intro (by show drawOK (opsAt Tryz.f98 _) _=true;decide +kernel) ?_);conv=>whnf)
         refine ⟨Nat.le_of_ble_eq_true rfl,fun q2=>?_⟩
         conv=>whnf
         repeat (refine ⟨gP_of ⟨by omega,by omega⟩,?_⟩;conv=>whnf)
         exact ⟨_,_,Turn.perm (List.perm_append_comm (l₁:=[_]) (l₂:=[_,_])),_,(by omega),j+1,_,[(q2,.tok)],rfl,rfl,rfl,by omega,.inr ⟨q2,by rw [hst];rfl,rfl⟩⟩
        ·have hTe:((T.take j).map (x::·))=T.map (x::·):=by rw [List.take_of_length_le (by omega)]
         rw [hon2] at hTe
         conv=>whnf
         repeat ((first|refine ⟨gP_of ⟨by omega,by omega⟩,?_⟩|(refine ⟨_,.tail _ (.head _),⟨enc_len encS_len,hLb⟩,fun b4=>⟨_,.there (.here _),?_⟩⟩));conv=>whnf)
         have hve:VLe .nilS (slP (T.map (x::·))):=by rw [← hTe];exact VLe.nil (by decide)
         exact ⟨_,_,Turn.trans (Turn.cells (ys:=(((lsG g most es).take k).map encS).flatten++(encS (T.map (x::·))++[])) (.there (.here _)) (VsLe.pre (.cons hve .nil) _)) (Turn.refl _ _),_,(by omega),k+1,_,[(b4,_)],rfl,rfl,rfl,by omega,.inr ⟨b4,by rw [hnx];simp,(by rw [hnx,List.length_append];rfl),(by rw [hnx,List.map_append,List.flatten_append];rfl)⟩⟩
       ·conv=>whnf
        skip
        refine ⟨fun hj2=>?_,fun hj2=>?_⟩<;>simp at hj2
        ·obtain ⟨p,hp⟩:=get_lt (l:=T) (i:=j) (by omega)
         have hpb:=hTb p (List.mem_of_getElem? hp)
         have hst:((T.take (j+1)).map (x::·)).map encR=((T.take j).map (x::·)).map encR++[[.iptr (.int .i64 (x.cost+sumC p)::(encWrd x.word++[.iptr (encN p)]))]]:=by
          rw [take_snoc hp,List.map_append,List.map_append]
          show _++[[AV.iptr (.int .i64 (sumC (x::p))::_)]]=_
          rw [sumC_cons];rfl
         conv=>whnf
         repeat ((first|refine ⟨gP_of ⟨by omega,by omega⟩,?_⟩|refine ix (by assumption) ?_|refine And.intro (by show drawOK (opsAt Tryz.f98 _) _=true;decide +kernel) ?_);conv=>whnf)
         refine ⟨(by rw [List.length_append,List.length_map,hol];simp;unfold AMAX;omega),fun q2=>⟨_,.there (.there (.here _)),?_⟩⟩
         conv=>whnf
         repeat (refine ⟨gP_of ⟨by omega,by omega⟩,?_⟩;conv=>whnf)
         exact ⟨_,_,Turn.refl _ _,_,(by omega),j+1,_,[(q2,.tok)],rfl,rfl,rfl,by omega,.inr ⟨q2,by rw [hst];rfl,rfl⟩⟩
        ·have hTe:((T.take j).map (x::·))=T.map (x::·):=by rw [List.take_of_length_le (by omega)]
         rw [hTe]
         conv=>whnf
         repeat ((first|refine ⟨gP_of ⟨by omega,by omega⟩,?_⟩|(refine ⟨_,.tail _ (.head _),⟨enc_len encS_len,hLb⟩,fun b4=>⟨_,.there (.here _),?_⟩⟩));conv=>whnf)
         have hve:VLe (.sl 1 (some q) ((T.map (x::·)).map encR)) (slP (T.map (x::·))):=VLe.sl
         exact ⟨_,_,Turn.trans (Turn.trans (Turn.cells (ys:=(((lsG g most es).take k).map encS).flatten++(encS (T.map (x::·))++[])) (.there (.here _)) (VsLe.pre (.cons hve .nil) _)) (Turn.refl _ _)) (Turn.drop (.there (.there (.here _)))),_,(by omega),k+1,_,[(b4,_)],rfl,rfl,rfl,by omega,.inr ⟨b4,by rw [hnx];simp,(by rw [hnx,List.length_append];rfl),(by rw [hnx,List.map_append,List.flatten_append];rfl)⟩⟩
     have hLe:(lsG g most es).take k=lsG g most es:=List.take_of_length_le (by unfold lsG;rw [List.length_map];omega)
     have htl:=tl_step hg (m:=most) hes
     have hlsl:∀ l∈lsG g most es,l.length≤65536:=by
      intro l hlm
      unfold lsG at hlm
      obtain ⟨x,-,rfl⟩:=List.mem_map.1 hlm
      have:=tl_len g most x.to.toNat
      rw [List.length_map];omega
     rw [hLe]
     conv=>whnf
     skip
     refine ACalls.mono ?_ (ACalls.re (h2:=[(b,.vec (rowsF (g.length+1) (TT g most (d+1))))]) (R':=fun v H=>v=slP (mrgL (lsG g most es) most)∧H=[(b,.vec (rowsF (g.length+1) (TT g most (d+1))))]) (mergeW (lsG g most es) (List.length_pos_iff.2 (hLe ▸ hLn)) (by unfold lsG;rw [List.length_map];omega) hlsl most hm lb) (List.Perm.swap _ _ _) ?_)
     ·rintro v h1 ⟨rfl,rfl⟩
      conv=>whnf
      repeat ((first|refine ⟨gP_of ⟨by omega,by omega⟩,?_⟩|(refine ⟨d,gP_of ⟨rfl,by omega⟩,?_⟩)|(refine stoF ?_ (.here _) ?_;(focus (show 0+d*1<g.length+1;omega))));conv=>whnf)
      refine ⟨_,_,Turn.refl _ _,_,(by omega),d,_,rfl,?_,rfl,rfl,by omega⟩
      refine congrArg (fun z=>[(b,Ob.vec z)]) (rowsF_congr fun j hj=>?_)
      unfold TT
      by_cases h:j=d
      ·rw [if_pos (show j=0+d*1 by omega),if_pos (by omega),h,← htl,show mrgL (lsG g most es) most=mrgL (lsG g most es) most from rfl]
      ·rw [if_neg (show ¬ j=0+d*1 by omega)]
       by_cases h2:d+1≤j
       ·rw [if_pos h2,if_pos (by omega)]
       ·rw [if_neg h2,if_neg (by omega)]
     ·rintro v h1 ⟨rfl,rfl⟩
      exact ⟨_,.refl _,rfl,rfl⟩
  ·obtain rfl:a=0:=by omega
   have hTl:=tl_len g most 0
   have hTf:=tl_fit hg (j:=0) (by omega) most
   rw [rdsOf_tl hg]
   have hq0:TT g most 0 (0+0*1)=slP (tl g most 0):=rfl
   obtain ⟨T,hT⟩:∃ T,T=tl g most 0:=⟨_,rfl⟩
   rw [← hT] at hTl hTf hq0
   rw [← hT]
   conv=>whnf
   skip
   refine tloop rfl mixed [5,12,13] [] (fun m r h=>∃ (i:Nat) (ov:AV) (oh:Heap),r=[(5,[],.osl b 0 (g.length+1) 1),(12,[],ov),(13,[],.int .i64 i)]∧h=(b,.vec (rowsF (g.length+1) (TT g most 0)))::oh∧m=T.length - i∧i≤T.length∧Out 2 encRdg ((T.take i).map rdgOf) ov oh) ?_ ?_
   ·conv=>whnf
    exact ⟨_,_,Turn.refl _ _,_,0,.nilS,[],rfl,rfl,rfl,by omega,.inl ⟨rfl,rfl,rfl⟩⟩
   ·rintro m r h' ⟨i,ov,oh,rfl,rfl,rfl,hi,ho⟩
    conv=>whnf
    repeat ((first|(refine ixo (i:=0) (by omega) ?_)|(refine ldoF (slP T) (.head _) rfl (by omega) hq0 ?_));conv=>whnf)
    refine ⟨fun hi2=>?_,fun hi2=>?_⟩<;>simp at hi2
    ·obtain ⟨p,hp⟩:=get_lt (l:=T) (i:=i) (by omega)
     obtain ⟨hpl,hpf⟩:=hTf p (List.mem_of_getElem? hp)
     have hol:((T.take i).map rdgOf).length=i:=by rw [List.length_map,List.length_take];omega
     have hts:((T.take (i+1)).map rdgOf).map encRdg=((T.take i).map rdgOf).map encRdg++[[.sl 4 none ((p.map (·.word)).map encWrd),.int .i64 (sumC p)]]:=by
      rw [take_snoc hp,List.map_append,List.map_append];rfl
     rcases ho with ⟨hon,rfl,rfl⟩|⟨q,rfl,rfl⟩
     ·skip
      conv=>whnf
      repeat ((first|refine ix (by assumption) ?_|(intro (rb:Nat))|(refine ixo (i:=0) (by omega) ?_)|(refine ldoF (slP T) (.head _) rfl (by omega) hq0 ?_)|(refine ldoF (slP T) (.tail _ (.head _)) rfl (by omega) hq0 ?_)|refine ⟨_,_,.here _,leOK,?_⟩);conv=>whnf)
      refine tloop rfl mixed [5,12,13,14,15] [] (fun m r h=>∃ (pc L:List Edg) (wv:AV) (wh:Heap) (rb:Nat),r=[(5,[],.osl b 0 (g.length+1) 1),(12,[],.nilS),(13,[],.int .i64 i),(14,[],.optr rb 0),(15,[],.iptr (encN pc))]∧h=(rb,.vec [wv,.int .i64 (sumC p)])::(b,.vec (rowsF (g.length+1) (TT g most 0)))::([]++wh)∧m=pc.length∧p=L++pc∧Out 4 encWrd (L.map (·.word)) wv wh) ?_ ?_
      ·conv=>whnf
       exact ⟨_,_,Turn.refl _ _,_,p,[],.nilS,[],rb,rfl,rfl,rfl,rfl,.inl ⟨rfl,rfl,rfl⟩⟩
      ·rintro m r h' ⟨pc,L,wv,wh,rb,rfl,rfl,rfl,hpe,hw⟩
       cases pc with
       | nil=>
         have hpL:p=L:=by rw [hpe,List.append_nil]
         have hvw:VLe wv (.sl 4 none ((p.map (·.word)).map encWrd)):=by rw [hpL];exact hw.le (by decide)
         conv=>whnf
         skip
         refine ⟨fun hz=>absurd hz (by decide),fun _=>?_⟩
         conv=>whnf
         repeat ((first|refine ⟨gP_of ⟨by omega,by omega⟩,?_⟩|(refine ⟨Nat.le_of_ble_eq_true rfl,fun q2=>?_⟩)|refine ⟨_,_,.head _,rfl,?_⟩);conv=>whnf)
         exact ⟨_,_,Turn.trans (Turn.weak (.cons (VLe.refl _) (.cons (VLe.els (.cons (.cons hvw (.cons (VLe.refl _) .nil)) .nil)) (RLe.refl _)))) (Turn.trans (Turn.perm (List.perm_middle (l₁:=[_,_]))) (Turn.left (A:=[(b,.vec (rowsF (g.length+1) (TT g most 0))),(q2,.tok)]) (Z:=(rb,.vec [wv,.int .i64 (sumC p)])::wh))),_,(by omega),i+1,_,[(q2,.tok)],rfl,rfl,rfl,by omega,.inr ⟨q2,(by rw [hts,hon];rfl),rfl⟩⟩
       | cons x r=>
         have hxf:=hpf x (by rw [hpe];simp)
         have hLl:(L.map (·.word)).length≤60:=by rw [hpe] at hpl;simp at hpl;rw [List.length_map];omega
         conv=>whnf
         skip
         refine ⟨fun _=>?_,fun hz=>absurd hz (by decide)⟩
         rcases hw with ⟨hwn,rfl,rfl⟩|⟨q3,rfl,rfl⟩
         ·conv=>whnf
          repeat ((first|refine gcall (copyWordW x.word (by have:=hxf.cl;unfold AMAX;omega) (by have:=hxf.us;unfold AMAX;omega)) ?_|refine ⟨_,_,.head _,rfl,?_⟩|refine And.intro (by show drawOK (opsAt Tryz.f98 _) _=true;decide +kernel) ?_);conv=>whnf)
          refine ⟨Nat.le_of_ble_eq_true rfl,fun q4=>?_⟩
          conv=>whnf
          repeat (refine ⟨_,_,.there (.here _),leOK,?_⟩;conv=>whnf)
          exact ⟨_,_,Turn.perm (List.perm_append_comm (l₁:=[_]) (l₂:=[_,_])),_,Nat.lt_succ_self _,r,L++[x],_,[(q4,.tok)],rb,rfl,rfl,rfl,by rw [hpe,List.append_assoc];rfl,.inr ⟨q4,by rw [List.map_append,hwn];rfl,rfl⟩⟩
         ·conv=>whnf
          repeat ((first|refine gcall (copyWordW x.word (by have:=hxf.cl;unfold AMAX;omega) (by have:=hxf.us;unfold AMAX;omega)) ?_|refine ⟨_,_,.head _,rfl,?_⟩|refine And.intro (by show drawOK (opsAt Tryz.f98 _) _=true;decide +kernel) ?_);conv=>whnf)
          refine ⟨(by rw [List.length_append,List.length_map];simp at hLl ⊢;unfold AMAX;omega),fun q4=>⟨_,.there (.there (.here _)),?_⟩⟩
          conv=>whnf
          repeat (refine ⟨_,_,.here _,leOK,?_⟩;conv=>whnf)
          exact ⟨_,_,Turn.refl _ _,_,Nat.lt_succ_self _,r,L++[x],_,[(q4,.tok)],rb,rfl,rfl,rfl,by rw [hpe,List.append_assoc];rfl,.inr ⟨q4,by rw [List.map_append,List.map_append];rfl,rfl⟩⟩
     ·skip
      conv=>whnf
      repeat ((first|refine ix (by assumption) ?_|(intro (rb:Nat))|(refine ixo (i:=0) (by omega) ?_)|(refine ldoF (slP T) (.head _) rfl (by omega) hq0 ?_)|(refine ldoF (slP T) (.tail _ (.head _)) rfl (by omega) hq0 ?_)|refine ⟨_,_,.here _,leOK,?_⟩);conv=>whnf)
      refine tloop rfl mixed [5,12,13,14,15] [] (fun m r h=>∃ (pc L:List Edg) (wv:AV) (wh:Heap) (rb:Nat),r=[(5,[],.osl b 0 (g.length+1) 1),(12,[],.sl 2 (some q) (((T.take i).map rdgOf).map encRdg)),(13,[],.int .i64 i),(14,[],.optr rb 0),(15,[],.iptr (encN pc))]∧h=(rb,.vec [wv,.int .i64 (sumC p)])::(b,.vec (rowsF (g.length+1) (TT g most 0)))::([(q,.tok)]++wh)∧m=pc.length∧p=L++pc∧Out 4 encWrd (L.map (·.word)) wv wh) ?_ ?_
      ·conv=>whnf
       exact ⟨_,_,Turn.refl _ _,_,p,[],.nilS,[],rb,rfl,rfl,rfl,rfl,.inl ⟨rfl,rfl,rfl⟩⟩
      ·rintro m r h' ⟨pc,L,wv,wh,rb,rfl,rfl,rfl,hpe,hw⟩
       cases pc with
       | nil=>
         have hpL:p=L:=by rw [hpe,List.append_nil]
         have hvw:VLe wv (.sl 4 none ((p.map (·.word)).map encWrd)):=by rw [hpL];exact hw.le (by decide)
         conv=>whnf
         skip
         refine ⟨fun hz=>absurd hz (by decide),fun _=>?_⟩
         conv=>whnf
         repeat ((first|refine ⟨gP_of ⟨by omega,by omega⟩,?_⟩|(refine ⟨(by rw [List.length_append,List.length_map,hol];simp;unfold AMAX;omega),fun q2=>⟨_,.there (.there (.here _)),?_⟩⟩)|refine ⟨_,_,.head _,rfl,?_⟩);conv=>whnf)
         exact ⟨_,_,Turn.trans (Turn.weak (.cons (VLe.refl _) (.cons (VLe.els (VssLe.pre (.cons (.cons hvw (.cons (VLe.refl _) .nil)) .nil) _)) (RLe.refl _)))) (Turn.trans (Turn.perm (List.perm_middle (l₁:=[_,_])).symm) (Turn.left (A:=[(b,.vec (rowsF (g.length+1) (TT g most 0))),(q2,.tok)]) (Z:=(rb,.vec [wv,.int .i64 (sumC p)])::wh))),_,(by omega),i+1,_,[(q2,.tok)],rfl,rfl,rfl,by omega,.inr ⟨q2,(by rw [hts]),rfl⟩⟩
       | cons x r=>
         have hxf:=hpf x (by rw [hpe];simp)
         have hLl:(L.map (·.word)).length≤60:=by rw [hpe] at hpl;simp at hpl;rw [List.length_map];omega
         conv=>whnf
         skip
         refine ⟨fun _=>?_,fun hz=>absurd hz (by decide)⟩
         rcases hw with ⟨hwn,rfl,rfl⟩|⟨q3,rfl,rfl⟩
         ·conv=>whnf
          repeat ((first|refine gcall (copyWordW x.word (by have:=hxf.cl;unfold AMAX;omega) (by have:=hxf.us;unfold AMAX;omega)) ?_|refine ⟨_,_,.head _,rfl,?_⟩|refine And.intro (by show drawOK (opsAt Tryz.f98 _) _=true;decide +kernel) ?_);conv=>whnf)
          refine ⟨Nat.le_of_ble_eq_true rfl,fun q4=>?_⟩
          conv=>whnf
          repeat (refine ⟨_,_,.there (.here _),leOK,?_⟩;conv=>whnf)
          exact ⟨_,_,Turn.perm (List.perm_append_comm (l₁:=[_]) (l₂:=[_,_,_])),_,Nat.lt_succ_self _,r,L++[x],_,[(q4,.tok)],rb,rfl,rfl,rfl,by rw [hpe,List.append_assoc];rfl,.inr ⟨q4,by rw [List.map_append,hwn];rfl,rfl⟩⟩
         ·conv=>whnf
          repeat ((first|refine gcall (copyWordW x.word (by have:=hxf.cl;unfold AMAX;omega) (by have:=hxf.us;unfold AMAX;omega)) ?_|refine ⟨_,_,.head _,rfl,?_⟩|refine And.intro (by show drawOK (opsAt Tryz.f98 _) _=true;decide +kernel) ?_);conv=>whnf)
          refine ⟨(by rw [List.length_append,List.length_map];simp at hLl ⊢;unfold AMAX;omega),fun q4=>⟨_,.there (.there (.there (.here _))),?_⟩⟩
          conv=>whnf
          repeat (refine ⟨_,_,.here _,leOK,?_⟩;conv=>whnf)
          exact ⟨_,_,Turn.refl _ _,_,Nat.lt_succ_self _,r,L++[x],_,[(q4,.tok)],rb,rfl,rfl,rfl,by rw [hpe,List.append_assoc];rfl,.inr ⟨q4,by rw [List.map_append,List.map_append];rfl,rfl⟩⟩
    ·have hTe:T.take i=T:=List.take_of_length_le (by omega)
     rw [hTe] at ho
     conv=>whnf
     skip
     exact ho.le (by decide)
end Go.Abs.Wall.Lst
namespace Go.Abs.Wall.Lst
open Go Go.Abs Go.Proofs Go.Abs.Wall
def zeroRdg:Rdg:=⟨[],0⟩
def bestL (H:Hou) (line:List Int):Rdg:=(listL H line 1).headD zeroRdg
theorem rdsOf_nil {g:List (List Edg)} {m:Nat} (hm:1≤m):rdsOf g m=[]↔rdV g 0=[]:=by
 unfold rdsOf
 rw [List.map_eq_nil_iff]
 cases rdV g 0 with
 | nil=>simp
 | cons p r=>cases m with
   | zero=>omega
   | succ m=>simp
def c145:Cfg:=⟨[0,1,2,3,6,7,8,9,10,18,25,31],[],[],[],[],[]⟩
def c46:Cfg:=⟨[0,1,2,4,5,6,7,15],[],[],[],[],[]⟩
def c88:Cfg:=⟨[0,1,2,4,5,6,7,15],[],[],[],[],[]⟩
theorem refListW (H:Hou) (line:List Int) (most:Int) (hf:HouFit H) (hl:line.length≤1048576) :
  QCall Tryz.prog 145 [.agg (encHou H),.sl 1 none (ints line),.int .i64 most] [] (.tup [.sl 2 none ((listL H line most).map encRdg),.int .i64 (listErr H line most)]):=by
 refine QCall.of ?_
 refine fcalls (F:=Tryz.f145) c145 rfl rfl rfl mixed rfl fun X=>?_
 conv=>whnf
 repeat (refine QCall.k0 (refGraph H line hf hl) ?_;conv=>whnf)
 refine ⟨fun h0=>?_,fun h0=>?_⟩<;>simp at h0
 ·have he:listErr H line most=growErr H line:=by unfold listErr;rw [if_pos h0]
  conv=>whnf
  skip
  unfold listL
  rw [he,if_neg h0]
  exact VLe.tup (.cons (VLe.nil (by decide)) (.cons (VLe.refl _) .nil))
 obtain ⟨hL,hsum,hg⟩:=growOK h0
 obtain ⟨g,hge⟩:∃ g,g=graphM H line:=⟨_,rfl⟩
 have hgl:graphL H line=g:=by rw [graphL,if_pos h0,hge]
 have he0:listErr H line most=if 1≤most∧most≤64 then (if rdV g 0=[] then 52 else 0) else 1:=by unfold listErr;rw [if_neg (by omega),hge]
 have hl0:listL H line most=if listErr H line most=0 then rdsOf g most.toNat else []:=by unfold listL;rw [hge]
 rw [← hge] at hg hsum
 rw [hgl,h0]
 conv=>whnf
 skip
 refine ⟨fun hm=>?_,fun hm=>?_⟩<;>simp at hm
 ·conv=>whnf
  skip
  rw [hl0,he0,if_neg (show ¬ (1≤most∧most≤64) by omega),if_neg (by decide)]
  exact VLe.tup (.cons (VLe.nil (by decide)) (.cons (VLe.refl _) .nil))
 have hmm:1≤most∧most≤64:=by omega
 rw [if_pos hmm] at he0
 obtain ⟨m,rfl⟩:∃ m:Nat,most=(m:Int):=⟨most.toNat,by omega⟩
 conv=>whnf
 repeat (refine QCall.k0 (firstW g hg m (by omega) (by omega)) ?_;conv=>whnf)
 refine ⟨fun hz=>?_,fun hz=>?_⟩<;>simp at hz
 ·have hz2:rdV g 0=[]:=(rdsOf_nil (by omega)).1 hz
  conv=>whnf
  skip
  rw [hl0,he0,if_pos hz2,if_neg (by decide)]
  exact VLe.tup (.cons (VLe.nil (by decide)) (.cons (VLe.refl _) .nil))
 ·have hz2:rdV g 0≠[]:=fun e=>hz ((rdsOf_nil (by omega)).2 e)
  conv=>whnf
  skip
  rw [hl0,he0,if_neg hz2,if_pos rfl]
  exact VLe.refl _
theorem list_first {H:Hou} {line:List Int} (h:listErr H line 1=0):∃ r l,listL H line 1=r::l∧bestL H line=r:=by
 have hl:listL H line 1=rdsOf (graphM H line) (1:Int).toNat:=by unfold listL;rw [if_pos h]
 unfold listErr at h
 split at h
 ·rename_i h1;exact absurd h h1
 ·rw [if_pos (by decide)] at h
  split at h
  ·cases h
  ·rename_i h2
   cases hr:listL H line 1 with
   | nil=>rw [hl] at hr;exact absurd ((rdsOf_nil (by decide)).1 hr) h2
   | cons r l=>exact ⟨r,l,rfl,by unfold bestL;rw [hr];rfl⟩
theorem list_none {H:Hou} {line:List Int} (h:listErr H line 1≠0):bestL H line=zeroRdg:=by
 unfold bestL listL
 rw [if_neg h];rfl
theorem bestW (H:Hou) (line:List Int) (hf:HouFit H) (hl:line.length≤1048576) :
  QCall Tryz.prog 46 [.agg (encHou H),.sl 1 none (ints line)] [] (.tup [.agg (encRdg (bestL H line)),.int .i64 (listErr H line 1)]):=by
 refine QCall.of ?_
 refine fcalls (F:=Tryz.f46) c46 rfl rfl rfl mixed rfl fun X=>?_
 conv=>whnf
 intro rb
 conv=>whnf
 repeat (refine QCall.k0 (listW H line 1 hf hl) ?_;conv=>whnf)
 refine ⟨fun hz=>?_,fun hz=>?_⟩<;>simp at hz
 ·conv=>whnf
  repeat ((first|(refine ⟨_,_,.here _,leOK,?_⟩)|refine ⟨_,_,.head _,rfl,?_⟩);conv=>whnf)
  rw [list_none hz]
  exact VLe.tup (.cons (VLe.agg (.cons (VLe.nil (by decide)) (.cons (VLe.refl _) .nil))) (.cons (VLe.refl _) .nil))
 ·obtain ⟨r,l,h1,h2⟩:=list_first hz
  rw [h1,h2,hz]
  conv=>whnf
  repeat ((first|(refine ixn (enc:=encRdg) 0 rfl rfl ?_)|refine ⟨_,_,.head _,rfl,?_⟩|refine ⟨_,_,.here _,leOK,?_⟩);conv=>whnf)
  exact VLe.refl _
theorem refBestW (H:Hou) (line:List Int) (hf:HouFit H) (hl:line.length≤1048576) :
  QCall Tryz.prog 88 [.agg (encHou H),.sl 1 none (ints line)] [] (.tup [.agg (encRdg (bestL H line)),.int .i64 (listErr H line 1)]):=by
 refine QCall.of ?_
 refine fcalls (F:=Tryz.f88) c88 rfl rfl rfl mixed rfl fun X=>?_
 conv=>whnf
 intro rb
 conv=>whnf
 repeat (refine QCall.k0 (refListW H line 1 hf hl) ?_;conv=>whnf)
 refine ⟨fun hz=>?_,fun hz=>?_⟩<;>simp at hz
 ·conv=>whnf
  repeat ((first|(refine ⟨_,_,.here _,leOK,?_⟩)|refine ⟨_,_,.head _,rfl,?_⟩);conv=>whnf)
  rw [list_none hz]
  exact VLe.tup (.cons (VLe.agg (.cons (VLe.nil (by decide)) (.cons (VLe.refl _) .nil))) (.cons (VLe.refl _) .nil))
 ·obtain ⟨r,l,h1,h2⟩:=list_first hz
  rw [h1,h2,hz]
  conv=>whnf
  repeat ((first|(refine ixn (enc:=encRdg) 0 rfl rfl ?_)|refine ⟨_,_,.head _,rfl,?_⟩|refine ⟨_,_,.here _,leOK,?_⟩);conv=>whnf)
  exact VLe.refl _
def RdgFit (r:Rdg):Prop:=r.words.length≤60∧∀ w∈r.words,WrdFit w
theorem listL_fit {H:Hou} {line:List Int} {most:Int}:∀ r∈listL H line most,RdgFit r:=by
 unfold listL
 split
 ·rename_i he
  have h0:growErr H line=0:=by
   unfold listErr at he
   split at he
   ·rename_i h1;exact absurd he h1
   ·rename_i h1;simpa using h1
  obtain ⟨hL,hsum,hg⟩:=growOK h0
  intro r hr
  rw [rdsOf_tl hg] at hr
  obtain ⟨p,hp,rfl⟩:=List.mem_map.1 hr
  obtain ⟨h1,h2⟩:=tl_fit hg (j:=0) (by omega) _ p hp
  refine ⟨by show (p.map _).length≤60;rw [List.length_map];exact h1,fun w hw=>?_⟩
  obtain ⟨x,hx,rfl⟩:=List.mem_map.1 hw
  exact h2 x hx
 ·simp
theorem bestL_fit {H:Hou} {line:List Int}:RdgFit (bestL H line):=by
 by_cases h:listErr H line 1=0
 ·obtain ⟨r,l,h1,h2⟩:=list_first h
  rw [h2]
  exact listL_fit r (by rw [h1];simp)
 ·rw [list_none h]
  exact ⟨by decide,fun w hw=>by cases hw⟩
end Go.Abs.Wall.Lst
