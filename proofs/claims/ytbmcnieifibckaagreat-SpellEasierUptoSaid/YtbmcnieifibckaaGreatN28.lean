/- What is proved: small laws for the walks of this seat, and contracts of its functions. No condition but those each theorem names. -/
import Derived.Test.YtbmcnieifibckaaGreatN23
import Derived.Test.YtbmcnieifibckaaGreatN16
import Derived.Test.YtbmcnieifibckaaGreatN21
import Derived.Test.YtbmcnieifibckaaGreatN17
import Derived.Test.YtbmcnieifibckaaGreatN19
import Derived.Test.YtbmcnieifibckaaGreatN26
set_option maxRecDepth 100000
set_option maxHeartbeats 2000000
set_option linter.unusedVariables false
set_option linter.unusedSimpArgs false
namespace Go.Abs.Wall.Spl
open Go Go.Abs Go.Proofs Go.Abs.Wall
open Go.Abs.Wall.Lst hiding encWy wyCmp wyCmp_lt wayCompare fndW encWy_len idxW_iff binNil binW insNilW over224 InsR insC OpenR insW_acalls ndC putW NodeS NodeH getV GetC recCall putCall getStep getAll sumC encT encN encR encS encS_len clsS selW curL curL_len curL_get curL_up curL_zero BestTo BestTo.lt BestTo.full BestTo.step BestTo.end mrgL mergeW
structure Stp where
 sign:Int
 cost:Int
 to:Nat
 use:Use
structure Rst where
 path:List Stp
 fin:Int
def sumP (p:List Stp):Int:=(p.map (·.cost)).sum
def costR (r:Rst):Int:=r.fin+sumP r.path
def keyR (r:Rst):Int:=costR r*16+r.path.length
def encStp (t:Stp):List AV:=[.int .i64 t.sign,.int .i64 t.cost,.int .i64 t.to]++encUse t.use
def encT (c:Int):List Stp→List AV
 | []=>[.int .i64 0,.int .i64 0,.int .i64 0,.int .i64 0,.str [],.nilP]
 | t::p=>encStp t++[.iptr (.int .i64 (c+sumP p)::.int .i64 p.length::encT c p)]
def encN (r:Rst):List AV:=.int .i64 (costR r)::.int .i64 r.path.length::encT r.fin r.path
def encR (r:Rst):List AV:=[.iptr (encN r)]
def encS (l:List Rst):List AV:=[.sl 1 none (l.map encR)]
theorem encS_len (l:List Rst):(encS l).length=1:=rfl
def clsK (ls:List (List Rst)):List (List Int):=ls.map fun l=>l.map keyR
def selW (ls:List (List Rst)) (w:Wy):Rst:=(ls.getD w.edge []).getD w.rank ⟨[],0⟩
def curL (ls:List (List Rst)) (rs:Nat→Nat):List (List Rst):=ls.mapIdx fun k l=>l.drop (rs k)
theorem curL_len (ls:List (List Rst)) (rs:Nat→Nat):(curL ls rs).length=ls.length:=by simp [curL]
theorem curL_get {ls:List (List Rst)} {rs:Nat→Nat} {k:Nat} {l:List Rst} (h:ls[k]?=some l):(curL ls rs)[k]?=some (l.drop (rs k)):=by
 unfold curL
 rw [List.getElem?_mapIdx,h];rfl
theorem curL_up {ls:List (List Rst)} {rs:Nat→Nat} {k:Nat} {l:List Rst} (h:ls[k]?=some l):(curL ls rs).set k ((l.drop (rs k)).drop 1)=curL ls (up rs k):=by
 refine List.ext_getElem? fun j=>?_
 by_cases hj:j=k
 ·subst hj
  rw [List.getElem?_set_self (by rw [curL_len];exact (List.getElem?_eq_some_iff.1 h).1),curL_get h,List.drop_drop]
  unfold up
  rw [if_pos rfl,Nat.add_comm]
 ·rw [List.getElem?_set_ne (Ne.symm hj)]
  unfold curL
  rw [List.getElem?_mapIdx,List.getElem?_mapIdx]
  unfold up
  rw [if_neg hj]
theorem curL_zero (ls:List (List Rst)):curL ls zro=ls:=by
 unfold curL zro
 refine List.ext_getElem? fun j=>?_
 rw [List.getElem?_mapIdx]
 cases ls[j]?<;>rfl
def BestTo (cur:List (List Rst)) (i:Nat) (b:Int):Prop:=
 (b = -1∧∀ j l,j<i→cur[j]?=some l→l=[]) ∨
 ∃ (k:Nat) (p:Rst) (r:List Rst),b=(k:Int)∧k<i∧cur[k]?=some (p::r)∧∀ (j:Nat) q s,j<i→cur[j]?=some (q::s)→keyR p<keyR q∨(keyR p=keyR q∧k≤j)
theorem BestTo.lt {cur:List (List Rst)} {i:Nat} {b:Int} {n:Nat} (h:BestTo cur i b) (hi:i≤n):-1≤b∧b<n:=by
 rcases h with ⟨rfl,_⟩|⟨k,p,r,rfl,hk,_⟩<;>omega
theorem BestTo.full {cur:List (List Rst)} {i:Nat} {b:Int} {lb:List Rst} (h:BestTo cur i b) (hb:0≤b) (hlb:cur[b.toNat]?=some lb):0<lb.length:=by
 rcases h with ⟨rfl,_⟩|⟨k,p,r,rfl,hk,hc,_⟩
 ·omega
 ·rw [Int.toNat_natCast,hc] at hlb
  cases hlb
  simp
theorem BestTo.step {cur:List (List Rst)} {i:Nat} {b:Int} {li lb:List Rst} (h:BestTo cur i b) (hli:cur[i]?=some li) (hlb:cur[b.toNat]?=some lb) :
  (0<li.length→(b<0∨keyR (li.getD 0 ⟨[],0⟩)<keyR (lb.getD 0 ⟨[],0⟩))→BestTo cur (i+1) i)∧(¬ (0<li.length∧(b<0∨keyR (li.getD 0 ⟨[],0⟩)<keyR (lb.getD 0 ⟨[],0⟩)))→BestTo cur (i+1) b):=by
 have cases1:∀ (j:Nat),j<i+1→j<i∨j=i:=fun j hj=>by omega
 constructor
 ·intro h1 h2
  cases li with
  | nil=>simp at h1
  | cons p r=>
    refine .inr ⟨i,p,r,rfl,by omega,hli,fun j q s hj hq=>?_⟩
    rcases cases1 j hj with hj|rfl
    ·left
     rcases h with ⟨rfl,he⟩|⟨k,p',r',rfl,hk,hc,hm⟩
     ·have:=he j _ hj hq
      cases this
     ·rw [Int.toNat_natCast,hc] at hlb
      cases hlb
      have h3:keyR p<keyR p':=by
       rcases h2 with h2|h2
       ·omega
       ·simpa using h2
      rcases hm j q s hj hq with e|⟨e,_⟩<;>omega
    ·rw [hli] at hq
     cases hq
     exact .inr ⟨rfl,Nat.le_refl _⟩
 ·intro hn
  rcases h with ⟨rfl,he⟩|⟨k,p,r,rfl,hk,hc,hm⟩
  ·refine .inl ⟨rfl,fun j l hj hl=>?_⟩
   rcases cases1 j hj with hj|rfl
   ·exact he j l hj hl
   ·rw [hli] at hl
    cases hl
    refine Classical.byContradiction fun hne=>hn ⟨List.length_pos_iff.2 hne,.inl (by omega)⟩
  ·refine .inr ⟨k,p,r,rfl,by omega,hc,fun j q s hj hq=>?_⟩
   rcases cases1 j hj with hj|rfl
   ·exact hm j q s hj hq
   ·rw [hli] at hq
    cases hq
    rw [Int.toNat_natCast,hc] at hlb
    cases hlb
    have:¬ keyR q<keyR p:=fun e=>hn ⟨by simp,.inr (by simpa using e)⟩
    by_cases e:keyR p<keyR q
    ·exact .inl e
    ·exact .inr ⟨by omega,by omega⟩
theorem BestTo.end {ls:List (List Rst)} {rs:Nat→Nat} {b:Int} (h:BestTo (curL ls rs) ls.length b) :
  (b = -1∧best (clsK ls) rs=none)∨∃ (k:Nat) (p:Rst) (r:List Rst) (l:List Rst),b=(k:Int)∧ls[k]?=some l∧(curL ls rs)[k]?=some (p::r)∧l.drop (rs k)=p::r∧best (clsK ls) rs=some ⟨keyR p,k,rs k⟩:=by
 have hcand:∀ x,Cand (clsK ls) rs x→∃ q s,(curL ls rs)[x.edge]?=some (q::s)∧keyR q=x.cost:=by
  rintro x ⟨h1,l,h2,h3⟩
  unfold clsK at h2
  rw [List.getElem?_map] at h2
  cases hl:ls[x.edge]? with
  | none=>rw [hl] at h2;cases h2
  | some l0=>
    rw [hl] at h2;cases h2
    rw [List.getElem?_map,h1] at h3
    cases hq:l0[rs x.edge]? with
    | none=>rw [hq] at h3;cases h3
    | some q=>
      rw [hq] at h3
      refine ⟨q,l0.drop (rs x.edge+1),?_,by simpa using h3⟩
      rw [curL_get hl,drop_cons hq]
 rcases h with ⟨rfl,he⟩|⟨k,p,r,rfl,hk,hc,hm⟩
 ·left
  refine ⟨rfl,best_empty fun x hx=>?_⟩
  obtain ⟨q,s,h1,_⟩:=hcand x hx
  have hlt:=(List.getElem?_eq_some_iff.1 h1).1
  rw [curL_len] at hlt
  have:=he x.edge _ hlt h1
  cases this
 ·right
  obtain ⟨l,hl⟩:=get_lt (l:=ls) hk
  have hd:l.drop (rs k)=p::r:=by
   have:=curL_get (rs:=rs) hl
   rw [hc] at this
   exact (Option.some.inj this).symm
  have hp:l[rs k]?=some p:=by
   have:=congrArg (fun z=>z[0]?) hd
   simpa [List.getElem?_drop] using this
  refine ⟨k,p,r,l,rfl,hl,hc,hd,best_of ⟨rfl,l.map keyR,?_,?_⟩ fun y hy=>?_⟩
  ·unfold clsK;rw [List.getElem?_map,hl];rfl
  ·show (l.map keyR)[rs k]?=some (keyR p)
   rw [List.getElem?_map,hp];rfl
  ·obtain ⟨q,s,h1,h2⟩:=hcand y hy
   have hlt:=(List.getElem?_eq_some_iff.1 h1).1
   rw [curL_len] at hlt
   rcases hm y.edge q s hlt h1 with e|⟨e1,e2⟩
   ·exact .inr (.inl (by show keyR p<y.cost;omega))
   ·by_cases e3:y.edge=k
    ·left
     refine Cand.eq hy ⟨rfl,l.map keyR,?_,?_⟩ e3
     ·unfold clsK;rw [List.getElem?_map,hl];rfl
     ·show (l.map keyR)[rs k]?=some (keyR p)
      rw [List.getElem?_map,hp];rfl
    ·exact .inr (.inr ⟨by show keyR p=y.cost;omega,by show k<y.edge;omega⟩)
def c167:Cfg:=⟨[0,1,4,13],[],[],[],[(1,[0,1,2,3,4,5,6,7,8],[]),(2,[0,1,2,3,4,5,6,7,8,9],[]),(3,[0,1,2,3,4,5,6,7,8,9],[])],[]⟩
theorem r7Less (x y:Rst) (hx:x.path.length≤15) (hy:y.path.length≤15):QCall Tryz.prog 167 [.iptr (encN x),.iptr (encN y)] [] (.bool (decide (keyR x<keyR y))):=by
 refine fcalls (F:=Tryz.f167) c167 rfl rfl rfl mixed rfl fun X=>?_
 conv=>whnf
 repeat (refine And.intro (by show drawOK (opsAt Tryz.f167 _) _=true;decide +kernel) ?_;conv=>whnf)
 refine ⟨fun h0=>?_,fun h0=>?_⟩<;>simp at h0
 ·have he:decide (keyR x<keyR y)=decide (costR x<costR y):=by
   refine decide_eq_decide.2 ?_
   unfold keyR
   omega
  rw [he]
  conv=>whnf
  repeat (refine And.intro (by show drawOK (opsAt Tryz.f167 _) _=true;decide +kernel) ?_;conv=>whnf)
  exact ⟨rfl,rfl⟩
 ·have he:decide (keyR x<keyR y)=decide ((x.path.length:Int)<y.path.length):=by
   refine decide_eq_decide.2 ?_
   unfold keyR
   omega
  rw [he]
  conv=>whnf
  repeat (refine And.intro (by show drawOK (opsAt Tryz.f167 _) _=true;decide +kernel) ?_;conv=>whnf)
  exact ⟨rfl,rfl⟩
theorem getD_path {l:List Rst} (h:∀ r∈l,r.path.length≤15):(l.getD 0 ⟨[],0⟩).path.length≤15:=by
 rw [List.getD_eq_getElem?_getD]
 cases hq:l[0]? with
 | none=>exact Nat.zero_le _
 | some r=>exact h r (List.mem_of_getElem? hq)
def mrgL (ls:List (List Rst)) (most:Nat):List Rst:=((mgW (clsK ls)).take most).map (selW ls)
def c109:Cfg:=⟨[0,1,4,5,6,7,11,15,42,45],[],[],[],[(7,[0,1,2,3,4,5,6,7,8,9,10,11,12,13,14,15,16,17,18,19,20,21,22,23,24],[])],[]⟩
theorem mergeW (ls:List (List Rst)) (hne:0<ls.length) (hl:ls.length≤65536) (hll:∀ l∈ls,l.length≤65536) (hpl:∀ l∈ls,∀ r∈l,r.path.length≤15) (most:Nat) (hm:most≤64) (b:Nat) :
  ACalls Tryz.prog 109 [.osl b 0 ls.length 1,.int .i64 most] [(b,.vec (ls.map encS).flatten)] (fun v h'=>v=.sl 1 none ((mrgL ls most).map encR)∧h'=[]):=by
 refine ACalls.post (R:=fun v h'=>VLe v (.sl 1 none ((mrgL ls most).map encR))) ?_ ?_
 ·refine fcalls (F:=Tryz.f109) c109 rfl rfl rfl mixed rfl fun X=>?_
  conv=>whnf
  skip
  refine tloop rfl mixed [0,1,5] [] (fun m r h=>∃ (t:Nat) (ov:AV) (oh:Heap),r=[(0,[],.osl b 0 ls.length 1),(1,[],.int .i64 most),(5,[],ov)]∧h=(b,.vec ((curL ls (stS (clsK ls) t)).map encS).flatten)::oh∧m=65 - t∧t≤most∧t≤(mgW (clsK ls)).length∧Out 1 encR (((mgW (clsK ls)).take t).map (selW ls)) ov oh) ?_ ?_
  ·conv=>whnf
   exact ⟨_,_,Turn.refl _ _,_,0,.nilS,[],rfl,by rw [show stS (clsK ls) 0=zro from rfl,curL_zero],rfl,by omega,by omega,.inl ⟨by simp,rfl,rfl⟩⟩
  ·rintro m r h' ⟨t,ov,oh,rfl,rfl,rfl,htm,htl,ho⟩
   have ho':=ho
   have hol:(((mgW (clsK ls)).take t).map (selW ls)).length=t:=by rw [List.length_map,List.length_take];omega
   obtain ⟨cur,hcur⟩:∃ cur,cur=curL ls (stS (clsK ls) t):=⟨_,rfl⟩
   have hcl:cur.length=ls.length:=by rw [hcur,curL_len]
   have hclen:∀ (k:Nat) l,cur[k]?=some l→l.length≤65536:=by
    intro k l hk
    rw [hcur] at hk
    have hlt:=(List.getElem?_eq_some_iff.1 hk).1
    rw [curL_len] at hlt
    obtain ⟨l0,hl0⟩:=get_lt (l:=ls) hlt
    rw [curL_get hl0] at hk
    cases hk
    have:=hll l0 (List.mem_of_getElem? hl0)
    rw [List.length_drop];omega
   have hclp:∀ (k:Nat) l,cur[k]?=some l→∀ r∈l,r.path.length≤15:=by
    intro k l hk r hr
    rw [hcur] at hk
    have hlt:=(List.getElem?_eq_some_iff.1 hk).1
    rw [curL_len] at hlt
    obtain ⟨l0,hl0⟩:=get_lt (l:=ls) hlt
    rw [curL_get hl0] at hk
    cases hk
    exact hpl l0 (List.mem_of_getElem? hl0) r (List.mem_of_mem_drop hr)
   rw [← hcur]
   have hml:((((mgW (clsK ls)).take t).map (selW ls)).map encR).length=t:=by rw [List.length_map];exact hol
   rcases ho with ⟨hon,rfl,rfl⟩|⟨q,rfl,rfl⟩
   ·have ht0:t=0:=by rw [hon] at hol;exact hol.symm
    skip
    conv=>whnf
    skip
    refine ⟨fun hz=>?_,fun hz=>?_⟩<;>simp at hz
    ·have htm2:t<most:=by omega
     refine tloop rfl mixed [0,1,5,6,7] [] (fun m r h=>∃ (i:Nat) (bi:Int),r=[(0,[],.osl b 0 ls.length 1),(1,[],.int .i64 most),(5,[],.nilS),(6,[],.int .i64 bi),(7,[],.int .i64 i)]∧h=(b,.vec (cur.map encS).flatten)::[]∧m=ls.length - i∧i≤ls.length∧BestTo cur i bi) ?_ ?_
     ·conv=>whnf
      exact ⟨_,_,Turn.refl _ _,_,0,-1,rfl,rfl,rfl,by omega,.inl ⟨rfl,fun j l hj=>by omega⟩⟩
     ·rintro m r h' ⟨i,bi,rfl,rfl,rfl,hi,hb⟩
      conv=>whnf
      refine ⟨fun hz2=>?_,fun hz2=>?_⟩<;>simp at hz2
      ·obtain ⟨li,hli⟩:=get_lt (l:=cur) (i:=i) (by omega)
       have hlil:=hclen i li hli
       have hbi:-1≤bi∧bi<ls.length:=hb.lt (by omega)
       obtain ⟨lb,hlb⟩:=get_lt (l:=cur) (i:=bi.toNat) (by omega)
       have hlbl:=hclen _ lb hlb
       have hless:=r7Less (li.getD 0 ⟨[],0⟩) (lb.getD 0 ⟨[],0⟩) (getD_path (hclp i li hli)) (getD_path (hclp _ lb hlb))
       conv=>whnf
       repeat ((first|(refine ixo (i:=i) (by omega) ?_)|(refine ldE encS_len (.head _) (by omega) hli ?_)|(refine ixg (enc:=encR) (⟨[],0⟩:Rst) ?_ ?_;(focus (conv=>whnf;skip));(focus (intro h1 h2;simp only [decide_eq_true_eq,decide_eq_false_iff_not,List.length_map] at h1 h2;first|(show 0≤(0:Int)∧(0:Int)<(li.length:Int);omega)|(show 0≤(0:Int)∧(0:Int)<(lb.length:Int);have:=hb.full (by omega) hlb;omega))))|(refine ixog ?_ ?_;(focus (conv=>whnf;skip));(focus (intro h1 h2;simp only [decide_eq_true_eq,decide_eq_false_iff_not,List.length_map] at h1 h2;show 0≤bi∧bi<ls.length;omega)))|(refine ldE encS_len (.head _) (by omega) hlb ?_)|refine gcall (hless) ?_|refine And.intro (by show drawOK (opsAt Tryz.f109 _) _=true;decide +kernel) ?_);conv=>whnf)
       refine ⟨fun hz3=>?_,fun hz3=>?_⟩
       ·conv=>whnf
        repeat (refine ⟨gP_of ⟨by omega,by omega⟩,?_⟩;conv=>whnf)
        conv=>whnf
        skip
        exact ⟨_,_,Turn.refl _ _,_,(by omega),i+1,i,rfl,rfl,rfl,by omega,(hb.step hli hlb).1 (by simp at hz3;omega) (by simp at hz3;simpa using hz3.2)⟩
       ·conv=>whnf
        repeat (refine ⟨gP_of ⟨by omega,by omega⟩,?_⟩;conv=>whnf)
        conv=>whnf
        skip
        exact ⟨_,_,Turn.refl _ _,_,(by omega),i+1,bi,rfl,rfl,rfl,by omega,(hb.step hli hlb).2 (by rintro ⟨e1,e2⟩;simp at hz3;simp at e2;have:=hz3 e1;omega)⟩
      ·obtain rfl:i=ls.length:=by omega
       rw [hcur] at hb
       rcases hb.end with ⟨rfl,hbn⟩|⟨k,pp,rr,l,rfl,hlk,hck,hdk,hbk⟩
       ·have hte:(mgW (clsK ls)).take t=(mgW (clsK ls)).take most:=by
         have hle:(mgW (clsK ls)).length≤t:=by
          rcases Nat.lt_or_ge t (mgW (clsK ls)).length with e|e
          ·obtain ⟨x,hx⟩:=get_lt e
           rw [mgW_get,hbn] at hx
           cases hx
          ·exact e
         rw [List.take_of_length_le hle,List.take_of_length_le (by omega)]
        conv=>whnf
        skip
        refine ⟨fun hz3=>?_,fun hz3=>?_⟩<;>simp at hz3
        have hfin:mrgL ls most=((mgW (clsK ls)).take t).map (selW ls):=by unfold mrgL;rw [hte]
        conv=>whnf
        skip
        rw [hfin]
        exact ho'.le (by decide)
       ·have hbk':=hbk
        rw [← mgW_get] at hbk'
        have hklt:k<ls.length:=(List.getElem?_eq_some_iff.1 hlk).1
        rw [← hcur] at hck
        have hkl:=hclen k _ hck
        conv=>whnf
        skip
        refine ⟨fun hz3=>absurd (of_decide_eq_true hz3) (by omega),fun hz3=>?_⟩
        conv=>whnf
        repeat ((first|(refine ixo (i:=k) (by omega) ?_)|(refine ldE encS_len (.head _) (by omega) hck ?_)|(refine ix (enc:=encR) (i:=0) rfl ?_));conv=>whnf)
        have htk:((mgW (clsK ls)).take (t+1)).map (selW ls)=((mgW (clsK ls)).take t).map (selW ls)++[pp]:=by
         rw [take_snoc hbk',List.map_append]
         refine congrArg (_++[·]) ?_
         show (ls.getD k []).getD (stS (clsK ls) t k) ⟨[],0⟩=pp
         rw [show ls.getD k []=l by rw [List.getD_eq_getElem?_getD,hlk];rfl,List.getD_eq_getElem?_getD]
         have:=congrArg (fun z=>z[0]?) hdk
         simp only [List.getElem?_drop,Nat.add_zero,List.getElem?_cons_zero] at this
         rw [this];rfl
        have hup:cur.set k rr=curL ls (stS (clsK ls) (t+1)):=by
         rw [stS_succ hbk',hcur,← curL_up hlk,hdk];rfl
        have hlen2:t<(mgW (clsK ls)).length:=(List.getElem?_eq_some_iff.1 hbk').1
        refine ⟨Nat.le_of_ble_eq_true rfl,fun q2=>?_⟩
        conv=>whnf
        repeat ((first|(refine ixo (i:=k) (by omega) ?_)|(refine ldE encS_len (by first|exact .head _|exact .tail _ (.head _)) (by omega) hck ?_)|(refine ⟨gP_of ⟨by decide,by rw [List.length_map,List.length_cons];omega,Int.le_refl _⟩,?_⟩));conv=>whnf)
        conv=>whnf
        have hcut:List.drop (Int.toNat 1) (List.take ((((pp::rr).map encR).length:Int)).toNat ((pp::rr).map encR))=rr.map encR:=by
         rw [Int.toNat_natCast,List.take_length];rfl
        refine stE (enc:=encS) (L:=cur) rr (by decide) encS_len (by rw [hcl];exact hklt) (by omega) (by unfold encS;rw [← hcut];rfl) (by first|exact .here _|exact .there (.here _)) ?_
        conv=>whnf
        skip
        exact ⟨_,_,Turn.perm (List.Perm.swap _ _ _),_,(by omega),t+1,_,[(q2,.tok)],rfl,(by rw [hup]),rfl,by omega,by omega,.inr ⟨q2,(by rw [htk,hon];rfl),rfl⟩⟩
    ·have hte:(mgW (clsK ls)).take t=(mgW (clsK ls)).take most:=by rw [show t=most by omega]
     have hfin:mrgL ls most=((mgW (clsK ls)).take t).map (selW ls):=by unfold mrgL;rw [hte]
     conv=>whnf
     skip
     rw [hfin]
     exact ho'.le (by decide)
   ·skip
    skip
    conv=>whnf
    skip
    refine ⟨fun hz=>?_,fun hz=>?_⟩<;>simp at hz
    ·have htm2:t<most:=by omega
     refine tloop rfl mixed [0,1,5,6,7] [] (fun m r h=>∃ (i:Nat) (bi:Int),r=[(0,[],.osl b 0 ls.length 1),(1,[],.int .i64 most),(5,[],.sl 1 (some q) ((((mgW (clsK ls)).take t).map (selW ls)).map encR)),(6,[],.int .i64 bi),(7,[],.int .i64 i)]∧h=(b,.vec (cur.map encS).flatten)::[(q,.tok)]∧m=ls.length - i∧i≤ls.length∧BestTo cur i bi) ?_ ?_
     ·conv=>whnf
      exact ⟨_,_,Turn.refl _ _,_,0,-1,rfl,rfl,rfl,by omega,.inl ⟨rfl,fun j l hj=>by omega⟩⟩
     ·rintro m r h' ⟨i,bi,rfl,rfl,rfl,hi,hb⟩
      conv=>whnf
      refine ⟨fun hz2=>?_,fun hz2=>?_⟩<;>simp at hz2
      ·obtain ⟨li,hli⟩:=get_lt (l:=cur) (i:=i) (by omega)
       have hlil:=hclen i li hli
       have hbi:-1≤bi∧bi<ls.length:=hb.lt (by omega)
       obtain ⟨lb,hlb⟩:=get_lt (l:=cur) (i:=bi.toNat) (by omega)
       have hlbl:=hclen _ lb hlb
       have hless:=r7Less (li.getD 0 ⟨[],0⟩) (lb.getD 0 ⟨[],0⟩) (getD_path (hclp i li hli)) (getD_path (hclp _ lb hlb))
       conv=>whnf
       repeat ((first|(refine ixo (i:=i) (by omega) ?_)|(refine ldE encS_len (.head _) (by omega) hli ?_)|(refine ixg (enc:=encR) (⟨[],0⟩:Rst) ?_ ?_;(focus (conv=>whnf;skip));(focus (intro h1 h2;simp only [decide_eq_true_eq,decide_eq_false_iff_not,List.length_map] at h1 h2;first|(show 0≤(0:Int)∧(0:Int)<(li.length:Int);omega)|(show 0≤(0:Int)∧(0:Int)<(lb.length:Int);have:=hb.full (by omega) hlb;omega))))|(refine ixog ?_ ?_;(focus (conv=>whnf;skip));(focus (intro h1 h2;simp only [decide_eq_true_eq,decide_eq_false_iff_not,List.length_map] at h1 h2;show 0≤bi∧bi<ls.length;omega)))|(refine ldE encS_len (.head _) (by omega) hlb ?_)|refine gcall (hless) ?_|refine And.intro (by show drawOK (opsAt Tryz.f109 _) _=true;decide +kernel) ?_);conv=>whnf)
       refine ⟨fun hz3=>?_,fun hz3=>?_⟩
       ·conv=>whnf
        repeat (refine ⟨gP_of ⟨by omega,by omega⟩,?_⟩;conv=>whnf)
        conv=>whnf
        skip
        exact ⟨_,_,Turn.refl _ _,_,(by omega),i+1,i,rfl,rfl,rfl,by omega,(hb.step hli hlb).1 (by simp at hz3;omega) (by simp at hz3;simpa using hz3.2)⟩
       ·conv=>whnf
        repeat (refine ⟨gP_of ⟨by omega,by omega⟩,?_⟩;conv=>whnf)
        conv=>whnf
        skip
        exact ⟨_,_,Turn.refl _ _,_,(by omega),i+1,bi,rfl,rfl,rfl,by omega,(hb.step hli hlb).2 (by rintro ⟨e1,e2⟩;simp at hz3;simp at e2;have:=hz3 e1;omega)⟩
      ·obtain rfl:i=ls.length:=by omega
       rw [hcur] at hb
       rcases hb.end with ⟨rfl,hbn⟩|⟨k,pp,rr,l,rfl,hlk,hck,hdk,hbk⟩
       ·have hte:(mgW (clsK ls)).take t=(mgW (clsK ls)).take most:=by
         have hle:(mgW (clsK ls)).length≤t:=by
          rcases Nat.lt_or_ge t (mgW (clsK ls)).length with e|e
          ·obtain ⟨x,hx⟩:=get_lt e
           rw [mgW_get,hbn] at hx
           cases hx
          ·exact e
         rw [List.take_of_length_le hle,List.take_of_length_le (by omega)]
        conv=>whnf
        skip
        refine ⟨fun hz3=>?_,fun hz3=>?_⟩<;>simp at hz3
        have hfin:mrgL ls most=((mgW (clsK ls)).take t).map (selW ls):=by unfold mrgL;rw [hte]
        conv=>whnf
        skip
        rw [hfin]
        exact ho'.le (by decide)
       ·have hbk':=hbk
        rw [← mgW_get] at hbk'
        have hklt:k<ls.length:=(List.getElem?_eq_some_iff.1 hlk).1
        rw [← hcur] at hck
        have hkl:=hclen k _ hck
        conv=>whnf
        skip
        refine ⟨fun hz3=>absurd (of_decide_eq_true hz3) (by omega),fun hz3=>?_⟩
        conv=>whnf
        repeat ((first|(refine ixo (i:=k) (by omega) ?_)|(refine ldE encS_len (.head _) (by omega) hck ?_)|(refine ix (enc:=encR) (i:=0) rfl ?_));conv=>whnf)
        have htk:((mgW (clsK ls)).take (t+1)).map (selW ls)=((mgW (clsK ls)).take t).map (selW ls)++[pp]:=by
         rw [take_snoc hbk',List.map_append]
         refine congrArg (_++[·]) ?_
         show (ls.getD k []).getD (stS (clsK ls) t k) ⟨[],0⟩=pp
         rw [show ls.getD k []=l by rw [List.getD_eq_getElem?_getD,hlk];rfl,List.getD_eq_getElem?_getD]
         have:=congrArg (fun z=>z[0]?) hdk
         simp only [List.getElem?_drop,Nat.add_zero,List.getElem?_cons_zero] at this
         rw [this];rfl
        have hup:cur.set k rr=curL ls (stS (clsK ls) (t+1)):=by
         rw [stS_succ hbk',hcur,← curL_up hlk,hdk];rfl
        have hlen2:t<(mgW (clsK ls)).length:=(List.getElem?_eq_some_iff.1 hbk').1
        refine ⟨(by rw [List.length_append,hml];simp;unfold AMAX;omega),fun q2=>⟨_,.there (.here _),?_⟩⟩
        conv=>whnf
        repeat ((first|(refine ixo (i:=k) (by omega) ?_)|(refine ldE encS_len (by first|exact .head _|exact .tail _ (.head _)) (by omega) hck ?_)|(refine ⟨gP_of ⟨by decide,by rw [List.length_map,List.length_cons];omega,Int.le_refl _⟩,?_⟩));conv=>whnf)
        conv=>whnf
        have hcut:List.drop (Int.toNat 1) (List.take ((((pp::rr).map encR).length:Int)).toNat ((pp::rr).map encR))=rr.map encR:=by
         rw [Int.toNat_natCast,List.take_length];rfl
        refine stE (enc:=encS) (L:=cur) rr (by decide) encS_len (by rw [hcl];exact hklt) (by omega) (by unfold encS;rw [← hcut];rfl) (by first|exact .here _|exact .there (.here _)) ?_
        conv=>whnf
        skip
        exact ⟨_,_,Turn.refl _ _,_,(by omega),t+1,_,[(q2,.tok)],rfl,(by rw [hup]),rfl,by omega,by omega,.inr ⟨q2,(by rw [htk,List.map_append];rfl),rfl⟩⟩
    ·have hte:(mgW (clsK ls)).take t=(mgW (clsK ls)).take most:=by rw [show t=most by omega]
     have hfin:mrgL ls most=((mgW (clsK ls)).take t).map (selW ls):=by unfold mrgL;rw [hte]
     conv=>whnf
     skip
     rw [hfin]
     exact ho'.le (by decide)
 ·intro v h1 hv
  exact ⟨.sl 1 none ((mrgL ls most).map encR),[],⟨rfl,rfl⟩,hv,fun k o hm=>(by cases hm),fun _=>(by simp [keys])⟩
end Go.Abs.Wall.Spl
namespace Go.Abs.Wall.Spl
open Go Go.Abs Go.Proofs Go.Abs.Wall
open Go.Abs.Wall.Lst hiding encWy wyCmp wyCmp_lt wayCompare fndW encWy_len idxW_iff binNil binW insNilW over224 InsR insC OpenR insW_acalls ndC putW NodeS NodeH getV GetC recCall putCall getStep getAll sumC encT encN encR encS encS_len clsS selW curL curL_len curL_get curL_up curL_zero BestTo BestTo.lt BestTo.full BestTo.step BestTo.end mrgL mergeW
end Go.Abs.Wall.Spl
namespace Go.Abs.Wall.Spl
open Go Go.Abs Go.Proofs Go.Abs.Wall
open Go.Abs.Wall.Lst hiding encWy wyCmp wyCmp_lt wayCompare fndW encWy_len idxW_iff binNil binW insNilW over224 InsR insC OpenR insW_acalls ndC putW path_step
def PathOK (E:Env):Sta→List Mv→Prop
 | x,[]=>(lastM E x).2=true
 | x,m::p=>m∈movesM E x∧PathOK E m.to p
def keyP (E:Env):Sta→List Mv→Int
 | x,[]=>(lastM E x).1*16
 | x,m::p=>keyP E m.to p+(m.cost*16+1)
theorem way_path {E:Env} (hE:EOK E):∀ (d:Nat) (x:Sta),StOK E x→(12 - x.n).toNat=d→∀ (ρ:Nat) w,(wayS E x)[ρ]?=some w→PathOK E x (pathS E x w)∧keyP E x (pathS E x w)=w.cost:=by
 intro d
 induction d with
 | zero=>
   intro x hx hd ρ w hw
   have hn:=hx.n
   by_cases he:w.edge=0
   ·obtain ⟨h1,h2,h3⟩:=path_end hE hx hw he
    rw [h1]
    exact ⟨h3,h2.symm⟩
   ·obtain ⟨m,w',hm,hmo,_⟩:=path_step hE hx hw he
    have:=hmo.next
    have:=hmo.to.n
    omega
 | succ d ih=>
   intro x hx hd ρ w hw
   have hn:=hx.n
   by_cases he:w.edge=0
   ·obtain ⟨h1,h2,h3⟩:=path_end hE hx hw he
    rw [h1]
    exact ⟨h3,h2.symm⟩
   ·obtain ⟨m,w',hm,hmo,hw',hp,hc,_⟩:=path_step hE hx hw he
    have hnx:=hmo.next
    obtain ⟨h1,h2⟩:=ih m.to hmo.to (by omega) _ w' hw'
    rw [hp]
    refine ⟨⟨List.mem_of_getElem? hm,h1⟩,?_⟩
    show keyP E m.to (pathS E m.to w')+_=_
    rw [h2,hc]
theorem path_way {E:Env} (hE:EOK E):∀ (p:List Mv) (x:Sta),StOK E x→PathOK E x p→∃ (ρ:Nat) (w:Wy),(wayS E x)[ρ]?=some w∧pathS E x w=p
 | [],x,hx,hp=>by
   have hp:(lastM E x).2=true:=hp
   have hl:lastL E x=[(lastM E x).1*16]:=by unfold lastL;rw [if_pos hp]
   have:=mgW_all (cls:=clsX E x) (k:=0) (r:=0) (clsX_zero E x) (by rw [hl];rfl)
   obtain ⟨ρ,hρ⟩:=List.mem_iff_getElem?.1 this
   rw [← wayS_eq hE hx] at hρ
   exact ⟨ρ,_,hρ,(path_end hE hx hρ rfl).1⟩
 | m::p,x,hx,hp=>by
   obtain ⟨hm,hp⟩:=hp
   have hmo:=moves_ok hE hx hm
   obtain ⟨i,hi⟩:=List.mem_iff_getElem?.1 hm
   obtain ⟨ρ',w',hw',hpe⟩:=path_way hE p m.to hmo.to hp
   have:=mgW_all (cls:=clsX E x) (k:=i+1) (r:=ρ') (c:=w'.cost+(m.cost*16+1)) (clsX_get hi) (by rw [List.getElem?_map,hw'];rfl)
   obtain ⟨ρ,hρ⟩:=List.mem_iff_getElem?.1 this
   rw [← wayS_eq hE hx] at hρ
   obtain ⟨m2,w2,h1,h2,h3,h4,_⟩:=path_step hE hx hρ (by simp)
   have h1:(movesM E x)[i]?=some m2:=h1
   rw [hi] at h1
   cases h1
   have h3:(wayS E m.to)[ρ']?=some w2:=h3
   rw [hw'] at h3
   cases h3
   exact ⟨ρ,_,hρ,by rw [h4,hpe]⟩
theorem way_up {E:Env} (hE:EOK E):∀ (d:Nat) (x:Sta),StOK E x→(12 - x.n).toNat=d→Up ((wayS E x).map (·.cost)):=by
 have step:∀ x,StOK E x→(∀ m∈movesM E x,Up ((wayS E m.to).map (·.cost)))→Up ((wayS E x).map (·.cost)):=by
  intro x hx hm
  have hup:∀ l∈clsX E x,Up l:=by
   intro l hl
   unfold clsX clsS at hl
   rcases List.mem_cons.1 hl with rfl|hl
   ·unfold lastL
    split
    ·intro i j a b hij ha hb
     have h1:=(List.getElem?_eq_some_iff.1 ha).1
     have h2:=(List.getElem?_eq_some_iff.1 hb).1
     simp at h1 h2
     subst h1 h2
     rw [ha] at hb
     cases hb
     exact Int.le_refl _
    ·intro i j a b hij ha hb
     cases ha
   ·obtain ⟨m,hmm,rfl⟩:=List.mem_map.1 hl
    intro i j a b hij ha hb
    rw [List.getElem?_map] at ha hb
    cases h1:(wayS E m.to)[i]? with
    | none=>rw [h1] at ha;cases ha
    | some u=>
    cases h2:(wayS E m.to)[j]? with
    | none=>rw [h2] at hb;cases hb
    | some v=>
    rw [h1] at ha;rw [h2] at hb
    cases ha;cases hb
    have:=hm m hmm i j u.cost v.cost hij (by rw [List.getElem?_map,h1];rfl) (by rw [List.getElem?_map,h2];rfl)
    show u.cost+_≤v.cost+_
    omega
  rw [wayS_eq hE hx]
  intro i j a b hij ha hb
  rw [List.getElem?_map] at ha hb
  cases h1:(mgW (clsX E x))[i]? with
  | none=>rw [h1] at ha;cases ha
  | some u=>
  cases h2:(mgW (clsX E x))[j]? with
  | none=>rw [h2] at hb;cases hb
  | some v=>
  rw [h1] at ha;rw [h2] at hb
  cases ha;cases hb
  rcases Nat.lt_or_ge i j with h|h
  ·have:=mgW_up hup h h1 h2
   unfold wlt at this
   show u.cost≤v.cost
   omega
  ·have:i=j:=by omega
   subst this
   rw [h1] at h2
   cases h2
   exact Int.le_refl _
 intro d
 induction d with
 | zero=>
   intro x hx hd
   refine step x hx fun m hm=>?_
   have h1:=hx.n
   have h2:=(moves_ok hE hx hm).next
   have h3:=(moves_ok hE hx hm).to.n
   omega
 | succ d ih=>
   intro x hx hd
   refine step x hx fun m hm=>?_
   have h1:=hx.n
   have h2:=(moves_ok hE hx hm).next
   exact ih m.to (moves_ok hE hx hm).to (by omega)
theorem way_first {E:Env} (hE:EOK E) {x:Sta} (hx:StOK E x) {w:Wy} (hw:(wayS E x)[0]?=some w) {p:List Mv} (hp:PathOK E x p):w.cost≤keyP E x p:=by
 obtain ⟨ρ,v,hv,he⟩:=path_way hE p x hx hp
 have h1:=(way_path hE _ x hx rfl ρ v hv).2
 rw [he] at h1
 rw [h1]
 exact way_up hE _ x hx rfl 0 ρ w.cost v.cost (Nat.zero_le _) (by rw [List.getElem?_map,hw];rfl) (by rw [List.getElem?_map,hv];rfl)
theorem way_some {E:Env} (hE:EOK E) {x:Sta} (hx:StOK E x) {p:List Mv} (hp:PathOK E x p):∃ w,(wayS E x)[0]?=some w:=by
 obtain ⟨ρ,v,hv,_⟩:=path_way hE p x hx hp
 have:=(List.getElem?_eq_some_iff.1 hv).1
 exact get_lt (by omega)
theorem path_len {E:Env} (hE:EOK E):∀ (p:List Mv) (x:Sta),StOK E x→PathOK E x p→(p.length:Int)+x.n≤12
 | [],x,hx,hp=>by have:=hx.n;simp;omega
 | m::p,x,hx,hp=>by
   have hmo:=moves_ok hE hx hp.1
   have:=path_len hE p m.to hmo.to hp.2
   have:=hmo.next
   rw [List.length_cons]
   omega
end Go.Abs.Wall.Spl
namespace Go.Abs.Wall.Spl
open Go Go.Abs Go.Proofs Go.Abs.Wall
end Go.Abs.Wall.Spl
