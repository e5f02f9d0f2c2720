/- What is proved: small laws for the walks of this seat, and contracts of its functions. No condition but those each theorem names. -/
import Derived.Test.YtbmcnieifibckaaGreatN23
import Derived.Test.YtbmcnieifibckaaGreatN16
import Derived.Test.YtbmcnieifibckaaGreatN21
import Derived.Test.YtbmcnieifibckaaGreatN17
import Derived.Test.YtbmcnieifibckaaGreatN19
import Derived.Test.YtbmcnieifibckaaGreatN26
set_option maxRecDepth 100000
set_option maxHeartbeats 2000000
set_option linter.unusedVariables false
set_option linter.unusedSimpArgs false
namespace Go.Abs.Wall.Spl
open Go Go.Abs Go.Proofs Go.Abs.Wall
open Go.Abs.Wall.Lst hiding encWy wyCmp wyCmp_lt wayCompare fndW encWy_len idxW_iff binNil binW insNilW over224 InsR insC OpenR insW_acalls ndC putW NodeS NodeH getV GetC recCall putCall getStep getAll sumC encT encN encR encS encS_len clsS selW curL curL_len curL_get curL_up curL_zero BestTo BestTo.lt BestTo.full BestTo.step BestTo.end mrgL mergeW
structure Stp where
 sign:Int
 cost:Int
 to:Nat
 use:Use
structure Rst where
 path:List Stp
 fin:Int
def sumP (p:List Stp):Int:=(p.map (·.cost)).sum
def costR (r:Rst):Int:=r.fin+sumP r.path
def keyR (r:Rst):Int:=costR r*16+r.path.length
def encStp (t:Stp):List AV:=[.int .i64 t.sign,.int .i64 t.cost,.int .i64 t.to]++encUse t.use
def encT (c:Int):List Stp→List AV
 | []=>[.int .i64 0,.int .i64 0,.int .i64 0,.int .i64 0,.str [],.nilP]
 | t::p=>encStp t++[.iptr (.int .i64 (c+sumP p)::.int .i64 p.length::encT c p)]
def encN (r:Rst):List AV:=.int .i64 (costR r)::.int .i64 r.path.length::encT r.fin r.path
def encR (r:Rst):List AV:=[.iptr (encN r)]
def encS (l:List Rst):List AV:=[.sl 1 none (l.map encR)]
theorem encS_len (l:List Rst):(encS l).length=1:=rfl
def clsK (ls:List (List Rst)):List (List Int):=ls.map fun l=>l.map keyR
def selW (ls:List (List Rst)) (w:Wy):Rst:=(ls.getD w.edge []).getD w.rank ⟨[],0⟩
def curL (ls:List (List Rst)) (rs:Nat→Nat):List (List Rst):=ls.mapIdx fun k l=>l.drop (rs k)
theorem curL_len (ls:List (List Rst)) (rs:Nat→Nat):(curL ls rs).length=ls.length:=by simp [curL]
theorem curL_get {ls:List (List Rst)} {rs:Nat→Nat} {k:Nat} {l:List Rst} (h:ls[k]?=some l):(curL ls rs)[k]?=some (l.drop (rs k)):=by
 unfold curL
 rw [List.getElem?_mapIdx,h];rfl
theorem curL_up {ls:List (List Rst)} {rs:Nat→Nat} {k:Nat} {l:List Rst} (h:ls[k]?=some l):(curL ls rs).set k ((l.drop (rs k)).drop 1)=curL ls (up rs k):=by
 refine List.ext_getElem? fun j=>?_
 by_cases hj:j=k
 ·subst hj
  rw [List.getElem?_set_self (by rw [curL_len];exact (List.getElem?_eq_some_iff.1 h).1),curL_get h,List.drop_drop]
  unfold up
  rw [if_pos rfl,Nat.add_comm]
 ·rw [List.getElem?_set_ne (Ne.symm hj)]
  unfold curL
  rw [List.getElem?_mapIdx,List.getElem?_mapIdx]
  unfold up
  rw [if_neg hj]
theorem curL_zero (ls:List (List Rst)):curL ls zro=ls:=by
 unfold curL zro
 refine List.ext_getElem? fun j=>?_
 rw [List.getElem?_mapIdx]
 cases ls[j]?<;>rfl
def BestTo (cur:List (List Rst)) (i:Nat) (b:Int):Prop:=
 (b = -1∧∀ j l,j<i→cur[j]?=some l→l=[]) ∨
 ∃ (k:Nat) (p:Rst) (r:List Rst),b=(k:Int)∧k<i∧cur[k]?=some (p::r)∧∀ (j:Nat) q s,j<i→cur[j]?=some (q::s)→keyR p<keyR q∨(keyR p=keyR q∧k≤j)
theorem BestTo.lt {cur:List (List Rst)} {i:Nat} {b:Int} {n:Nat} (h:BestTo cur i b) (hi:i≤n):-1≤b∧b<n:=by
 rcases h with ⟨rfl,_⟩|⟨k,p,r,rfl,hk,_⟩<;>omega
theorem BestTo.full {cur:List (List Rst)} {i:Nat} {b:Int} {lb:List Rst} (h:BestTo cur i b) (hb:0≤b) (hlb:cur[b.toNat]?=some lb):0<lb.length:=by
 rcases h with ⟨rfl,_⟩|⟨k,p,r,rfl,hk,hc,_⟩
 ·omega
 ·rw [Int.toNat_natCast,hc] at hlb
  cases hlb
  simp
theorem BestTo.step {cur:List (List Rst)} {i:Nat} {b:Int} {li lb:List Rst} (h:BestTo cur i b) (hli:cur[i]?=some li) (hlb:cur[b.toNat]?=some lb) :
  (0<li.length→(b<0∨keyR (li.getD 0 ⟨[],0⟩)<keyR (lb.getD 0 ⟨[],0⟩))→BestTo cur (i+1) i)∧(¬ (0<li.length∧(b<0∨keyR (li.getD 0 ⟨[],0⟩)<keyR (lb.getD 0 ⟨[],0⟩)))→BestTo cur (i+1) b):=by
 have cases1:∀ (j:Nat),j<i+1→j<i∨j=i:=fun j hj=>by omega
 constructor
 ·intro h1 h2
  cases li with
  | nil=>simp at h1
  | cons p r=>
    refine .inr ⟨i,p,r,rfl,by omega,hli,fun j q s hj hq=>?_⟩
    rcases cases1 j hj with hj|rfl
    ·left
     rcases h with ⟨rfl,he⟩|⟨k,p',r',rfl,hk,hc,hm⟩
     ·have:=he j _ hj hq
      cases this
     ·rw [Int.toNat_natCast,hc] at hlb
      cases hlb
      have h3:keyR p<keyR p':=by
       rcases h2 with h2|h2
       ·omega
       ·simpa using h2
      rcases hm j q s hj hq with e|⟨e,_⟩<;>omega
    ·rw [hli] at hq
     cases hq
     exact .inr ⟨rfl,Nat.le_refl _⟩
 ·intro hn
  rcases h with ⟨rfl,he⟩|⟨k,p,r,rfl,hk,hc,hm⟩
  ·refine .inl ⟨rfl,fun j l hj hl=>?_⟩
   rcases cases1 j hj with hj|rfl
   ·exact he j l hj hl
   ·rw [hli] at hl
    cases hl
    refine Classical.byContradiction fun hne=>hn ⟨List.length_pos_iff.2 hne,.inl (by omega)⟩
  ·refine .inr ⟨k,p,r,rfl,by omega,hc,fun j q s hj hq=>?_⟩
   rcases cases1 j hj with hj|rfl
   ·exact hm j q s hj hq
   ·rw [hli] at hq
    cases hq
    rw [Int.toNat_natCast,hc] at hlb
    cases hlb
    have:¬ keyR q<keyR p:=fun e=>hn ⟨by simp,.inr (by simpa using e)⟩
    by_cases e:keyR p<keyR q
    ·exact .inl e
    ·exact .inr ⟨by omega,by omega⟩
theorem BestTo.end {ls:List (List Rst)} {rs:Nat→Nat} {b:Int} (h:BestTo (curL ls rs) ls.length b) :
  (b = -1∧best (clsK ls) rs=none)∨∃ (k:Nat) (p:Rst) (r:List Rst) (l:List Rst),b=(k:Int)∧ls[k]?=some l∧(curL ls rs)[k]?=some (p::r)∧l.drop (rs k)=p::r∧best (clsK ls) rs=some ⟨keyR p,k,rs k⟩:=by
 have hcand:∀ x,Cand (clsK ls) rs x→∃ q s,(curL ls rs)[x.edge]?=some (q::s)∧keyR q=x.cost:=by
  rintro x ⟨h1,l,h2,h3⟩
  unfold clsK at h2
  rw [List.getElem?_map] at h2
  cases hl:ls[x.edge]? with
  | none=>rw [hl] at h2;cases h2
  | some l0=>
    rw [hl] at h2;cases h2
    rw [List.getElem?_map,h1] at h3
    cases hq:l0[rs x.edge]? with
    | none=>rw [hq] at h3;cases h3
    | some q=>
      rw [hq] at h3
      refine ⟨q,l0.drop (rs x.edge+1),?_,by simpa using h3⟩
      rw [curL_get hl,drop_cons hq]
 rcases h with ⟨rfl,he⟩|⟨k,p,r,rfl,hk,hc,hm⟩
 ·left
  refine ⟨rfl,best_empty fun x hx=>?_⟩
  obtain ⟨q,s,h1,_⟩:=hcand x hx
  have hlt:=(List.getElem?_eq_some_iff.1 h1).1
  rw [curL_len] at hlt
  have:=he x.edge _ hlt h1
  cases this
 ·right
  obtain ⟨l,hl⟩:=get_lt (l:=ls) hk
  have hd:l.drop (rs k)=p::r:=by
   have:=curL_get (rs:=rs) hl
   rw [hc] at this
   exact (Option.some.inj this).symm
  have hp:l[rs k]?=some p:=by
   have:=congrArg (fun z=>z[0]?) hd
   simpa [List.getElem?_drop] using this
  refine ⟨k,p,r,l,rfl,hl,hc,hd,best_of ⟨rfl,l.map keyR,?_,?_⟩ fun y hy=>?_⟩
  ·unfold clsK;rw [List.getElem?_map,hl];rfl
  ·show (l.map keyR)[rs k]?=some (keyR p)
   rw [List.getElem?_map,hp];rfl
  ·obtain ⟨q,s,h1,h2⟩:=hcand y hy
   have hlt:=(List.getElem?_eq_some_iff.1 h1).1
   rw [curL_len] at hlt
   rcases hm y.edge q s hlt h1 with e|⟨e1,e2⟩
   ·exact .inr (.inl (by show keyR p<y.cost;omega))
   ·by_cases e3:y.edge=k
    ·left
     refine Cand.eq hy ⟨rfl,l.map keyR,?_,?_⟩ e3
     ·unfold clsK;rw [List.getElem?_map,hl];rfl
     ·show (l.map keyR)[rs k]?=some (keyR p)
      rw [List.getElem?_map,hp];rfl
    ·exact .inr (.inr ⟨by show keyR p=y.cost;omega,by show k<y.edge;omega⟩)
def c167:Cfg:=⟨[0,1,4,13],[],[],[],[(1,[0,1,2,3,4,5,6,7,8],[]),(2,[0,1,2,3,4,5,6,7,8,9],[]),(3,[0,1,2,3,4,5,6,7,8,9],[])],[]⟩
theorem r7Less (x y:Rst) (hx:x.path.length≤15) (hy:y.path.length≤15):QCall Tryz.prog 167 [.iptr (encN x),.iptr (encN y)] [] (.bool (decide (keyR x<keyR y))):=by
 refine fcalls (F:=Tryz.f167) c167 rfl rfl rfl mixed rfl fun X=>?_
 conv=>whnf
 repeat (refine And.intro (by show drawOK (opsAt Tryz.f167 _) _=true;decide +kernel) ?_;conv=>whnf)
 refine ⟨fun h0=>?_,fun h0=>?_⟩<;>simp at h0
 ·have he:decide (keyR x<keyR y)=decide (costR x<costR y):=by
   refine decide_eq_decide.2 ?_
   unfold keyR
   omega
  rw [he]
  conv=>whnf
  repeat (refine And.intro (by show drawOK (opsAt Tryz.f167 _) _=true;decide +kernel) ?_;conv=>whnf)
  exact ⟨rfl,rfl⟩
 ·have he:decide (keyR x<keyR y)=decide ((x.path.length:Int)<y.path.length):=by
   refine decide_eq_decide.2 ?_
   unfold keyR
   omega
  rw [he]
  conv=>whnf
  repeat (refine And.intro (by show drawOK (opsAt Tryz.f167 _) _=true;decide +kernel) ?_;conv=>whnf)
  exact ⟨rfl,rfl⟩
theorem getD_path {l:List Rst} (h:∀ r∈l,r.path.length≤15):(l.getD 0 ⟨[],0⟩).path.length≤15:=by
 rw [List.getD_eq_getElem?_getD]
 cases hq:l[0]? with
 | none=>exact Nat.zero_le _
 | some r=>exact h r (List.mem_of_getElem? hq)
def mrgL (ls:List (List Rst)) (most:Nat):List Rst:=((mgW (clsK ls)).take most).map (selW ls)
def c109:Cfg:=⟨[0,1,4,5,6,7,11,15,42,45],[],[],[],[(7,[0,1,2,3,4,5,6,7,8,9,10,11,12,13,14,15,16,17,18,19,20,21,22,23,24],[])],[]⟩
theorem mergeW (ls:List (List Rst)) (hne:0<ls.length) (hl:ls.length≤65536) (hll:∀ l∈ls,l.length≤65536) (hpl:∀ l∈ls,∀ r∈l,r.path.length≤15) (most:Nat) (hm:most≤64) (b:Nat) :
  ACalls Tryz.prog 109 [.osl b 0 ls.length 1,.int .i64 most] [(b,.vec (ls.map encS).flatten)] (fun v h'=>v=.sl 1 none ((mrgL ls most).map encR)∧h'=[]):=by
 refine ACalls.post (R:=fun v h'=>VLe v (.sl 1 none ((mrgL ls most).map encR))) ?_ ?_
 ·refine fcalls (F:=Tryz.f109) c109 rfl rfl rfl mixed rfl fun X=>?_
  conv=>whnf
  skip
  refine tloop rfl mixed [0,1,5] [] (fun m r h=>∃ (t:Nat) (ov:AV) (oh:Heap),r=[(0,[],.osl b 0 ls.length 1),(1,[],.int .i64 most),(5,[],ov)]∧h=(b,.vec ((curL ls (stS (clsK ls) t)).map encS).flatten)::oh∧m=65 - t∧t≤most∧t≤(mgW (clsK ls)).length∧Out 1 encR (((mgW (clsK ls)).take t).map (selW ls)) ov oh) ?_ ?_
  ·conv=>whnf
   exact ⟨_,_,Turn.refl _ _,_,0,.nilS,[],rfl,by rw [show stS (clsK ls) 0=zro from rfl,curL_zero],rfl,by omega,by omega,.inl ⟨by simp,rfl,rfl⟩⟩
  ·rintro m r h' ⟨t,ov,oh,rfl,rfl,rfl,htm,htl,ho⟩
   have ho':=ho
   have hol:(((mgW (clsK ls)).take t).map (selW ls)).length=t:=by rw [List.length_map,List.length_take];omega
   obtain ⟨cur,hcur⟩:∃ cur,cur=curL ls (stS (clsK ls) t):=⟨_,rfl⟩
   have hcl:cur.length=ls.length:=by rw [hcur,curL_len]
   have hclen:∀ (k:Nat) l,cur[k]?=some l→l.length≤65536:=by
    intro k l hk
    rw [hcur] at hk
    have hlt:=(List.getElem?_eq_some_iff.1 hk).1
    rw [curL_len] at hlt
    obtain ⟨l0,hl0⟩:=get_lt (l:=ls) hlt
    rw [curL_get hl0] at hk
    cases hk
    have:=hll l0 (List.mem_of_getElem? hl0)
    rw [List.length_drop];omega
   have hclp:∀ (k:Nat) l,cur[k]?=some l→∀ r∈l,r.path.length≤15:=by
    intro k l hk r hr
    rw [hcur] at hk
    have hlt:=(List.getElem?_eq_some_iff.1 hk).1
    rw [curL_len] at hlt
    obtain ⟨l0,hl0⟩:=get_lt (l:=ls) hlt
    rw [curL_get hl0] at hk
    cases hk
    exact hpl l0 (List.mem_of_getElem? hl0) r (List.mem_of_mem_drop hr)
   rw [← hcur]
   have hml:((((mgW (clsK ls)).take t).map (selW ls)).map encR).length=t:=by rw [List.length_map];exact hol
   rcases ho with ⟨hon,rfl,rfl⟩|⟨q,rfl,rfl⟩
   ·have ht0:t=0:=by rw [hon] at hol;exact hol.symm
    skip
    conv=>whnf
    skip
    refine ⟨fun hz=>?_,fun hz=>?_⟩<;>simp at hz
    ·have htm2:t<most:=by omega
     refine tloop rfl mixed [0,1,5,6,7] [] (fun m r h=>∃ (i:Nat) (bi:Int),r=[(0,[],.osl b 0 ls.length 1),(1,[],.int .i64 most),(5,[],.nilS),(6,[],.int .i64 bi),(7,[],.int .i64 i)]∧h=(b,.vec (cur.map encS).flatten)::[]∧m=ls.length - i∧i≤ls.length∧BestTo cur i bi) ?_ ?_
     ·conv=>whnf
      exact ⟨_,_,Turn.refl _ _,_,0,-1,rfl,rfl,rfl,by omega,.inl ⟨rfl,fun j l hj=>by omega⟩⟩
     ·rintro m r h' ⟨i,bi,rfl,rfl,rfl,hi,hb⟩
      conv=>whnf
      refine ⟨fun hz2=>?_,fun hz2=>?_⟩<;>simp at hz2
      ·obtain ⟨li,hli⟩:=get_lt (l:=cur) (i:=i) (by omega)
       have hlil:=hclen i li hli
       have hbi:-1≤bi∧bi<ls.length:=hb.lt (by omega)
       obtain ⟨lb,hlb⟩:=get_lt (l:=cur) (i:=bi.toNat) (by omega)
       have hlbl:=hclen _ lb hlb
       have hless:=r7Less (li.getD 0 ⟨[],0⟩) (lb.getD 0 ⟨[],0⟩) (getD_path (hclp i li hli)) (getD_path (hclp _ lb hlb))
       conv=>whnf
       repeat ((first|(refine ixo (i:=i) (by omega) ?_)|(refine ldE encS_len (.head _) (by omega) hli ?_)|(refine ixg (enc:=encR) (⟨[],0⟩:Rst) ?_ ?_;(focus (conv=>whnf;skip));(focus (intro h1 h2;simp only [decide_eq_true_eq,decide_eq_false_iff_not,List.length_map] at h1 h2;first|(show 0≤(0:Int)∧(0:Int)<(li.length:Int);omega)|(show 0≤(0:Int)∧(0:Int)<(lb.length:Int);have:=hb.full (by omega) hlb;omega))))|(refine ixog ?_ ?_;(focus (conv=>whnf;skip));(focus (intro h1 h2;simp only [decide_eq_true_eq,decide_eq_false_iff_not,List.length_map] at h1 h2;show 0≤bi∧bi<ls.length;omega)))|(refine ldE encS_len (.head _) (by omega) hlb ?_)|refine gcall (hless) ?_|refine And.intro (by show drawOK (opsAt Tryz.f109 _) _=true;decide +kernel) ?_);conv=>whnf)
       refine ⟨fun hz3=>?_,fun hz3=>?_⟩
       ·conv=>whnf
        repeat (refine ⟨gP_of ⟨by omega,by omega⟩,?_⟩;conv=>whnf)
        conv=>whnf
        skip
        exact ⟨_,_,Turn.refl _ _,_,(by omega),i+1,i,rfl,rfl,rfl,by omega,(hb.step hli hlb).1 (by simp at hz3;omega) (by simp at hz3;simpa using hz3.2)⟩
       ·conv=>whnf
        repeat (refine ⟨gP_of ⟨by omega,by omega⟩,?_⟩;conv=>whnf)
        conv=>whnf
        skip
        exact ⟨_,_,Turn.refl _ _,_,(by omega),i+1,bi,rfl,rfl,rfl,by omega,(hb.step hli hlb).2 (by rintro ⟨e1,e2⟩;simp at hz3;simp at e2;have:=hz3 e1;omega)⟩
      ·obtain rfl:i=ls.length:=by omega
       rw [hcur] at hb
       rcases hb.end with ⟨rfl,hbn⟩|⟨k,pp,rr,l,rfl,hlk,hck,hdk,hbk⟩
       ·have hte:(mgW (clsK ls)).take t=(mgW (clsK ls)).take most:=by
         have hle:(mgW (clsK ls)).length≤t:=by
          rcases Nat.lt_or_ge t (mgW (clsK ls)).length with e|e
          ·obtain ⟨x,hx⟩:=get_lt e
           rw [mgW_get,hbn] at hx
           cases hx
          ·exact e
         rw [List.take_of_length_le hle,List.take_of_length_le (by omega)]
        conv=>whnf
        skip
        refine ⟨fun hz3=>?_,fun hz3=>?_⟩<;>simp at hz3
        have hfin:mrgL ls most=((mgW (clsK ls)).take t).map (selW ls):=by unfold mrgL;rw [hte]
        conv=>whnf
        skip
        rw [hfin]
        exact ho'.le (by decide)
       ·have hbk':=hbk
        rw [← mgW_get] at hbk'
        have hklt:k<ls.length:=(List.getElem?_eq_some_iff.1 hlk).1
        rw [← hcur] at hck
        have hkl:=hclen k _ hck
        conv=>whnf
        skip
        refine ⟨fun hz3=>absurd (of_decide_eq_true hz3) (by omega),fun hz3=>?_⟩
        conv=>whnf
        repeat ((first|(refine ixo (i:=k) (by omega) ?_)|(refine ldE encS_len (.head _) (by omega) hck ?_)|(refine ix (enc:=encR) (i:=0) rfl ?_));conv=>whnf)
        have htk:((mgW (clsK ls)).take (t+1)).map (selW ls)=((mgW (clsK ls)).take t).map (selW ls)++[pp]:=by
         rw [take_snoc hbk',List.map_append]
         refine congrArg (_++[·]) ?_
         show (ls.getD k []).getD (stS (clsK ls) t k) ⟨[],0⟩=pp
         rw [show ls.getD k []=l by rw [List.getD_eq_getElem?_getD,hlk];rfl,List.getD_eq_getElem?_getD]
         have:=congrArg (fun z=>z[0]?) hdk
         simp only [List.getElem?_drop,Nat.add_zero,List.getElem?_cons_zero] at this
         rw [this];rfl
        have hup:cur.set k rr=curL ls (stS (clsK ls) (t+1)):=by
         rw [stS_succ hbk',hcur,← curL_up hlk,hdk];rfl
        have hlen2:t<(mgW (clsK ls)).length:=(List.getElem?_eq_some_iff.1 hbk').1
        refine ⟨Nat.le_of_ble_eq_true rfl,fun q2=>?_⟩
        conv=>whnf
        repeat ((first|(refine ixo (i:=k) (by omega) ?_)|(refine ldE encS_len (by first|exact .head _|exact .tail _ (.head _)) (by omega) hck ?_)|(refine ⟨gP_of ⟨by decide,by rw [List.length_map,List.length_cons];omega,Int.le_refl _⟩,?_⟩));conv=>whnf)
        conv=>whnf
        have hcut:List.drop (Int.toNat 1) (List.take ((((pp::rr).map encR).length:Int)).toNat ((pp::rr).map encR))=rr.map encR:=by
         rw [Int.toNat_natCast,List.take_length];rfl
        refine stE (enc:=encS) (L:=cur) rr (by decide) encS_len (by rw [hcl];exact hklt) (by omega) (by unfold encS;rw [← hcut];rfl) (by first|exact .here _|exact .there (.here _)) ?_
        conv=>whnf
        skip
        exact ⟨_,_,Turn.perm (List.Perm.swap _ _ _),_,(by omega),t+1,_,[(q2,.tok)],rfl,(by rw [hup]),rfl,by omega,by omega,.inr ⟨q2,(by rw [htk,hon];rfl),rfl⟩⟩
    ·have hte:(mgW (clsK ls)).take t=(mgW (clsK ls)).take most:=by rw [show t=most by omega]
     have hfin:mrgL ls most=((mgW (clsK ls)).take t).map (selW ls):=by unfold mrgL;rw [hte]
     conv=>whnf
     skip
     rw [hfin]
     exact ho'.le (by decide)
   ·skip
    skip
    conv=>whnf
    skip
    refine ⟨fun hz=>?_,fun hz=>?_⟩<;>simp at hz
    ·have htm2:t<most:=by omega
     refine tloop rfl mixed [0,1,5,6,7] [] (fun m r h=>∃ (i:Nat) (bi:Int),r=[(0,[],.osl b 0 ls.length 1),(1,[],.int .i64 most),(5,[],.sl 1 (some q) ((((mgW (clsK ls)).take t).map (selW ls)).map encR)),(6,[],.int .i64 bi),(7,[],.int .i64 i)]∧h=(b,.vec (cur.map encS).flatten)::[(q,.tok)]∧m=ls.length - i∧i≤ls.length∧BestTo cur i bi) ?_ ?_
     ·conv=>whnf
      exact ⟨_,_,Turn.refl _ _,_,0,-1,rfl,rfl,rfl,by omega,.inl ⟨rfl,fun j l hj=>by omega⟩⟩
     ·rintro m r h' ⟨i,bi,rfl,rfl,rfl,hi,hb⟩
      conv=>whnf
      refine ⟨fun hz2=>?_,fun hz2=>?_⟩<;>simp at hz2
      ·obtain ⟨li,hli⟩:=get_lt (l:=cur) (i:=i) (by omega)
       have hlil:=hclen i li hli
       have hbi:-1≤bi∧bi<ls.length:=hb.lt (by omega)
       obtain ⟨lb,hlb⟩:=get_lt (l:=cur) (i:=bi.toNat) (by omega)
       have hlbl:=hclen _ lb hlb
       have hless:=r7Less (li.getD 0 ⟨[],0⟩) (lb.getD 0 ⟨[],0⟩) (getD_path (hclp i li hli)) (getD_path (hclp _ lb hlb))
       conv=>whnf
       repeat ((first|(refine ixo (i:=i) (by omega) ?_)|(refine ldE encS_len (.head _) (by omega) hli ?_)|(refine ixg (enc:=encR) (⟨[],0⟩:Rst) ?_ ?_;(focus (conv=>whnf;skip));(focus (intro h1 h2;simp only [decide_eq_true_eq,decide_eq_false_iff_not,List.length_map] at h1 h2;first|(show 0≤(0:Int)∧(0:Int)<(li.length:Int);omega)|(show 0≤(0:Int)∧(0:Int)<(lb.length:Int);have:=hb.full (by omega) hlb;omega))))|(refine ixog ?_ ?_;(focus (conv=>whnf;skip));(focus (intro h1 h2;simp only [decide_eq_true_eq,decide_eq_false_iff_not,List.length_map] at h1 h2;show 0≤bi∧bi<ls.length;omega)))|(refine ldE encS_len (.head _) (by omega) hlb ?_)|refine gcall (hless) ?_|refine And.intro (by show drawOK (opsAt Tryz.f109 _) _=true;decide +kernel) ?_);conv=>whnf)
       refine ⟨fun hz3=>?_,fun hz3=>?_⟩
       ·conv=>whnf
        repeat (refine ⟨gP_of ⟨by omega,by omega⟩,?_⟩;conv=>whnf)
        conv=>whnf
        skip
        exact ⟨_,_,Turn.refl _ _,_,(by omega),i+1,i,rfl,rfl,rfl,by omega,(hb.step hli hlb).1 (by simp at hz3;omega) (by simp at hz3;simpa using hz3.2)⟩
       ·conv=>whnf
        repeat (refine ⟨gP_of ⟨by omega,by omega⟩,?_⟩;conv=>whnf)
        conv=>whnf
        skip
        exact ⟨_,_,Turn.refl _ _,_,(by omega),i+1,bi,rfl,rfl,rfl,by omega,(hb.step hli hlb).2 (by rintro ⟨e1,e2⟩;simp at hz3;simp at e2;have:=hz3 e1;omega)⟩
      ·obtain rfl:i=ls.length:=by omega
       rw [hcur] at hb
       rcases hb.end with ⟨rfl,hbn⟩|⟨k,pp,rr,l,rfl,hlk,hck,hdk,hbk⟩
       ·have hte:(mgW (clsK ls)).take t=(mgW (clsK ls)).take most:=by
         have hle:(mgW (clsK ls)).length≤t:=by
          rcases Nat.lt_or_ge t (mgW (clsK ls)).length with e|e
          ·obtain ⟨x,hx⟩:=get_lt e
           rw [mgW_get,hbn] at hx
           cases hx
          ·exact e
         rw [List.take_of_length_le hle,List.take_of_length_le (by omega)]
        conv=>whnf
        skip
        refine ⟨fun hz3=>?_,fun hz3=>?_⟩<;>simp at hz3
        have hfin:mrgL ls most=((mgW (clsK ls)).take t).map (selW ls):=by unfold mrgL;rw [hte]
        conv=>whnf
        skip
        rw [hfin]
        exact ho'.le (by decide)
       ·have hbk':=hbk
        rw [← mgW_get] at hbk'
        have hklt:k<ls.length:=(List.getElem?_eq_some_iff.1 hlk).1
        rw [← hcur] at hck
        have hkl:=hclen k _ hck
        conv=>whnf
        skip
        refine ⟨fun hz3=>absurd (of_decide_eq_true hz3) (by omega),fun hz3=>?_⟩
        conv=>whnf
        repeat ((first|(refine ixo (i:=k) (by omega) ?_)|(refine ldE encS_len (.head _) (by omega) hck ?_)|(refine ix (enc:=encR) (i:=0) rfl ?_));conv=>whnf)
        have htk:((mgW (clsK ls)).take (t+1)).map (selW ls)=((mgW (clsK ls)).take t).map (selW ls)++[pp]:=by
         rw [take_snoc hbk',List.map_append]
         refine congrArg (_++[·]) ?_
         show (ls.getD k []).getD (stS (clsK ls) t k) ⟨[],0⟩=pp
         rw [show ls.getD k []=l by rw [List.getD_eq_getElem?_getD,hlk];rfl,List.getD_eq_getElem?_getD]
         have:=congrArg (fun z=>z[0]?) hdk
         simp only [List.getElem?_drop,Nat.add_zero,List.getElem?_cons_zero] at this
         rw [this];rfl
        have hup:cur.set k rr=curL ls (stS (clsK ls) (t+1)):=by
         rw [stS_succ hbk',hcur,← curL_up hlk,hdk];rfl
        have hlen2:t<(mgW (clsK ls)).length:=(List.getElem?_eq_some_iff.1 hbk').1
        refine ⟨(by rw [List.length_append,hml];simp;unfold AMAX;omega),fun q2=>⟨_,.there (.here _),?_⟩⟩
        conv=>whnf
        repeat ((first|(refine ixo (i:=k) (by omega) ?_)|(refine ldE encS_len (by first|exact .head _|exact .tail _ (.head _)) (by omega) hck ?_)|(refine ⟨gP_of ⟨by decide,by rw [List.length_map,List.length_cons];omega,Int.le_refl _⟩,?_⟩));conv=>whnf)
        conv=>whnf
        have hcut:List.drop (Int.toNat 1) (List.take ((((pp::rr).map encR).length:Int)).toNat ((pp::rr).map encR))=rr.map encR:=by
         rw [Int.toNat_natCast,List.take_length];rfl
        refine stE (enc:=encS) (L:=cur) rr (by decide) encS_len (by rw [hcl];exact hklt) (by omega) (by unfold encS;rw [← hcut];rfl) (by first|exact .here _|exact .there (.here _)) ?_
        conv=>whnf
        skip
        exact ⟨_,_,Turn.refl _ _,_,(by omega),t+1,_,[(q2,.tok)],rfl,(by rw [hup]),rfl,by omega,by omega,.inr ⟨q2,(by rw [htk,List.map_append];rfl),rfl⟩⟩
    ·have hte:(mgW (clsK ls)).take t=(mgW (clsK ls)).take most:=by rw [show t=most by omega]
     have hfin:mrgL ls most=((mgW (clsK ls)).take t).map (selW ls):=by unfold mrgL;rw [hte]
     conv=>whnf
     skip
     rw [hfin]
     exact ho'.le (by decide)
 ·intro v h1 hv
  exact ⟨.sl 1 none ((mrgL ls most).map encR),[],⟨rfl,rfl⟩,hv,fun k o hm=>(by cases hm),fun _=>(by simp [keys])⟩
end Go.Abs.Wall.Spl
namespace Go.Abs.Wall.Spl
open Go Go.Abs Go.Proofs Go.Abs.Wall
open Go.Abs.Wall.Lst hiding encWy wyCmp wyCmp_lt wayCompare fndW encWy_len idxW_iff binNil binW insNilW over224 InsR insC OpenR insW_acalls ndC putW NodeS NodeH getV GetC recCall putCall getStep getAll sumC encT encN encR encS encS_len clsS selW curL curL_len curL_get curL_up curL_zero BestTo BestTo.lt BestTo.full BestTo.step BestTo.end mrgL mergeW
def shW (w:Wy):Wy:=⟨w.cost,w.edge+1,w.rank⟩
theorem bestGo_shift (rs:Nat→Nat):∀ (ls:List (List Int)) (k:Nat),bestGo rs ls (k+1)=(bestGo (fun j=>rs (j+1)) ls k).map shW
 | [],k=>rfl
 | l::ls,k=>by
   unfold bestGo
   rw [bestGo_shift rs ls (k+1)]
   cases l[rs (k+1)]? with
   | none=>rfl
   | some c=>
     cases bestGo (fun j=>rs (j+1)) ls (k+1) with
     | none=>rfl
     | some y=>
       show (if c≤y.cost then some ⟨c,k+1,rs (k+1)⟩ else some (shW y))=Option.map shW (if c≤y.cost then some ⟨c,k,rs (k+1)⟩ else some y)
       split<;>rfl
theorem best_skip (cls:List (List Int)) (rs:Nat→Nat):best ([]::cls) rs=(best cls (fun j=>rs (j+1))).map shW:=by
 unfold best
 rw [← bestGo_shift]
 rfl
theorem stS_skip (cls:List (List Int)):∀ t,(fun j=>stS ([]::cls) t (j+1))=stS cls t
 | 0=>rfl
 | t+1=>by
   have ih:=stS_skip cls t
   unfold stS at ih ⊢
   rw [stF_succ,stF_succ,best_skip,ih]
   cases best cls (stF cls t zro) with
   | none=>exact ih
   | some x=>
     funext j
     show up _ (x.edge+1) (j+1)=up _ x.edge j
     unfold up
     have h1:=congrFun ih x.edge
     have h2:=congrFun ih j
     try simp only at h1 h2
     by_cases e:j=x.edge
     ·rw [if_pos (by omega),if_pos e,h1]
     ·rw [if_neg (by omega),if_neg e,h2]
theorem mgW_skip (cls:List (List Int)):mgW ([]::cls)=(mgW cls).map shW:=by
 refine List.ext_getElem? fun t=>?_
 rw [mgW_get,best_skip,stS_skip,List.getElem?_map,mgW_get]
theorem mrgL_skip (ls:List (List Rst)) (m:Nat):mrgL ([]::ls) m=mrgL ls m:=by
 unfold mrgL
 show ((mgW ([]::clsK ls)).take m).map _=_
 rw [mgW_skip,← List.map_take,List.map_map]
 rfl
def twoT (t:Stp):Int × Use:=(t.sign,t.use)
def twoM (m:Mv):Int × Use:=(m.sign,m.use)
structure RestsOK (E:Env) (m:Nat) (x:Sta) (rs:List Rst):Prop where
 len:rs.length=((wayS E x).take m).length
 at_:∀ (ρ:Nat) r,rs[ρ]?=some r→∃ w,(wayS E x)[ρ]?=some w∧keyR r=w.cost∧r.path.map twoT=(pathS E x w).map twoM
def extR (t:Stp) (r:Rst):Rst:=⟨t::r.path,r.fin⟩
theorem keyR_ext (t:Stp) (r:Rst):keyR (extR t r)=keyR r+(t.cost*16+1):=by
 unfold keyR costR extR sumP
 rw [List.map_cons,List.sum_cons,List.length_cons]
 push_cast
 omega
theorem RestsOK.keys {E:Env} {m:Nat} {x:Sta} {rs:List Rst} (h:RestsOK E m x rs):rs.map keyR=((wayS E x).take m).map (·.cost):=by
 refine List.ext_getElem? fun ρ=>?_
 rw [List.getElem?_map,List.getElem?_map]
 cases hr:rs[ρ]? with
 | none=>
   rw [List.getElem?_eq_none_iff,h.len] at hr
   rw [List.getElem?_eq_none hr]
   rfl
 | some r=>
   have hl:=(List.getElem?_eq_some_iff.1 hr).1
   rw [h.len,List.length_take] at hl
   obtain ⟨w,h1,h2,_⟩:=h.at_ ρ r hr
   rw [List.getElem?_take_of_lt (by omega),h1]
   show some (keyR r)=some w.cost
   rw [h2]
def LsOK (E:Env) (m:Nat) (x:Sta) (tail:List (List Rst)):Prop:=
 tail.length=(movesM E x).length∧∀ (i:Nat) l mv,tail[i]?=some l→(movesM E x)[i]?=some mv→∃ t rs,twoT t=twoM mv∧t.cost=mv.cost∧RestsOK E m mv.to rs∧l=rs.map (extR t)
def endL (E:Env) (x:Sta):List (List Rst):=if (lastM E x).2=true then [[⟨[],(lastM E x).1⟩]] else []
theorem rests_step {E:Env} (hE:EOK E) {x:Sta} (hx:StOK E x) {m:Nat} (hm:1≤m) {tail:List (List Rst)} (h:LsOK E m x tail):RestsOK E m x (mrgL (endL E x++tail) m):=by
 obtain ⟨hlen,hat⟩:=h
 obtain ⟨l0,hl0⟩:∃ l0:List Rst,l0=if (lastM E x).2=true then [⟨[],(lastM E x).1⟩] else []:=⟨_,rfl⟩
 have hmg:mrgL (endL E x++tail) m=mrgL (l0::tail) m:=by
  unfold endL
  rw [hl0]
  split
  ·rfl
  ·rw [List.nil_append,mrgL_skip]
 have hcls:clsK (l0::tail)=(clsX E x).map (·.take m):=by
  refine List.ext_getElem? fun j=>?_
  cases j with
  | zero=>
    show some (l0.map keyR)=some ((lastL E x).take m)
    unfold lastL
    rw [hl0]
    split
    ·obtain ⟨k,rfl⟩:∃ k,m=k+1:=⟨m - 1,by omega⟩
     rw [List.take_succ_cons,List.take_nil,List.map_singleton]
     unfold keyR costR sumP
     simp
    ·simp
  | succ j=>
    show (clsK tail)[j]?=_
    unfold clsK
    rw [List.getElem?_map,List.getElem?_map]
    cases hm:(movesM E x)[j]? with
    | none=>
      have h1:=List.getElem?_eq_none_iff.1 hm
      rw [List.getElem?_eq_none (by omega),List.getElem?_eq_none (by rw [clsX_len];omega)]
      rfl
    | some mv=>
      have h1:=(List.getElem?_eq_some_iff.1 hm).1
      obtain ⟨l,hl⟩:=get_lt (l:=tail) (i:=j) (by omega)
      obtain ⟨t,rs,h2,h3,h4,rfl⟩:=hat j l mv hl hm
      rw [hl,clsX_get hm]
      show some ((rs.map (extR t)).map keyR)=some (((wayS E mv.to).map fun w=>w.cost+(mv.cost*16+1)).take m)
      rw [← List.map_take,List.map_map]
      have h5:=congrArg (List.map fun k=>k+(mv.cost*16+1)) h4.keys
      rw [List.map_map,List.map_map] at h5
      refine congrArg some (Eq.trans ?_ h5)
      refine List.map_congr_left fun r _=>?_
      show keyR (extR t r)=keyR r+(mv.cost*16+1)
      rw [keyR_ext,h3]
 have hmr:mrgL (endL E x++tail) m=((wayS E x).take m).map (selW (l0::tail)):=by
  rw [hmg]
  unfold mrgL
  rw [hcls,mgW_take,← wayS_eq hE hx]
 rw [hmr]
 refine ⟨List.length_map _,fun ρ r hr=>?_⟩
 rw [List.getElem?_map] at hr
 cases hw:((wayS E x).take m)[ρ]? with
 | none=>rw [hw] at hr;cases hr
 | some w=>
   rw [hw] at hr
   have hr:selW (l0::tail) w=r:=by simpa using hr
   have hρ:=(List.getElem?_eq_some_iff.1 hw).1
   rw [List.length_take] at hρ
   rw [List.getElem?_take_of_lt (by omega)] at hw
   refine ⟨w,hw,?_⟩
   by_cases he:w.edge=0
   ·obtain ⟨hp,hc,hlast⟩:=path_end hE hx hw he
    rw [if_pos hlast] at hl0
    have hw2:=hw
    rw [wayS_eq hE hx] at hw2
    obtain ⟨_,l,g2,g3⟩:=mgW_cand hw2
    rw [he,clsX_zero] at g2
    cases g2
    unfold lastL at g3
    rw [if_pos hlast] at g3
    have hrk:w.rank=0:=by
     have:=(List.getElem?_eq_some_iff.1 g3).1
     simp at this
     exact this
    rw [← hr,hp,hc]
    unfold selW
    rw [he,hrk,hl0]
    refine ⟨?_,rfl⟩
    show keyR ⟨[],(lastM E x).1⟩=_
    unfold keyR costR sumP
    simp
   ·obtain ⟨mv,w',hmv,hmo,hw',hpe,hcst,hrk⟩:=path_step hE hx hw he
    have h1:=(List.getElem?_eq_some_iff.1 hmv).1
    obtain ⟨l,hl⟩:=get_lt (l:=tail) (i:=w.edge - 1) (by omega)
    obtain ⟨t,rs,h2,h3,h4,rfl⟩:=hat _ l mv hl hmv
    have hwl:=(List.getElem?_eq_some_iff.1 hw').1
    obtain ⟨r',hr'⟩:=get_lt (l:=rs) (i:=w.rank) (by rw [h4.len,List.length_take];omega)
    obtain ⟨w2,h5,h6,h7⟩:=h4.at_ _ _ hr'
    rw [hw'] at h5
    cases h5
    have hsel:selW (l0::tail) w=extR t r':=by
     unfold selW
     obtain ⟨i,hi⟩:∃ i,w.edge=i+1:=⟨w.edge - 1,by omega⟩
     rw [hi] at hl ⊢
     simp only [Nat.add_sub_cancel] at hl
     rw [List.getD_eq_getElem?_getD,List.getD_eq_getElem?_getD,List.getElem?_cons_succ,hl]
     show ((rs.map (extR t))[w.rank]?).getD _=_
     rw [List.getElem?_map,hr']
     rfl
    rw [← hr,hsel,keyR_ext,h6,h3,hpe,hcst]
    refine ⟨rfl,?_⟩
    show twoT t::r'.path.map twoT=twoM mv::(pathS E mv.to w').map twoM
    rw [h2,h7]
end Go.Abs.Wall.Spl
namespace Go.Abs.Wall.Spl
open Go Go.Abs Go.Proofs Go.Abs.Wall
open Go.Abs.Wall.Lst hiding encWy wyCmp wyCmp_lt wayCompare fndW encWy_len idxW_iff binNil binW insNilW over224 InsR insC OpenR insW_acalls ndC putW path_step
def PathOK (E:Env):Sta→List Mv→Prop
 | x,[]=>(lastM E x).2=true
 | x,m::p=>m∈movesM E x∧PathOK E m.to p
def keyP (E:Env):Sta→List Mv→Int
 | x,[]=>(lastM E x).1*16
 | x,m::p=>keyP E m.to p+(m.cost*16+1)
theorem way_path {E:Env} (hE:EOK E):∀ (d:Nat) (x:Sta),StOK E x→(12 - x.n).toNat=d→∀ (ρ:Nat) w,(wayS E x)[ρ]?=some w→PathOK E x (pathS E x w)∧keyP E x (pathS E x w)=w.cost:=by
 intro d
 induction d with
 | zero=>
   intro x hx hd ρ w hw
   have hn:=hx.n
   by_cases he:w.edge=0
   ·obtain ⟨h1,h2,h3⟩:=path_end hE hx hw he
    rw [h1]
    exact ⟨h3,h2.symm⟩
   ·obtain ⟨m,w',hm,hmo,_⟩:=path_step hE hx hw he
    have:=hmo.next
    have:=hmo.to.n
    omega
 | succ d ih=>
   intro x hx hd ρ w hw
   have hn:=hx.n
   by_cases he:w.edge=0
   ·obtain ⟨h1,h2,h3⟩:=path_end hE hx hw he
    rw [h1]
    exact ⟨h3,h2.symm⟩
   ·obtain ⟨m,w',hm,hmo,hw',hp,hc,_⟩:=path_step hE hx hw he
    have hnx:=hmo.next
    obtain ⟨h1,h2⟩:=ih m.to hmo.to (by omega) _ w' hw'
    rw [hp]
    refine ⟨⟨List.mem_of_getElem? hm,h1⟩,?_⟩
    show keyP E m.to (pathS E m.to w')+_=_
    rw [h2,hc]
theorem path_len {E:Env} (hE:EOK E):∀ (p:List Mv) (x:Sta),StOK E x→PathOK E x p→(p.length:Int)+x.n≤12
 | [],x,hx,hp=>by have:=hx.n;simp;omega
 | m::p,x,hx,hp=>by
   have hmo:=moves_ok hE hx hp.1
   have:=path_len hE p m.to hmo.to hp.2
   have:=hmo.next
   rw [List.length_cons]
   omega
end Go.Abs.Wall.Spl
namespace Go.Abs.Wall.Spl
open Go Go.Abs Go.Proofs Go.Abs.Wall
def encRS (s:RS):List AV:=[.int .i64 s.part,.int .i64 s.done,.int .i64 s.last,.bool s.cls]
def encPt (t:List UInt8):List AV:=[.str t]
def wkC (E:Env) (P:List (List UInt8)):List AV:=encHou E.H++(encHab E.B++(encEnt E.ent++[.sl 1 none (P.map encPt),.sl 1 none (encRows E.uses)]))
def c123:Cfg:=⟨[0,1,3,4],[],[],[],[],[]⟩
def c176:Cfg:=⟨[0,1,4],[],[],[],[],[]⟩
def c177:Cfg:=⟨[0,1,4],[],[],[],[],[]⟩
def c178:Cfg:=⟨[0,1,3,4,5,6,10],[],[],[],[(6,[0,1,2,3,4,5,6,7,8,9,10,11,12,13],[])],[]⟩
def c65:Cfg:=⟨[0,1,3,4,5,6],[],[],[],[(1,[0,1,2,3,4,5,6,7,8,9,10,11,12,13,14,15,16,17,18,19,20,21,22,23],[])],[]⟩
def c122:Cfg:=⟨[0,1,2,5,6,7],[],[7],[],[(2,[0,1,2,3,4,5,6,7,8,9,10,11,12,13,14,15,16,17,18,19,20,21,22],[])],[]⟩
def c121:Cfg:=⟨[0,1,3,4,5,9,17],[],[],[],[(4,[0,1,2,3,4,5],[])],[]⟩
def c120:Cfg:=⟨[0,1,2,3,5,6,8,9,10,11,12,13,21,42,43,46,50,101,119,141],[5],[],[],[(4,[0,1,2,3,4,5,6,7,8,9,10,11,12],[]),(13,[0,1,2,3,4,5,6,7,8,9,10,11,12,13,14,15,16,17,18],[]),(16,[0,1,2,3,4,5,6,7,8,9,10,11,12,13,14,15,16,17,18,19,20,21,22,23],[]),(19,[0,1,2,3,4,5,6,7,8,9,10,11,12,13],[]),(21,[0,1,2,3,4,5,6,7,8,9,10,11,12,13,14,15,16,17,18,19,20,21],[]),(23,[0,1,2,3,4,5,6,7,8,9,10,11,12,13,14,15,16,17,18,19,20,21,22,23,24,25,26,27,28,29,30,31,32,33,34,35,36,37],[])],[]⟩
theorem r7Must (E:Env) (P:List (List UInt8)) (s:RS):QCall Tryz.prog 123 [.iptr (wkC E P),.agg (encRS s)] [] (.bool (mustM E s)):=by
 refine fcalls (F:=Tryz.f123) c123 rfl rfl rfl mixed rfl fun X=>?_
 conv=>whnf
 skip
 exact ⟨rfl,rfl⟩
theorem r7Starts (t w:List UInt8) (ht:t.length≤LMAX) (hw:w.length≤LMAX):QCall Tryz.prog 176 [.str t,.str w] [] (.bool (begins t w)):=by
 unfold LMAX at ht hw
 refine fcalls (F:=Tryz.f176) c176 rfl rfl rfl mixed rfl fun X=>?_
 conv=>whnf
 repeat ((refine And.intro ?_ ?_;(focus ((conv=>whnf);intro g0;have g0:=of_decide_eq_true g0;refine ⟨?_,?_,?_⟩<;>omega)));conv=>whnf)
 exact ⟨rfl,rfl⟩
theorem r7Ends (t w:List UInt8) (ht:t.length≤LMAX) (hw:w.length≤LMAX):QCall Tryz.prog 177 [.str t,.str w] [] (.bool (endsW t w)):=by
 unfold LMAX at ht hw
 refine fcalls (F:=Tryz.f177) c177 rfl rfl rfl mixed rfl fun X=>?_
 conv=>whnf
 repeat ((first|refine ⟨gP_of ⟨by omega,by omega⟩,?_⟩|(refine And.intro ?_ ?_;(focus ((conv=>whnf);intro g0;have g0:=of_decide_eq_true g0;refine ⟨?_,?_,?_⟩<;>omega))));conv=>whnf)
 refine ⟨congrArg AV.bool ?_,rfl⟩
 unfold endsW
 rw [show (t.length:Int).toNat=t.length from rfl,List.take_length,show ((t.length:Int) - w.length).toNat=t.length - w.length by omega]
theorem part_get {P:List (List UInt8)} {p:Int} (h:0≤p∧p<P.length):P[p.toNat]?=some (partAt P p):=by
 obtain ⟨t,ht⟩:=get_lt (l:=P) (i:=p.toNat) (by omega)
 unfold partAt
 rw [List.getD_eq_getElem?_getD,ht]
 rfl
theorem part_len {P:List (List UInt8)} (hP:P.flatten.length≤1000) {p:Int} (h0:0≤p) (h1:p<P.length):(partAt P p).length≤1000:=by
 have h3:=offP_succ h0 h1
 have h4:=offP_mono (P:=P) (p:=p+1) (q:=P.length) (by omega) (by omega)
 rw [offP_all] at h4
 have:0≤offP P p:=by unfold offP;omega
 omega
theorem r7Spelled (E:Env) (P:List (List UInt8)) (hPl:P.length≤1000) (hP:P.flatten.length≤1000) (s:RS) (hs:Can P s):QCall Tryz.prog 178 [.iptr (wkC E P),.agg (encRS s)] [] (.str (spelledM P s)):=by
 have h1:=hs.part
 have h2:=hs.done
 have hof:=fun (k:Nat) (hk:k<P.length)=>offP_succ (P:=P) (p:=k) (by omega) (by omega)
 have hle:∀ k:Nat,k≤P.length→((P.take k).flatten.length:Int)≤1000:=by
  intro k hk
  have h3:=offP_mono (P:=P) (p:=k) (q:=P.length) (by omega) (by omega)
  rw [offP_all] at h3
  unfold offP at h3
  rw [Int.toNat_natCast] at h3
  omega
 have hpl:∀ k:Int,0≤k→k<P.length→(partAt P k).length≤1000:=by
  intro k hk hk2
  have h3:=offP_succ hk hk2
  have h4:=offP_mono (P:=P) (p:=k+1) (q:=P.length) (by omega) (by omega)
  rw [offP_all] at h4
  have:0≤offP P k:=by unfold offP;omega
  omega
 refine fcalls (F:=Tryz.f178) c178 rfl rfl rfl mixed rfl fun X=>?_
 conv=>whnf
 skip
 refine sloop rfl mixed [0,3,5,6] [] (fun m r h=>∃ (i:Nat),r=[(0,[],.iptr (wkC E P)),(3,[],.iptr (encRS s)),(5,[],.str (P.take i).flatten),(6,[],.int .i64 i)]∧h=[]∧m=s.part.toNat - i∧(i:Int)≤s.part) ?_ ?_
 ·conv=>whnf
  exact ⟨_,0,rfl,rfl,rfl,h1.1⟩
 ·rintro m r h ⟨i,rfl,rfl,rfl,hi⟩
  conv=>whnf
  refine ⟨fun hc=>?_,fun hc=>?_⟩<;>simp at hc
  ·obtain ⟨t,ht⟩:=get_lt (l:=P) (i:=i) (by omega)
   have h3:=hle i (by omega)
   have h4:=hle (i+1) (by omega)
   have htk:(P.take (i+1)).flatten=(P.take i).flatten++t:=by rw [take_snoc ht,List.flatten_append];simp
   rw [htk,List.length_append] at h4
   conv=>whnf
   repeat ((first|refine ⟨gP_of ⟨by omega,by omega⟩,?_⟩|refine ix (by assumption) ?_|(refine ⟨gP_of (by rw [List.length_append];unfold LMAX;omega),?_⟩));conv=>whnf)
   rw [← htk]
   exact ⟨_,by omega,i+1,rfl,rfl,rfl,by omega⟩
  ·have h3:=hle i (by omega)
   have hp:=part_get h1
   have h5:=hpl s.part h1.1 h1.2
   obtain ⟨n,hn⟩:=Int.eq_ofNat_of_zero_le h1.1
   have hi2:i=s.part.toNat:=by omega
   subst hi2
   conv=>whnf
   repeat ((first|refine ⟨gP_of ⟨by omega,by omega⟩,?_⟩|(refine ixn (enc:=encPt) s.part.toNat (by omega) hp ?_)|(refine ⟨gP_of (by rw [List.length_append,List.length_drop,List.length_take];unfold LMAX;omega),?_⟩)|refine And.intro (by show drawOK (opsAt Tryz.f178 _) _=true;decide +kernel) ?_);conv=>whnf)
   exact ⟨rfl,rfl⟩
theorem r7End (E:Env) (P:List (List UInt8)) (s:RS) (hs:Can P s) (hPl:P.length≤1000):QCall Tryz.prog 65 [.iptr (wkC E P),.agg (encRS s)] [] (.bool (endM E P s)):=by
 have h1:=hs.part
 have hp:=part_get h1
 have he:endM E P s=(((decide (s.part=((P.map encPt).length:Int) - 1)&&wholeM P s)&&!((decide (E.B.cls=2)&&!decide (E.ent.cls=[]))&&!s.cls))&&!mustM E s):=by
  unfold endM
  rw [List.length_map]
 rw [he]
 refine fcalls (F:=Tryz.f65) c65 rfl rfl rfl mixed rfl fun X=>?_
 conv=>whnf
 repeat ((first|(refine ixn (enc:=encPt) s.part.toNat (by omega) hp ?_)|refine gcall (r7Must E P s) ?_|(refine ⟨gP_of ⟨by rw [List.length_map];omega,by rw [List.length_map];omega⟩,?_⟩)|refine And.intro (by show drawOK (opsAt Tryz.f65 _) _=true;decide +kernel) ?_);conv=>whnf)
 exact ⟨rfl,rfl⟩
theorem plainRS:plainT Tryz.prog 124=true:=by decide +kernel
theorem r7Index (l:List RS) (s:RS) (hl:l.length≤1000000):QCall Tryz.prog 121 [.sl 4 none (l.map encRS),.agg (encRS s)] [] (.int .i64 (l.idxOf s)):=by
 refine fcalls (F:=Tryz.f121) c121 rfl rfl rfl mixed rfl fun X=>?_
 conv=>whnf
 skip
 refine sloop rfl mixed [0,3,5] [] (fun m r h=>∃ (i:Nat),r=[(0,[],.sl 4 none (l.map encRS)),(3,[],.iptr (encRS s)),(5,[],.int .i64 i)]∧h=[]∧m=l.length - i∧i≤l.length∧l.idxOf s=i+(l.drop i).idxOf s) ?_ ?_
 ·conv=>whnf
  exact ⟨_,0,rfl,rfl,rfl,by omega,by simp⟩
 ·rintro m r h ⟨i,rfl,rfl,rfl,hi,hx⟩
  conv=>whnf
  refine ⟨fun hc=>?_,fun hc=>?_⟩<;>simp at hc
  ·obtain ⟨t,ht⟩:=get_lt hc
   rw [drop_cons ht,List.idxOf_cons] at hx
   conv=>whnf
   repeat ((first|refine ix (by assumption) ?_|(refine ⟨plainRS,?_⟩)|refine And.intro (by show drawOK (opsAt Tryz.f121 _) _=true;decide +kernel) ?_);conv=>whnf)
   have heq:(decide (t.part=s.part)&&(decide (t.done=s.done)&&(decide (t.last=s.last)&&(decide (t.cls=s.cls)&&true))))=(t == s):=by
    rw [Bool.eq_iff_iff,beq_iff_eq]
    obtain ⟨a1,a2,a3,a4⟩:=t
    obtain ⟨b1,b2,b3,b4⟩:=s
    simp
   rw [heq]
   refine ⟨fun hq=>?_,fun hq=>?_⟩
   ·rw [hq] at hx
    conv=>whnf
    skip
    exact ⟨by rw [hx];simp,rfl⟩
   ·rw [hq] at hx
    conv=>whnf
    repeat (refine ⟨gP_of ⟨by omega,by omega⟩,?_⟩;conv=>whnf)
    exact ⟨_,by omega,i+1,rfl,rfl,rfl,by omega,by rw [hx];simp;omega⟩
  ·have hie:i=l.length:=by omega
   subst hie
   rw [List.drop_length] at hx
   conv=>whnf
   skip
   exact ⟨by rw [hx];simp,rfl⟩
theorem r7Follow (E:Env) (P:List (List UInt8)) (hPl:P.length≤1000) (hP:P.flatten.length≤1000) (s:RS) (hs:Can P s) (u:Use) (hu:u.text.length≤8) (first:Bool) (hl:0≤s.last∧s.last≤8) :
  QCall Tryz.prog 120 [.iptr (wkC E P),.agg (encRS s),.agg (encUse u),.bool first] [] (.tup [.agg (encRS (followM E P s u first).1),.bool (followM E P s u first).2]):=by
 have h1:=hs.part
 have h2:=hs.done
 have hp:=part_get h1
 have hpl1:=part_len hP h1.1 h1.2
 refine QCall.of ?_
 refine fcalls (F:=Tryz.f120) c120 rfl rfl rfl mixed rfl fun X=>?_
 conv=>whnf
 intro b5
 conv=>whnf
 repeat ((first|(intro (b8:Nat))|refine QCall.k0 (r7Must E P s) ?_|refine ⟨_,_,.tail _ (.head _),rfl,?_⟩);conv=>whnf)
 refine ⟨fun h0=>?_,fun h0=>?_⟩
 ·have hfo:followM E P s u first=(s,false):=by unfold followM;rw [if_pos h0]
  rw [hfo]
  conv=>whnf
  repeat ((first|refine ⟨_,_,.head _,rfl,?_⟩|refine ⟨_,_,.tail _ (.head _),rfl,?_⟩|refine ⟨_,_,.here _,leOK,?_⟩);conv=>whnf)
  exact VLe.refl _
 have hfo:followM E P s u first=if u.kind=1 then (if wholeM P s=false then (⟨s.part,s.done+u.text.length,hv0 u,s.cls⟩,begins ((partAt P s.part).drop s.done.toNat) u.text)
  else (⟨s.part+1,u.text.length,hv0 u,s.cls⟩,decide (s.part+1<P.length)&&begins (partAt P (s.part+1)) u.text))
 else if u.kind=2 then (⟨s.part,u.text.length,hv0 u,s.cls⟩,first&&decide (u.text=E.ent.root))
 else if u.kind=3 then (⟨s.part,s.done,0,s.cls⟩,(!decide (E.B.rpt=0)&&decide ((u.text.length:Int)≤s.last))&&endsW (spelledM P s) u.text)
 else if u.kind=4 then (⟨s.part,s.done,0,true⟩,((((!decide (E.B.cls=0))&&wholeM P s)&&decide (s.part=0))&&!s.cls)&&(!decide (E.ent.cls=[])&&decide (u.text=E.ent.cls)))
 else (⟨s.part,s.done,0,s.cls⟩,false):=by
  unfold followM
  rw [if_neg (by rw [h0];decide)]
 rw [hfo]
 conv=>whnf
 repeat ((first|(refine ixn (enc:=encPt) s.part.toNat (by omega) hp ?_)|refine ⟨_,_,.tail _ (.head _),rfl,?_⟩|refine ⟨_,_,.there (.here _),leOK,?_⟩|refine And.intro (by show drawOK (opsAt Tryz.f120 _) _=true;decide +kernel) ?_);conv=>whnf)
 refine ⟨fun k1=>?_,fun k1=>?_⟩<;>simp at k1
 ·rw [if_pos k1]
  conv=>whnf
  repeat (refine QCall.k0 (r7Long u) ?_;conv=>whnf)
  refine ⟨fun hh=>?_,fun hh=>?_⟩
  ·have hv:hv0 u=u.text.length:=by rw [hv0,if_pos hh]
   rw [hv]
   conv=>whnf
   repeat (refine ⟨_,_,.there (.here _),leOK,?_⟩;conv=>whnf)
   refine ⟨fun hw=>?_,fun hw=>?_⟩
   ·have hw:(!wholeM P s)=true:=hw
    rw [Bool.not_eq_true'] at hw
    rw [if_pos hw]
    have hcut:List.drop (s.done+(u.text.length:Int) - u.text.length).toNat (List.take ((partAt P s.part).length:Int).toNat (partAt P s.part))=(partAt P s.part).drop s.done.toNat:=by
     rw [Int.toNat_natCast,List.take_length,show s.done+(u.text.length:Int) - u.text.length=s.done by omega]
    have hst:=r7Starts ((partAt P s.part).drop s.done.toNat) u.text (by rw [List.length_drop];unfold LMAX;omega) (by unfold LMAX;omega)
    rw [← hcut] at hst
    conv=>whnf
    repeat ((first|refine ⟨gP_of ⟨by omega,by omega⟩,?_⟩|(refine ixn (enc:=encPt) s.part.toNat (by omega) hp ?_)|(refine ⟨_,gP_of (QCall.wide hst _),?_⟩)|refine ⟨_,_,.head _,rfl,?_⟩|refine ⟨_,_,.tail _ (.head _),rfl,?_⟩|refine ⟨_,_,.here _,leOK,?_⟩|refine ⟨_,_,.there (.here _),leOK,?_⟩|refine And.intro (by show drawOK (opsAt Tryz.f120 _) _=true;decide +kernel) ?_);conv=>whnf)
    rw [hcut]
    exact fun c u h=>h
   ·have hw:(!wholeM P s)=false:=hw
    rw [Bool.not_eq_false'] at hw
    rw [if_neg (by rw [hw];decide)]
    by_cases hl2:s.part+1<P.length
    ·have hp2:=part_get (P:=P) (p:=s.part+1) ⟨by omega,hl2⟩
     have hpl2:=part_len hP (p:=s.part+1) (by omega) hl2
     have hst:=r7Starts (partAt P (s.part+1)) u.text (by unfold LMAX;omega) (by unfold LMAX;omega)
     have he:((P.map encPt).length:Int)=P.length:=by rw [List.length_map]
     conv=>whnf
     repeat ((first|refine ⟨gP_of ⟨by omega,by omega⟩,?_⟩|(refine ixn (enc:=encPt) (s.part+1).toNat (by omega) hp2 ?_)|(refine ⟨_,gP_of (QCall.wide hst _),?_⟩)|refine ⟨_,_,.head _,rfl,?_⟩|refine ⟨_,_,.tail _ (.head _),rfl,?_⟩|refine ⟨_,_,.here _,leOK,?_⟩|refine ⟨_,_,.there (.here _),leOK,?_⟩|refine And.intro (by show drawOK (opsAt Tryz.f120 _) _=true;decide +kernel) ?_);conv=>whnf)
     refine (show VLe (.tup [.agg (encRS ⟨s.part+1,u.text.length,_,s.cls⟩),.bool (decide (s.part+1<((P.map encPt).length:Int))&&begins (partAt P (s.part+1)) u.text)]) _ from ?_)
     rw [he]
     exact VLe.refl _
    ·have he:decide (s.part+1<((P.map encPt).length:Int))=false:=decide_eq_false (by rw [List.length_map];exact hl2)
     conv=>whnf
     repeat ((first|refine ⟨gP_of ⟨by omega,by omega⟩,?_⟩|(refine ⟨0,encPt (partAt P s.part),?_,?_⟩;(focus (conv=>whnf;skip));(focus (intro hq;rw [he] at hq;cases hq)))|(refine ⟨.bool false,?_,?_⟩;(focus (conv=>whnf;skip));(focus (intro hq;rw [he] at hq;cases hq)))|refine ⟨_,_,.head _,rfl,?_⟩|refine ⟨_,_,.tail _ (.head _),rfl,?_⟩|refine ⟨_,_,.here _,leOK,?_⟩|refine ⟨_,_,.there (.here _),leOK,?_⟩|refine And.intro (by show drawOK (opsAt Tryz.f120 _) _=true;decide +kernel) ?_);conv=>whnf)
     rw [decide_eq_false hl2,he]
     exact fun c u h=>h
  ·have hv:hv0 u=0:=by rw [hv0,if_neg (by rw [hh];decide)]
   rw [hv]
   conv=>whnf
   skip
   refine ⟨fun hw=>?_,fun hw=>?_⟩
   ·have hw:(!wholeM P s)=true:=hw
    rw [Bool.not_eq_true'] at hw
    rw [if_pos hw]
    have hcut:List.drop (s.done+(u.text.length:Int) - u.text.length).toNat (List.take ((partAt P s.part).length:Int).toNat (partAt P s.part))=(partAt P s.part).drop s.done.toNat:=by
     rw [Int.toNat_natCast,List.take_length,show s.done+(u.text.length:Int) - u.text.length=s.done by omega]
    have hst:=r7Starts ((partAt P s.part).drop s.done.toNat) u.text (by rw [List.length_drop];unfold LMAX;omega) (by unfold LMAX;omega)
    rw [← hcut] at hst
    conv=>whnf
    repeat ((first|refine ⟨gP_of ⟨by omega,by omega⟩,?_⟩|(refine ixn (enc:=encPt) s.part.toNat (by omega) hp ?_)|(refine ⟨_,gP_of (QCall.wide hst _),?_⟩)|refine ⟨_,_,.head _,rfl,?_⟩|refine ⟨_,_,.tail _ (.head _),rfl,?_⟩|refine ⟨_,_,.here _,leOK,?_⟩|refine ⟨_,_,.there (.here _),leOK,?_⟩|refine And.intro (by show drawOK (opsAt Tryz.f120 _) _=true;decide +kernel) ?_);conv=>whnf)
    rw [hcut]
    exact fun c u h=>h
   ·have hw:(!wholeM P s)=false:=hw
    rw [Bool.not_eq_false'] at hw
    rw [if_neg (by rw [hw];decide)]
    by_cases hl2:s.part+1<P.length
    ·have hp2:=part_get (P:=P) (p:=s.part+1) ⟨by omega,hl2⟩
     have hpl2:=part_len hP (p:=s.part+1) (by omega) hl2
     have hst:=r7Starts (partAt P (s.part+1)) u.text (by unfold LMAX;omega) (by unfold LMAX;omega)
     have he:((P.map encPt).length:Int)=P.length:=by rw [List.length_map]
     conv=>whnf
     repeat ((first|refine ⟨gP_of ⟨by omega,by omega⟩,?_⟩|(refine ixn (enc:=encPt) (s.part+1).toNat (by omega) hp2 ?_)|(refine ⟨_,gP_of (QCall.wide hst _),?_⟩)|refine ⟨_,_,.head _,rfl,?_⟩|refine ⟨_,_,.tail _ (.head _),rfl,?_⟩|refine ⟨_,_,.here _,leOK,?_⟩|refine ⟨_,_,.there (.here _),leOK,?_⟩|refine And.intro (by show drawOK (opsAt Tryz.f120 _) _=true;decide +kernel) ?_);conv=>whnf)
     refine (show VLe (.tup [.agg (encRS ⟨s.part+1,u.text.length,_,s.cls⟩),.bool (decide (s.part+1<((P.map encPt).length:Int))&&begins (partAt P (s.part+1)) u.text)]) _ from ?_)
     rw [he]
     exact VLe.refl _
    ·have he:decide (s.part+1<((P.map encPt).length:Int))=false:=decide_eq_false (by rw [List.length_map];exact hl2)
     conv=>whnf
     repeat ((first|refine ⟨gP_of ⟨by omega,by omega⟩,?_⟩|(refine ⟨0,encPt (partAt P s.part),?_,?_⟩;(focus (conv=>whnf;skip));(focus (intro hq;rw [he] at hq;cases hq)))|(refine ⟨.bool false,?_,?_⟩;(focus (conv=>whnf;skip));(focus (intro hq;rw [he] at hq;cases hq)))|refine ⟨_,_,.head _,rfl,?_⟩|refine ⟨_,_,.tail _ (.head _),rfl,?_⟩|refine ⟨_,_,.here _,leOK,?_⟩|refine ⟨_,_,.there (.here _),leOK,?_⟩|refine And.intro (by show drawOK (opsAt Tryz.f120 _) _=true;decide +kernel) ?_);conv=>whnf)
     rw [decide_eq_false hl2,he]
     exact fun c u h=>h
 ·rw [if_neg k1]
  conv=>whnf
  skip
  refine ⟨fun k2=>?_,fun k2=>?_⟩<;>simp at k2
  ·have hv:hv0 u=u.text.length:=by unfold hv0 hvU;rw [decide_eq_true k2];rfl
   rw [if_pos k2,hv]
   conv=>whnf
   repeat ((first|refine ⟨_,_,.head _,rfl,?_⟩|refine ⟨_,_,.tail _ (.head _),rfl,?_⟩|refine ⟨_,_,.here _,leOK,?_⟩|refine ⟨_,_,.there (.here _),leOK,?_⟩|refine And.intro (by show drawOK (opsAt Tryz.f120 _) _=true;decide +kernel) ?_);conv=>whnf)
   exact fun c u h=>h
  rw [if_neg k2]
  conv=>whnf
  skip
  refine ⟨fun k3=>?_,fun k3=>?_⟩<;>simp at k3
  ·have hsp:=r7Spelled E P hPl hP ⟨s.part,s.done,0,s.cls⟩ ⟨h1,h2,hs.pos⟩
   have hsl:(spelledM P ⟨s.part,s.done,0,s.cls⟩).length≤1000:=by
    show (spelledM P s).length≤1000
    rw [← take_in hs,List.length_take]
    omega
   have hen:=r7Ends (spelledM P ⟨s.part,s.done,0,s.cls⟩) u.text (by unfold LMAX;omega) (by unfold LMAX;omega)
   rw [if_pos k3]
   conv=>whnf
   repeat ((first|(refine ⟨_,gP_of (QCall.wide hsp _),?_⟩)|(refine ⟨_,gP_of (QCall.wide hen _),?_⟩)|refine ⟨_,_,.head _,rfl,?_⟩|refine ⟨_,_,.tail _ (.head _),rfl,?_⟩|refine ⟨_,_,.here _,leOK,?_⟩|refine And.intro (by show drawOK (opsAt Tryz.f120 _) _=true;decide +kernel) ?_);conv=>whnf)
   exact fun c u h=>h
  rw [if_neg k3]
  conv=>whnf
  skip
  refine ⟨fun k4=>?_,fun k4=>?_⟩<;>simp at k4
  ·rw [if_pos k4,← Bool.and_assoc]
   conv=>whnf
   repeat ((first|refine ⟨_,_,.head _,rfl,?_⟩|refine ⟨_,_,.tail _ (.head _),rfl,?_⟩|refine ⟨_,_,.here _,leOK,?_⟩|refine ⟨_,_,.there (.here _),leOK,?_⟩|refine And.intro (by show drawOK (opsAt Tryz.f120 _) _=true;decide +kernel) ?_);conv=>whnf)
   exact fun c u h=>h
  ·rw [if_neg k4]
   conv=>whnf
   repeat ((first|refine ⟨_,_,.head _,rfl,?_⟩|refine ⟨_,_,.tail _ (.head _),rfl,?_⟩|refine ⟨_,_,.here _,leOK,?_⟩);conv=>whnf)
   exact fun c u h=>h
end Go.Abs.Wall.Spl
