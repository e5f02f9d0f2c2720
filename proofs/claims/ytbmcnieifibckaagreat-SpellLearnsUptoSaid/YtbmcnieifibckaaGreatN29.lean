/- What is proved: small laws for the walks of this seat, and contracts of its functions. No condition but those each theorem names. -/
import Derived.Test.YtbmcnieifibckaaGreatN28
import Derived.Test.YtbmcnieifibckaaGreatN23
import Derived.Test.YtbmcnieifibckaaGreatN8
import Derived.Test.YtbmcnieifibckaaGreatN24
set_option maxRecDepth 100000
set_option maxHeartbeats 2000000
set_option linter.unusedVariables false
set_option linter.unusedSimpArgs false
namespace Go.Abs.Wall.Spl
open Go Go.Abs Go.Proofs Go.Abs.Wall
end Go.Abs.Wall.Spl
namespace Go.Abs.Wall.Spl
open Go Go.Abs Go.Proofs Go.Abs.Wall
structure StepRel (P:List (List UInt8)) (n:Int) (N:List RS) (t:Stp) (m:Mv):Prop where
 two:twoT t=twoM m
 cost:t.cost=m.cost
 to:∃ r,N[t.to]?=some r∧toS P (n+1) r=m.to
def StepsOK (P:List (List UInt8)) (n:Int) (N:List RS):List Stp→List Mv→Prop
 | [],[]=>True
 | t::l,m::ms=>StepRel P n N t m∧StepsOK P n N l ms
 | _,_=>False
theorem StepRel.more {P:List (List UInt8)} {n:Int} {N:List RS} {t:Stp} {m:Mv} (X:List RS) (h:StepRel P n N t m):StepRel P n (N++X) t m:=by
 obtain ⟨r,h1,h2⟩:=h.to
 refine ⟨h.two,h.cost,r,?_,h2⟩
 rw [List.getElem?_append_left (List.getElem?_eq_some_iff.1 h1).1]
 exact h1
theorem StepsOK.more {P:List (List UInt8)} {n:Int} {N:List RS} (X:List RS):∀ {l:List Stp} {ms:List Mv},StepsOK P n N l ms→StepsOK P n (N++X) l ms
 | [],[],_=>trivial
 | [],_::_,h=>False.elim h
 | _::_,[],h=>False.elim h
 | t::l,m::ms,h=>⟨h.1.more X,StepsOK.more X h.2⟩
theorem StepsOK.snoc {P:List (List UInt8)} {n:Int} {N:List RS} {t:Stp} {m:Mv} (ht:StepRel P n N t m):∀ {l:List Stp} {ms:List Mv},StepsOK P n N l ms→StepsOK P n N (l++[t]) (ms++[m])
 | [],[],_=>⟨ht,trivial⟩
 | [],_::_,h=>False.elim h
 | _::_,[],h=>False.elim h
 | s::l,o::ms,h=>⟨h.1,StepsOK.snoc ht h.2⟩
theorem StepsOK.len {P:List (List UInt8)} {n:Int} {N:List RS}:∀ {l:List Stp} {ms:List Mv},StepsOK P n N l ms→l.length=ms.length
 | [],[],_=>rfl
 | [],_::_,h=>False.elim h
 | _::_,[],h=>False.elim h
 | s::l,o::ms,h=>by rw [List.length_cons,List.length_cons,StepsOK.len h.2]
theorem StepsOK.get {P:List (List UInt8)} {n:Int} {N:List RS}:∀ {l:List Stp} {ms:List Mv} {i:Nat} {t:Stp} {m:Mv},StepsOK P n N l ms→l[i]?=some t→ms[i]?=some m→StepRel P n N t m
 | [],_,i,t,m,_,h,_=>by simp at h
 | _::_,[],i,t,m,h,_,_=>False.elim h
 | s::l,o::ms,0,t,m,h,h1,h2=>by
   simp at h1 h2
   subst h1 h2
   exact h.1
 | s::l,o::ms,i+1,t,m,h,h1,h2=>StepsOK.get h.2 (by simpa using h1) (by simpa using h2)
structure LevOK (E:Env) (P:List (List UInt8)) (n:Int) (l:List RS):Prop where
 can:∀ s∈l,Can P s
 last:∀ s∈l,0≤s.last∧s.last≤8
 zero:n=0→∀ s∈l,s.part=0
 nodup:l.Nodup
def rs0:RS:=⟨0,0,0,false⟩
theorem few_nat:∀ (N:Nat) (l:List Nat),l.Nodup→(∀ x∈l,x<N)→l.length≤N
 | 0,l,_,h=>by
   cases l with
   | nil=>exact Nat.le_refl _
   | cons a t=>have:=h a (by simp);omega
 | N+1,l,hn,h=>by
   by_cases hm:N∈l
   ·have h1:=few_nat N (l.erase N) (hn.erase N) fun x hx=>by
     have h2:=h x (List.mem_of_mem_erase hx)
     have h3:x≠N:=fun e=>by rw [e] at hx;exact (List.Nodup.not_mem_erase hn) hx
     omega
    rw [List.length_erase_of_mem hm] at h1
    omega
   ·have:=few_nat N l hn fun x hx=>by
     have h2:=h x hx
     have h3:x≠N:=fun e=>hm (by rw [← e];exact hx)
     omega
    omega
theorem toS_ok {E:Env} {P:List (List UInt8)} (hP:EnvP E P) {n:Int} (hn:0≤n∧n≤12) {s:RS} (hc:Can P s) (hl:0≤s.last∧s.last≤8):StOK E (toS P n s):=by
 have h1:=hc.part
 have h2:=hc.done
 have h3:=offP_succ h1.1 h1.2
 have h4:=offP_mono (P:=P) (p:=s.part+1) (q:=P.length) (by omega) (by omega)
 rw [offP_all] at h4
 have h5:0≤offP P s.part:=by unfold offP;omega
 refine ⟨hn,⟨?_,?_⟩,hl⟩
 ·show 0≤offP P s.part+s.done
  omega
 ·show offP P s.part+s.done≤E.snd.length
  rw [hP.snd]
  omega
def codeR (P:List (List UInt8)) (s:RS):Nat:=((offP P s.part+s.done).toNat*9+s.last.toNat)*2+(if s.cls=true then 1 else 0)
theorem LevOK.few {E:Env} {P:List (List UInt8)} (hE:EOK E) (hP:EnvP E P) {n:Int} (hn:0≤n∧n≤12) {l:List RS} (h:LevOK E P n l):l.length≤20000:=by
 have hs:=hE.snd
 rw [show l.length=(l.map (codeR P)).length from (List.length_map _).symm]
 refine few_nat 20000 _ ?_ ?_
 ·have h1:=h.nodup
  have key:∀ (l:List RS),(∀ s∈l,Can P s)→(∀ s∈l,0≤s.last∧s.last≤8)→l.Nodup→(l.map (codeR P)).Nodup:=by
   intro l hc hl hn
   induction l with
   | nil=>exact .nil
   | cons a t ih=>
     rw [List.nodup_cons] at hn
     rw [List.map_cons,List.nodup_cons]
     refine ⟨fun hm=>?_,ih (fun s hs=>hc s (by simp [hs])) (fun s hs=>hl s (by simp [hs])) hn.2⟩
     obtain ⟨b,hb,he⟩:=List.mem_map.1 hm
     have ca:=hc a (by simp)
     have cb:=hc b (by simp [hb])
     have la:=hl a (by simp)
     have lb:=hl b (by simp [hb])
     have oa:=(toS_ok hP (n:=0) (by omega) ca la).at_
     have ob:=(toS_ok hP (n:=0) (by omega) cb lb).at_
     have oa1:0≤offP P a.part+a.done:=oa.1
     have ob1:0≤offP P b.part+b.done:=ob.1
     have:a=b:=by
      refine toS_inj (n:=0) ca cb ?_
      unfold codeR at he
      have bit:∀ c:Bool,(if c=true then 1 else 0)=c.toNat:=fun c=>by cases c<;>rfl
      rw [bit,bit] at he
      have hx:=Bool.toNat_le a.cls
      have hy:=Bool.toNat_le b.cls
      have hcn:a.cls.toNat=b.cls.toNat:=by
       generalize (offP P a.part+a.done).toNat*9+a.last.toNat=u at he
       generalize (offP P b.part+b.done).toNat*9+b.last.toNat=v at he
       omega
      have hcl:a.cls=b.cls:=by
       clear he
       cases h1:a.cls<;>cases h2:b.cls<;>rw [h1,h2] at hcn<;>first|rfl|cases hcn
      rw [hcl] at he
      unfold toS
      have e1:a.last=b.last:=by omega
      have e2:offP P a.part+a.done=offP P b.part+b.done:=by omega
      rw [e1,e2,hcl]
     rw [this] at hn
     exact hn.1 hb
  exact key l h.can h.last h1
 ·intro x hx
  obtain ⟨s,hs2,rfl⟩:=List.mem_map.1 hx
  have:=(toS_ok hP (n:=0) (by omega) (h.can s hs2) (h.last s hs2)).at_
  have h2:offP P s.part+s.done≤E.snd.length:=this.2
  have h3:=h.last s hs2
  unfold codeR
  split<;>omega
structure LvlsOK (E:Env) (P:List (List UInt8)) (k:Nat) (S:List (List RS)) (T:List (List (List Stp))):Prop where
 ls:S.length=k+1
 lt:T.length=k
 first:S[0]?=some [rs0]
 lev:∀ (n:Nat) l,S[n]?=some l→LevOK E P n l
 step:∀ (n:Nat) l l' rows,S[n]?=some l→S[n+1]?=some l'→T[n]?=some rows→rows.length=l.length∧∀ (i:Nat) s row,l[i]?=some s→rows[i]?=some row→StepsOK P n l' row (movesM E (toS P n s))
def FromOK (E:Env) (P:List (List UInt8)) (n:Nat) (l N:List RS) (F:List (List Stp)):Prop:=∀ (j:Nat) s row,l[j]?=some s→F[j]?=some row→StepsOK P n N row (movesM E (toS P n s))
theorem FromOK.more {E:Env} {P:List (List UInt8)} {n:Nat} {l N:List RS} {F:List (List Stp)} (X:List RS) (h:FromOK E P n l N F):FromOK E P n l (N++X) F:=fun j s row h1 h2=>(h j s row h1 h2).more X
theorem FromOK.snoc {E:Env} {P:List (List UInt8)} {n:Nat} {l N:List RS} {F:List (List Stp)} (h:FromOK E P n l N F) {s:RS} (hs:l[F.length]?=some s) {row:List Stp} (hr:StepsOK P n N row (movesM E (toS P n s))):FromOK E P n l N (F++[row]):=by
 intro j s2 row2 h1 h2
 by_cases hj:j<F.length
 ·rw [List.getElem?_append_left hj] at h2
  exact h j s2 row2 h1 h2
 ·by_cases e:j=F.length
  ·subst e
   rw [List.getElem?_append_right (Nat.le_refl _),Nat.sub_self] at h2
   cases h2
   rw [hs] at h1
   cases h1
   exact hr
  ·rw [List.getElem?_eq_none (by rw [List.length_append,List.length_singleton];omega)] at h2
   cases h2
theorem LvlsOK.snoc {E:Env} {P:List (List UInt8)} {k:Nat} {S:List (List RS)} {T:List (List (List Stp))} (h:LvlsOK E P k S T) {l N:List RS} {F:List (List Stp)} (hl:S[k]?=some l) (hN:LevOK E P ((k+1:Nat):Int) N) (hF:FromOK E P k l N F) (hFl:F.length=l.length):LvlsOK E P (k+1) (S++[N]) (T++[F]):=by
 refine ⟨by rw [List.length_append,h.ls];rfl,by rw [List.length_append,h.lt];rfl,?_,?_,?_⟩
 ·rw [List.getElem?_append_left (by rw [h.ls];omega)]
  exact h.first
 ·intro n l2 h2
  by_cases hn:n<S.length
  ·rw [List.getElem?_append_left hn] at h2
   exact h.lev n l2 h2
  ·by_cases e:n=S.length
   ·subst e
    rw [List.getElem?_append_right (Nat.le_refl _),Nat.sub_self] at h2
    cases h2
    rw [h.ls]
    exact hN
   ·rw [List.getElem?_eq_none (by rw [List.length_append,List.length_singleton];omega)] at h2
    cases h2
 ·intro n l2 l3 rows h2 h3 h4
  by_cases hn:n<T.length
  ·have:=h.ls
   have:=h.lt
   rw [List.getElem?_append_left (by omega)] at h2 h3 h4
   exact h.step n l2 l3 rows h2 h3 h4
  ·by_cases e:n=T.length
   ·have e1:=h.lt
    have e2:=h.ls
    rw [e,List.getElem?_append_right (Nat.le_refl _),Nat.sub_self] at h4
    cases h4
    have e3:n=k:=by omega
    subst e3
    rw [List.getElem?_append_right (by omega),show n+1 - S.length=0 by omega] at h3
    cases h3
    rw [List.getElem?_append_left (by omega),hl] at h2
    cases h2
    exact ⟨hFl,hF⟩
   ·rw [List.getElem?_eq_none (by rw [List.length_append,List.length_singleton];omega)] at h4
    cases h4
end Go.Abs.Wall.Spl
namespace Go.Abs.Wall.Spl
open Go Go.Abs Go.Proofs Go.Abs.Wall
end Go.Abs.Wall.Spl
namespace Go.Abs.Wall.Spl
open Go Go.Abs Go.Proofs Go.Abs.Wall
theorem RestsOK.short {E:Env} (hE:EOK E) {m:Nat} {x:Sta} (hx:StOK E x) {rs:List Rst} (h:RestsOK E m x rs):∀ r∈rs,r.path.length≤12:=by
 intro r hr
 obtain ⟨ρ,hρ⟩:=List.mem_iff_getElem?.1 hr
 obtain ⟨w,h1,h2,h3⟩:=h.at_ ρ r hρ
 have h4:=congrArg List.length h3
 rw [List.length_map,List.length_map] at h4
 have h5:=path_len hE _ x hx (way_path hE _ x hx rfl ρ w h1).1
 have:=hx.n
 omega
theorem RestsOK.many {E:Env} {m:Nat} {x:Sta} {rs:List Rst} (h:RestsOK E m x rs):rs.length≤m:=by
 rw [h.len,List.length_take]
 omega
theorem RestsOK.cost {E:Env} (hE:EOK E) {m:Nat} {x:Sta} (hx:StOK E x) {rs:List Rst} (h:RestsOK E m x rs):∀ r∈rs,0≤costR r∧costR r≤1000000:=by
 intro r hr
 have hs:=h.short hE hx r hr
 obtain ⟨ρ,hρ⟩:=List.mem_iff_getElem?.1 hr
 obtain ⟨w,h1,h2,h3⟩:=h.at_ ρ r hρ
 have h4:=way_bound hE _ x hx rfl w (List.mem_of_getElem? h1)
 have:=hx.n
 unfold keyR at h2
 have h5:(12 - x.n).toNat≤12:=by omega
 omega
def BhOK (E:Env) (P:List (List UInt8)) (m:Nat) (n:Nat) (l:List RS) (Bh:List (List Rst)):Prop:=∀ (i:Nat) s rs,l[i]?=some s→Bh[i]?=some rs→RestsOK E m (toS P n s) rs
theorem BhOK.snoc {E:Env} {P:List (List UInt8)} {m n:Nat} {l:List RS} {Bh:List (List Rst)} (h:BhOK E P m n l Bh) {s:RS} (hs:l[Bh.length]?=some s) {rs:List Rst} (hr:RestsOK E m (toS P n s) rs):BhOK E P m n l (Bh++[rs]):=by
 intro j s2 row2 h1 h2
 by_cases hj:j<Bh.length
 ·rw [List.getElem?_append_left hj] at h2
  exact h j s2 row2 h1 h2
 ·by_cases e:j=Bh.length
  ·subst e
   rw [List.getElem?_append_right (Nat.le_refl _),Nat.sub_self] at h2
   cases h2
   rw [hs] at h1
   cases h1
   exact hr
  ·rw [List.getElem?_eq_none (by rw [List.length_append,List.length_singleton];omega)] at h2
   cases h2
end Go.Abs.Wall.Spl
