/- What is proved: small laws for the walks of this seat, and contracts of its functions. No condition but those each theorem names. -/
import Derived.Test.YtmkmflcemegikaaGreatDoorN3
import Derived.Calls
import Derived.RunT
import GoSem.Step
import Derived.Lib.Join
import Derived.Below
import Derived.Shelf.Strings.BuilderK
import Derived.Shelf.SlSortCmp.WholeK
import Derived.Test.YtmkmflcemegikaaGreatDoorProg
import Derived.Shelf.Strconv.Itoa3
import Derived.Shelf.SlSortCmp.InsertionK
import Derived.Test.YtmkmflcemegikaaGreatDoorRows
import Derived.WalkKit
import Derived.ProofKit
import Derived.OpenShut
import Derived.JoinedCond
import Derived.ReadAgain
import Derived.ChangeStays
/-
 The abstract layer,part Y: drawn regions in which several things are made,in whichever order.
-/
set_option linter.unusedVariables false
set_option linter.unusedSimpArgs false
namespace Go.Abs
open Go
variable {P:Program} {n:Nat} {X:Nat→Prop} {all:List Oper} {cl ord:List Nat} {r:Regs}
theorem DrawS.swap {kn rest':List Nat} {k i:Nat} (hs:DrawS all cl (kn++k::i::rest')) (hji:Nat.testBit (clN cl i) k=false):DrawS all cl (kn++i::k::rest'):=by
 have hik:∃ oj,all[i]?=some oj:=by
  obtain ⟨o2,ho2,_⟩:=hs.p4 (kn++[k]) i rest' (by simp)
  exact ⟨o2,ho2⟩
 obtain ⟨oj,hoj0⟩:=hik
 obtain ⟨o,ho,hedge⟩:=hs.p4 kn k (i::rest') rfl
 have hedgei:∀ e∈oj.after.toList,Region.binds .any e=true→e.on∈kn:=by
  obtain ⟨o2,ho2,hh⟩:=hs.p4 (kn++[k]) i rest' (by simp)
  rw [hoj0] at ho2;cases ho2
  intro e he hb
  have:=hh e he hb
  simp only [List.mem_append,List.mem_singleton] at this
  rcases this with h|h
  ·exact h
  ·exfalso
   have:Cl cl i k:=by
    unfold Cl
    rw [hs.e2 i _ hoj0,cloAt_bit]
    exact ⟨e,he,hb,.inl h⟩
   unfold Cl at this
   rw [hji] at this
   cases this
 refine ⟨hs.e1,hs.e2,?_,?_,?_,hs.n1,hs.d1⟩
 ·intro x hx
  have:=hs.p2 x hx
  simp only [List.mem_append,List.mem_cons] at this ⊢
  rcases this with h|h|h|h
  ·exact .inl h
  ·exact .inr (.inr (.inl h))
  ·exact .inr (.inl h)
  ·exact .inr (.inr (.inr h))
 ·have:=hs.p3
  simp only [List.nodup_append,List.nodup_cons,List.mem_cons] at this ⊢
  obtain ⟨u1,⟨u2,u3,u4⟩,u5⟩:=this
  refine ⟨u1,⟨?_,?_,u4⟩,?_⟩
  ·rintro (e|e)
   ·exact u2 (.inl e.symm)
   ·exact u3 e
  ·exact fun e=>u2 (.inr e)
  ·intro x hx y hy
   rcases hy with e|e|e
   ·exact u5 x hx y (.inr (.inl e))
   ·exact u5 x hx y (.inl e)
   ·exact u5 x hx y (.inr (.inr e))
 ·intro pre x post hpx
  rcases List.append_eq_append_iff.1 hpx with ⟨a',e1,e2⟩|⟨c',e1,e2⟩
  ·cases a' with
   | nil=>
     cases e2
     exact ⟨oj,hoj0,fun e he hb=>by rw [e1];simpa using hedgei e he hb⟩
   | cons z a'=>
     cases a' with
     | nil=>
       cases e2
       exact ⟨o,ho,fun e he hb=>by rw [e1];simp [hedge e he hb]⟩
     | cons z2 a'=>
       injection e2 with e3 e4
       injection e4 with e5 e6
       obtain ⟨o2,ho2,hh⟩:=hs.p4 (kn++k::i::a') x post (by rw [e6];simp)
       refine ⟨o2,ho2,fun e he hb=>?_⟩
       have:=hh e he hb
       rw [e1,← e3,← e5]
       simp only [List.mem_append,List.mem_cons] at this ⊢
       rcases this with h|h|h|h
       ·exact .inl h
       ·exact .inr (.inr (.inl h))
       ·exact .inr (.inl h)
       ·exact .inr (.inr (.inr h))
  ·cases c' with
   | nil=>
     simp at e2
     obtain ⟨e3,e4⟩:=e2
     subst e3
     exact ⟨oj,hoj0,fun e he hb=>by have:=hedgei e he hb;rw [e1] at this;simpa using this⟩
   | cons z c'=>
     simp at e2
     obtain ⟨e3,e4⟩:=e2
     subst e3
     exact hs.p4 pre x (c'++k::i::rest') (by rw [e1];simp)
end Go.Abs
/-
 The abstract layer,part Z5: a call that returns has drawn as much as before,or more: whatever step the model takes,the count of drawn answers never falls.
-/
namespace Go.Abs
open Go
def rw' {α:Type}:Result α→World
 | .ok _ w=>w
 | .halt _ w=>w
theorem ask_up {α:Type}:∀ (a:Ask α) (w:World),w.drawn≤(w.ask a).2.drawn
 | .done a,w=>Nat.le_refl _
 | .ask what range k,w=>by
   rw [World.ask]
   split
   ·exact ask_up (k 0) w
   ·exact Nat.le_trans (Nat.le_succ _) (ask_up (k _) { w with drawn:=w.drawn+1 })
theorem sys_up (w:World) (c:Sys):w.drawn≤(w.sys c).2.drawn:=by
 have h:=ask_up (Kernel.perform c w.os) w
 unfold World.sys
 split
 ·exact Nat.le_refl _
 ·rename_i r os w' he
  rw [he] at h
  exact h
theorem far_up {p:Program} {w w':World} {a:Addr} {v:Value} {b:Bool} {l:List Addr} (h:w.farStore p a v b=.ok (w',l)):w'.drawn=w.drawn:=by
 unfold World.farStore at h
 split at h
 ·split at h
  ·rename_i r hr
   cases h
   unfold World.viewStore at hr
   simp only [bind,Except.bind,pure,Except.pure,MonadExcept.throw] at hr
   repeat' (split at hr<;>try cases hr)
   all_goals (first|rfl|(cases hr;rfl))
  ·cases h
 ·cases h
theorem run_up {α:Type} (p:Program) (m:Sem α):∀ w:World,w.drawn≤(rw' (m.run p w)).drawn:=by
 induction m with
 | pure a=>intro w;exact Nat.le_refl _
 | load m a k ih=>
   intro w
   rw [Sem.run.eq_def]
   try simp only
   split
   ·exact ih _ w
   ·split
    ·exact ih _ w
    ·exact Nat.le_refl _
 | store m a v k ih=>
   have hgo:∀ w:World,w.drawn≤(rw' (α:=α) (match w.cell? a with
    | some _=>if w.frozen? a then .halt (.unsupported (.unsafePointer "a write to bytes that a string shares")) w else k.run p (w.setCell a v)
    | none=>match w.farStore p a v (m == .atomic) with
      | .ok (w,_)=>k.run p w
      | .error h=>.halt h w)).drawn:=by
    intro w
    split
    ·split
     ·exact Nat.le_refl _
     ·exact ih (w.setCell a v)
    ·split
     ·rename_i w' l h
      have h2:=far_up h
      exact h2 ▸ ih w'
     ·exact Nat.le_refl _
   intro w
   cases v<;>first|exact hgo w|exact Nat.le_refl _
 | new o k ih=>intro w;exact ih _ { w with heap:=w.heap.push o }
 | shape r k ih=>intro w;exact ih _ w
 | freeze a n k ih=>
   intro w
   have h:(w.freeze a n).drawn=w.drawn:=by unfold World.freeze;split<;>rfl
   exact h ▸ ih (w.freeze a n)
 | frozen a k ih=>intro w;exact ih _ w
 | getObj r k ih=>
   intro w
   rw [Sem.run.eq_def]
   try simp only
   split
   ·exact Nat.le_refl _
   ·exact ih _ w
   ·exact Nat.le_refl _
 | setObj r o k ih=>
   intro w
   rw [Sem.run.eq_def]
   try simp only
   split
   ·exact Nat.le_refl _
   ·exact ih { w with heap:=w.heap.setIfInBounds r o }
   ·exact Nat.le_refl _
 | choose q k ih=>
   intro w
   rw [Sem.run.eq_def]
   try simp only
   split
   ·exact ih _ w
   ·exact Nat.le_trans (Nat.le_succ _) (ih _ { w with drawn:=w.drawn+1 })
 | sys c k ih=>intro w;exact Nat.le_trans (sys_up w c) (ih _ _)
 | program k ih=>intro w;exact ih _ w
 | mark m k ih=>intro w;exact ih w
 | halt h=>intro w;exact Nat.le_refl _
theorem runT_up {α:Type} {p:Program} {m:Sem α} {w:World} {e0 es:Array Event} {r:Result α} (h:m.runT p w e0=(r,es)):w.drawn≤(rw' r).drawn:=by
 have h1:=run_up p m w
 rw [← Sem.runT_fst p m w e0,h] at h1
 exact h1
theorem run_up' {α:Type} {p:Program} {m:Sem α} {w:World} {r:Result α} (h:m.run p w=r):w.drawn≤(rw' r).drawn:=by
 rw [← h]
 exact run_up p m w
def up (d:Nat):GStep→Prop
 | .go _ w _|.comm _ _ _ _ w _|.spawn _ _ w _|.count _ w _|.timer _ _ w _|.alone _ _ w _|.newcoro _ _ _ w _|.coroswitch _ _ _ w _|.collect _ w _|.watch _ w _=>d≤w.drawn
 | .ended ..=>True
theorem up_after {d:Nat} {es:Array Event} {s:GStep} (h:up d s):up d (GStep.after es s):=by cases s<;>exact h
theorem up_ite {d:Nat} {c:Prop} [Decidable c] {a b:GStep} (ha:up d a) (hb:up d b):up d (if c then a else b):=by
 split
 ·exact ha
 ·exact hb
theorem endWith_up {d:Nat} {w:World} {fd:Nat} {t:ByteArray} {o:Outcome}:up d (endWith w fd t o):=by
 unfold endWith
 simp only
 split
 ·split<;>trivial
 ·trivial
 ·trivial
theorem endThrow_up {d:Nat} {fr:Frame} {m:String} {w:World} (h:d≤w.drawn):up d (endThrow fr m w):=h
theorem endPrinting_up {d:Nat} {p:Program} {fr:Frame} {v:Value} {w:World} (h:d≤w.drawn):up d (endPrinting p fr v w):=by
 unfold endPrinting
 simp only
 split
 ·exact h
 ·trivial
theorem endFatal_up {d:Nat} {p:Program} {fr:Frame} {cs:List Frame} {dy:Option Dying} {m:String} {w:World} (h:d≤w.drawn):up d (endFatal p fr cs dy m w):=by
 unfold endFatal
 simp only
 split
 ·rename_i he
  exact Nat.le_trans h (run_up' he)
 ·trivial
 ·trivial
theorem writeOn_up {d:Nat} {p:Program} {fr:Frame} {dy:Dying} {f:Fatal} {w:World} (h:d≤w.drawn):up d (writeOn p fr dy f w):=by
 unfold writeOn
 simp only
 split
 ·trivial
 ·split
  ·rename_i he;exact Nat.le_trans h (runT_up he)
  ·rename_i he;exact Nat.le_trans h (runT_up he)
  ·trivial
  ·trivial
theorem die_up {d:Nat} {p:Program} {fr:Frame} {dy:Dying} {w:World} (h:d≤w.drawn):up d (die p fr dy w):=by
 unfold die
 split
 ·exact writeOn_up h
 split
 ·split
  ·exact h
  ·exact endWith_up
 ·simp only
  split
  ·exact h
  ·split
   ·rename_i he;exact Nat.le_trans h (run_up' he)
   ·trivial
  ·refine up_after ?_
   generalize hX:Sem.runT p _ w #[]=re
   obtain ⟨r,es⟩:=re
   have hu:=Nat.le_trans h (runT_up hX)
   simp only
   split<;>first|trivial|exact hu|exact endPrinting_up hu
  ·trivial
theorem early_up {d:Nat} {p:Program} {fr:Frame} {cs:List Frame} {dy:Option Dying} {g:Nat} {w:World} (h:d≤w.drawn):up d (early p fr cs dy g w):=by
 have h1:∀ w:World,d≤w.drawn→up d (match w.heap[g]? with
  | some (.pending c elem)=>.go { frame:=fr,callers:=cs,status:=.running,dying:=dy } { w with heap:=w.heap.setIfInBounds g (.cells c elem) }
  | _=>.ended (.stuck "early: the variable does not wait" (fr.pos p)) w):=by
  intro w h
  split
  ·exact h
  ·trivial
 unfold early
 simp only
 split
 ·exact h1 w h
 split
 ·trivial
 split
 ·exact h1 w h
 split
 ·exact h1 w h
 split
 ·trivial
 ·exact h
 ·trivial
 ·exact h1 w h
 ·split
  ·exact h
  split
  ·exact h1 w h
  split
  ·rename_i he;exact h1 _ (Nat.le_trans h (run_up' he))
  ·rename_i he;exact Nat.le_trans h (run_up' he)
  ·trivial
theorem doReturn_up {d:Nat} {p:Program} {b:Bool} {fr:Frame} {cs:List Frame} {dy:Option Dying} {v:Value} {w:World} (h:d≤w.drawn):up d (doReturn p b fr cs dy v w):=by
 unfold doReturn
 split
 ·split<;>exact h
 ·split
  ·exact h
  ·trivial
  ·split
   ·exact h
   ·split
    ·exact h
    ·trivial
theorem callDeferred_up {d:Nat} {p:Program} {fr:Frame} {cs:List Frame} {dy:Option Dying} {x:Deferred} {w:World} (h:d≤w.drawn):up d (callDeferred p fr cs dy x w):=by
 unfold callDeferred
 refine up_ite trivial ?_
 simp only
 refine up_after ?_
 generalize hX:Sem.runT p _ w #[]=re
 obtain ⟨r,es⟩:=re
 have hu:=Nat.le_trans h (runT_up hX)
 simp only
 split<;>first|trivial|exact hu|exact endFatal_up hu|(split<;>exact hu)
theorem unwind_up {d:Nat} {p:Program} {b:Bool} {fr:Frame} {cs:List Frame} {dy:Option Dying} {w:World} (h:d≤w.drawn):up d (unwind p b fr cs dy w):=by
 unfold unwind
 split
 ·refine up_after ?_
  generalize hX:Sem.runT p _ w #[]=re
  obtain ⟨r,es⟩:=re
  have hu:=Nat.le_trans h (runT_up hX)
  simp only
  split
  ·exact hu
  ·trivial
 ·exact callDeferred_up h
 ·split
  ·trivial
  ·split
   ·trivial
   split
   ·exact h
   ·split
    ·split
     ·exact h
     split
     ·rename_i he;exact Nat.le_trans h (run_up' he)
     ·trivial
     ·trivial
    ·split
     ·exact endPrinting_up h
     ·trivial
  ·split
   ·exact doReturn_up h
   ·simp only
    refine up_after ?_
    generalize hX:Sem.runT p _ w #[]=re
    obtain ⟨r,es⟩:=re
    have hu:=Nat.le_trans h (runT_up hX)
    simp only
    split
    ·exact doReturn_up hu
    ·trivial
    ·trivial
theorem apply_up {d:Nat} {p:Program} {l:Bool} {fr:Frame} {cs:List Frame} {dy:Option Dying} {x:Sem Next} {w:World} (h:d≤w.drawn):up d (stepG.apply p l fr cs dy x w):=by
 unfold stepG.apply
 simp only
 refine up_after ?_
 have hu:d≤(rw' (if l=true then x.runT p w #[] else (x.run p w,#[])).1).drawn:=by
  split
  ·rw [Sem.runT_fst];exact Nat.le_trans h (run_up p x w)
  ·exact Nat.le_trans h (run_up p x w)
 generalize (if l=true then x.runT p w #[] else (x.run p w,#[]))=re at hu ⊢
 obtain ⟨r,es⟩:=re
 simp only at hu ⊢
 split<;>first|trivial|exact hu|exact endFatal_up hu|exact endThrow_up hu|exact early_up hu|(split<;>exact hu)|exact up_ite (endThrow_up hu) hu
theorem oper_up {d:Nat} {p:Program} {l:Bool} {fr:Frame} {cs:List Frame} {dy:Option Dying} {w:World} (h:d≤w.drawn):up d (stepG.oper p l fr cs dy w):=by
 unfold stepG.oper
 split
 ·trivial
 ·split<;>exact apply_up h
theorem up_elim {d:Nat} {α:Type} {o:Option α} {a:GStep} {f:α→GStep} (ha:up d a) (hf:∀ x,up d (f x)):up d (o.elim a f):=by
 cases o
 ·exact ha
 ·exact hf _
theorem runT_up2 {α:Type} {p:Program} {m:Sem α} {d:Nat} {w:World} {e0:Array Event} (h:d≤w.drawn):d≤(rw' (m.runT p w e0).1).drawn:=by
 rw [Sem.runT_fst]
 exact Nat.le_trans h (run_up p m w)
theorem leave_up {d:Nat} {p:Program} {m:Bool} {fr:Frame} {cs:List Frame} {dy:Option Dying} {w:World} {es:Array Event} {l:Nat} {j:Option Code} {x:String} (h:d≤w.drawn) :
  up d (GStep.after es (match ((Instr.endRound l j).runT p w #[]).1 with
        | .ok v w=>doReturn p m fr cs dy v w
        | .halt _ w=>.ended (.stuck x (fr.pos p)) w)):=by
 have hu:=runT_up2 (p:=p) (m:=Instr.endRound l j) (e0:=#[]) h
 generalize ((Instr.endRound l j).runT p w #[]).1=r at hu ⊢
 refine up_after ?_
 split
 ·exact doReturn_up hu
 ·trivial
theorem exec_up {d:Nat} {p:Program} {m l:Bool} {fr:Frame} {cs:List Frame} {dy:Option Dying} {w:World} (h:d≤w.drawn):up d (stepG.exec p m l fr cs dy w):=by
 unfold stepG.exec
 simp only
 split
 all_goals try first|exact h|trivial|exact apply_up h
 ·split
  ·exact up_ite h trivial
  ·exact leave_up h
 ·split
  ·exact up_ite h trivial
  ·exact leave_up h
 ·split
  ·exact h
  ·trivial
 ·refine up_elim ?_ fun _=>h
  split
  ·exact up_ite h trivial
  ·exact leave_up h
 ·refine up_elim ?_ fun _=>h
  split
  ·exact up_ite h trivial
  ·exact leave_up h
 ·rename_i pa ags bo _ _
  refine up_after ?_
  have hu:=runT_up2 (p:=p) (m:=Instr.enterLoop fr.fn fr.tmps pa ags bo fr.roundOf) (e0:=#[]) h
  generalize (Sem.runT p (Instr.enterLoop fr.fn fr.tmps pa ags bo fr.roundOf) w #[]).1=r at hu ⊢
  split
  ·exact apply_up hu
  ·trivial
 ·rename_i lo _ _
  refine up_after ?_
  have hu:=runT_up2 (p:=p) (m:=Instr.endLoop lo) (e0:=#[]) h
  generalize (Sem.runT p (Instr.endLoop lo) w #[]).1=r at hu ⊢
  split
  ·exact hu
  ·exact hu
  ·trivial
 ·exact up_elim trivial fun _=>apply_up h
 ·refine up_ite h ?_
  split
  ·rename_i he;exact Nat.le_trans h (run_up' he)
  ·trivial
 ·exact up_ite (oper_up h) h
theorem stepG_up {d:Nat} {p:Program} {m l:Bool} {g:Goroutine} {w:World} (h:d≤w.drawn):up d (stepG p m g w l):=by
 unfold stepG
 simp only
 split
 ·exact die_up h
 ·exact exec_up h
 ·exact unwind_up h
def ups (d:Nat):Stepped→Prop
 | .next m=>d≤m.world.drawn
 | .ended ..=>True
theorem waiting_up {rest:Rest} {cases:Array CommCase} {w w':World} (h:waitingAt rest cases w=some w'):w'.drawn=w.drawn:=by
 unfold waitingAt at h
 split at h
 ·split at h
  ·cases h;rfl
  ·cases h
 ·cases h;rfl
theorem comm_up {d:Nat} {p:Program} {rest:Rest} {gs:Array Goroutine} {i:Nat} {g:Goroutine} {cs:Array CommCase} {b:Bool} {sh:CommShape} {w:World} (h:d≤w.drawn):ups d (communicate p rest gs i g cs b sh w).1:=by
 unfold communicate
 simp only
 split
 ·trivial
 split
 ·split
  ·split
   ·rename_i he
    have:=waiting_up he
    show d≤World.drawn _
    rw [this]
    exact h
   ·trivial
  ·exact h
 split
 ·trivial
 rename_i he
 have hu:=Nat.le_trans h (run_up' he)
 clear he
 split
 ·split
  ·rename_i he
   exact Nat.le_trans hu (run_up' he)
  ·trivial
 ·exact hu
 ·exact hu
 ·split
  ·exact hu
  ·split
   ·rename_i he
    exact Nat.le_trans hu (run_up' he)
   ·trivial
 ·exact hu
 ·exact hu
 ·trivial
theorem look_up {d:Nat} {p:Program} {gs:Array Goroutine} {rest:Rest} {w:World} (h:d≤w.drawn):ups d (look p gs rest w):=by
 unfold look
 split
 ·simp only
  split
  ·trivial
  split
  ·trivial
  split
  ·rename_i he
   exact Nat.le_trans h (run_up' he)
  ·trivial
  ·trivial
 ·trivial
theorem serve_up {d:Nat} {p:Program} {m:Machine} {k:Nat} (h:d≤m.world.drawn):ups d (serve p m k):=by
 unfold serve
 split
 ·trivial
 ·exact h
 ·simp only
  split
  ·trivial
  ·exact h
theorem drain_up (w:World) (c:Nat):(drain w c).2.drawn=w.drawn:=by
 unfold drain
 split<;>rfl
theorem retime_up (m:Machine) (k:Nat) (t:Timer) (a b:Nat):(retime m k t a b).2.world.drawn=m.world.drawn:=by
 unfold retime
 simp only
 split
 ·exact drain_up _ _
 ·rfl
theorem timer_up {m m':Machine} {op:TimerOp} {v:Value} (h:timerOp m op=.ok (v,m')):m'.world.drawn=m.world.drawn:=by
 unfold timerOp at h
 split at h
 ·split at h
  ·cases h;rfl
  ·split at h
   ·split at h
    ·cases h
    ·cases h;rfl
   ·cases h
 ·unfold timerOp.named at h
  split at h
  ·cases h;exact retime_up _ _ _ _ _
  ·cases h
 ·split at h
  ·rename_i m2 ho
   have h2:m2.world.drawn=m.world.drawn:=by
    unfold timerOp.opened at ho
    split at ho
    ·split at ho
     ·cases ho;rfl
     ·cases ho
    ·cases ho;rfl
   unfold timerOp.named at h
   split at h
   ·cases h;rw [← h2];exact retime_up _ _ _ _ _
   ·cases h
  ·cases h
 ·cases h;rfl
theorem throw_up {d:Nat} {fr:Frame} {m:String} {w:World} {gs:Array Goroutine} {rest:Rest} {i:Nat} (h:d≤w.drawn) :
  ups d (match endThrow fr m w with
   | .go g w _=>.next { world:=w,gs:=gs.setIfInBounds i g,rest:=rest }
   | _=>.ended (.stuck "" "") w):=h
theorem mrun_up {d:Nat} {p:Program} {m:Machine} {i:Nat} {l:Bool} (h:d≤m.world.drawn):ups d (runT p m i l).1:=by
 unfold runT
 generalize m.gs.swapAt! i _=gg
 obtain ⟨g,gs⟩:=gg
 have hs:up d (stepG p (i == 0) g m.world l):=stepG_up h
 simp only
 generalize stepG p (i == 0) g m.world l=s at hs ⊢
 cases s with
 | ended o w es=>trivial
 | comm g cs b sh w es=>exact comm_up hs
 | go g w es=>exact hs
 | spawn g c w es=>exact hs
 | count g w es=>
   simp only
   split
   ·trivial
   ·exact hs
 | alone g o w es=>exact hs
 | collect g w es=>exact look_up hs
 | watch g w es=>exact hs
 | newcoro g c x w es=>exact hs
 | coroswitch g c e w es=>
   simp only
   split
   ·exact hs
   ·exact throw_up hs
   ·trivial
 | timer g op w es=>
   simp only
   split
   ·rename_i he
    have:=timer_up he
    show d≤World.drawn _
    rw [this]
    exact hs
   ·exact throw_up hs
   ·trivial
   ·trivial
def upm (d:Nat):Move→Prop
 | .goroutine m _=>d≤m.world.drawn
 | .machine s _=>ups d s
theorem askOn_up {d:Nat} {p:Program} {m:Machine} (h:d≤m.world.drawn):upm d (askOn p m):=by
 unfold askOn
 simp only
 split
 ·trivial
 rename_i he
 have hu:=Nat.le_trans h (run_up' he)
 simp only [rw'] at hu
 clear he
 split
 ·exact serve_up hu
 split
 ·split
  ·exact hu
  ·split
   ·exact hu
   ·split<;>trivial
 ·split
  ·split
   ·trivial
   ·rename_i he2
    have h3:=run_up' he2
    have hw:=Nat.le_trans hu h3
    clear he2
    split
    ·exact hw
    ·split
     ·trivial
     ·rename_i he3;exact Nat.le_trans hw (run_up' he3)
  ·split
   ·trivial
   all_goals
    rename_i he
    have hv:=Nat.le_trans hu (run_up' he)
    simp only [rw'] at hv
    clear he
    first
     | exact hv
     | (split
        ·trivial
        ·rename_i he2
         have h3:=run_up' he2
         have hw:=Nat.le_trans hv h3
         clear he2
         split
         ·exact hw
         ·split
          ·trivial
          ·rename_i he3;exact Nat.le_trans hw (run_up' he3))
theorem mask_up {d:Nat} {p:Program} {m:Machine} (h:d≤m.world.drawn):upm d (ask p m):=by
 unfold ask
 split
 ·split
  ·trivial
  ·rename_i he
   have hv:=Nat.le_trans h (run_up' he)
   simp only [rw'] at hv
   have hu:=look_up (p:=p) (gs:=m.gs) (rest:=m.rest) hv
   generalize hk:look p m.gs m.rest _=s at hu ⊢
   cases s with
   | next m2=>exact askOn_up hu
   | ended o w=>exact hu
  ·rename_i he
   exact askOn_up (Nat.le_trans h (run_up' he))
 ·exact askOn_up h
theorem move_up {d:Nat} {p:Program} {m:Machine} (h:d≤m.world.drawn):upm d (move p m):=by
 unfold move
 split
 ·split
  ·exact h
  ·trivial
 ·split
  ·split
   ·exact h
   ·exact mask_up h
  ·exact mask_up h
theorem step_up {d:Nat} {p:Program} {m:Machine} (h:d≤m.world.drawn):ups d (step p m):=by
 unfold step stepT
 have hm:=move_up (p:=p) h
 generalize move p m=v at hm ⊢
 cases v with
 | goroutine m i=>exact mrun_up hm
 | machine s ops=>exact hm
theorem runN_up {d:Nat} {p:Program}:∀ {n:Nat} {m:Machine},d≤m.world.drawn→ups d (runN p n m)
 | 0,m,h=>h
 | n+1,m,h=>by
   unfold runN
   have hs:=step_up (p:=p) h
   generalize step p m=s at hs ⊢
   cases s with
   | next m=>exact runN_up hs
   | ended o w=>trivial
theorem calls_up {p:Program} {f:FuncId} {args:Array Value} {w:World} {R:Ending→World→Prop} (hc:Calls p f args w R) (hr:∀ e w',R e w'→∃ v,e=.returned v):Calls p f args w fun e w'=>R e w'∧w.drawn≤w'.drawn:=by
 intro cs
 obtain ⟨e,w',fr,h1,h2,h3,h4⟩:=hc cs
 obtain ⟨v,rfl⟩:=hr e w' h1
 obtain ⟨n,hn⟩:Steps p _ _:=h2
 have hu:=runN_up (p:=p) (n:=n) (m:=lone (Frame.enter p f args .normal) cs w) (d:=w.drawn) (Nat.le_refl _)
 rw [hn] at hu
 exact ⟨_,w',fr,⟨h1,hu⟩,⟨n,hn⟩,h3,h4⟩
end Go.Abs
/-
 The abstract layer,part Z6: calls of which it is known that all stays as it was below the heap's end;strings.Join by its contract.
-/
namespace Go.Abs
open Go Go.RowKit
end Go.Abs
/-
 The abstract layer,part Z7: strings.Builder as an own object: what its methods do to the world,with a frame of all other blocks.
-/
namespace Go.Abs
open Go Go.RowKit Go.Shelf Go.Proofs
def Own2 (w:World) (v:Value) (w':World) (v':Value):Prop:=
 (∀ q,v'.ownBlock=some q→v.ownBlock=some q∨w.heap.size≤q) ∧
 ∀ q cc t f,v.ownBlock=some q→w.heap[q]?=some (.cells cc t f)→∃ cc' f',w'.heap[q]?=some (.cells cc' t f')∧cc'.size=cc.size
theorem ownsF_zero {w:World} {b:Nat} {e:TypeId} {k n:Nat} {v:Value} {xs:List Value} (h:w.ownsRowF b e k v n xs):w.ownsRowF 0 e k v n xs:=by
 refine ⟨h.1,?_⟩
 rcases h.2 with h|⟨g,cap,cur,fz,a1,a2,a3⟩
 ·exact .inl h
 ·exact .inr ⟨g,cap,cur,fz,a1,Nat.zero_le _,a3⟩
theorem ownsF_block {w:World} {b:Nat} {e:TypeId} {k n:Nat} {v:Value} {xs:List Value} (h:w.ownsRowF b e k v n xs) {q:Nat} (hq:v.ownBlock=some q):b≤q∧q<w.heap.size:=by
 rcases h.2 with ⟨rfl,_⟩|⟨g,cap,cur,fz,rfl,a2,a3,_⟩
 ·cases hq
 ·cases hq
  exact ⟨a2,(Array.getElem?_eq_some_iff.1 a3).1⟩
section
variable {P:Program} (w:World)
theorem run_append_strK (t u ty e:TypeId) (i:TypeInfo) (ht:P.underlying t=some (.slice e)) (hu:P.underlying u=some .string) (hi:P.info? e=some i) (hz:i.zero=some (.int .u8 0))
  (hsize:i.size=1) (hby:i.bytes=1)
  (v:Value) (n:Nat) (xs:List Value) (hown:w.ownsRowF 0 e 1 v n xs) (s:ByteArray)
  (h63:n+s.size≤maxLen) (hbytes:n+s.size≤140737488355328) :
  ∃ v' w',(Builtin.append_ #[t,u] ty #[v,.string s]).run P w=.ok v' w'∧w'.ownsRowF 0 e 1 v' (n+s.size) (xs++Lib.strCells s)∧w.grownBy w' v.ownBlock∧Own2 w v w' v':=by
 rcases hown.2 with ⟨rfl,rfl⟩|⟨g,cap,cur,fz,rfl,hbg,hg,hfz,hnc,hcm,hcs,htake⟩
 ·obtain ⟨v',w',h1,h2,h3,h4⟩:=Lib.run_append_own_string (P:=P) w w.heap.size t u ty e i ht hu hi hz hsize hby (.slice none 0 0) 0 xs ⟨hown.1,.inl ⟨rfl,rfl⟩⟩ s h63 hbytes (Nat.le_refl _)
  have h2':=World.ownsRowF_of h2
  exact ⟨v',w',h1,ownsF_zero h2',h3,fun q hq=>.inr (ownsF_block h2' hq).1,fun q cc t f hq=>by cases hq⟩
 ·have hsmall:n+s.size≤9223372036854775807:=by simp only [maxLen] at h63;omega
  have hxl:xs.length=n:=by simpa using hown.1
  have hlen:(xs++Lib.strCells s).length=(n+s.size)*1:=by rw [List.length_append,hxl,Lib.strCells_length,Nat.mul_one]
  by_cases hroom:n+s.size≤cap
  ·have hcs':cur.size=cap:=by simpa using hcs
   have hr:=Lib.run_append_room_stringF (P:=P) w t u ty e i ht hu hi hsize g n cap cur fz hg (by simpa using hfz) s hroom (by omega)
   have hns:(cur.toList.take n++Lib.strCells s++cur.toList.drop (n+s.size)).toArray.size=cap*1:=by
    simp only [List.size_toArray,List.length_append,List.length_take,List.length_drop,Array.length_toList,Lib.strCells_length]
    omega
   refine ⟨_,_,hr,⟨hlen,.inr ⟨g,cap,_,fz,rfl,Nat.zero_le _,setRow_heap w g cur _ e _ hg,by omega,hroom,hcm,hns,?_⟩⟩,⟨rfl,rfl,rfl,by simp,fun k _ hk=>setRow_other w g k _ (fun e=>hk (by simp [Value.ownBlock,e]))⟩,
    fun q hq=>.inl hq,fun q cc t f hq hcc=>?_⟩
   ·have ht':cur.toList.take n=xs:=by simpa using htake
    rw [ht',← hlen]
    exact List.take_left
   ·cases hq
    rw [hg] at hcc
    cases hcc
    exact ⟨_,_,setRow_heap w g cur _ e _ hg,by rw [hns,hcs]⟩
  ·have holds:∀ j u,xs[j]?=some u→w.cell? ((⟨g,0,none⟩:Addr).add j)=some u:=hown.cells (g:=g) rfl
   have hr:=Lib.run_append_grow_string (P:=P) w t u ty e i (.int .u8 0) ht hu hi hz ⟨g,0,none⟩ n cap xs (by rw [hsize];simpa using hxl) holds s (by omega) (by omega) (by rw [hby];exact growslice_fits (by omega) (by omega))
   have hge:=grownCap_ge w (n+s.size) cap e
   have hcm2:grownCap w (n+s.size) cap e≤maxLen:=grownCap_le_maxLen w (n+s.size) cap e h63
   have hold:∀ k,k<w.heap.size→(w.drew.alloc (.cells (xs.toArray++(Lib.strCells s).toArray++Builtin.zeroCells (Value.int .u8 0).cells (grownCap w (n+s.size) cap e - (n+s.size))) e)).heap[k]?=w.heap[k]?:=fun k hk=>heap_alloc_lt w.drew _ hk
   refine ⟨_,_,hr,⟨hlen,.inr ⟨w.heap.size,_,_,(0,0),rfl,Nat.zero_le _,heap_alloc_new w.drew _,Nat.zero_le _,hge,hcm2,?_,?_⟩⟩,⟨rfl,rfl,rfl,by simp,fun k hk _=>heap_alloc_lt w.drew _ hk⟩,
    fun q hq=>.inr (by cases hq;exact Nat.le_refl _),fun q cc t f hq hcc=>⟨cc,f,(heap_alloc_lt w.drew _ (Array.getElem?_eq_some_iff.1 hcc).1).trans hcc,rfl⟩⟩
   ·have hz1:(Value.int IntKind.u8 0).cells.size=1:=rfl
    simp only [Array.size_append,List.size_toArray,size_zeroCells,hz1,hxl,Lib.strCells_length]
    omega
   ·simp only [Array.toList_append,List.append_assoc]
    rw [← List.append_assoc,← hlen]
    exact List.take_left
theorem run_append_byteK (t ty e:TypeId) (i:TypeInfo) (ht:P.underlying t=some (.slice e)) (hi:P.info? e=some i) (hz:i.zero=some (.int .u8 0))
  (hsize:i.size=1) (hby:i.bytes=1)
  (v:Value) (n:Nat) (xs:List Value) (hown:w.ownsRowF 0 e 1 v n xs)
  (a:Addr) (c:Nat) (x:Value) (hx:w.cell? a=some x) (h1:x.oneCell'=true)
  (h63:n+1≤maxLen) (hbytes:n+1≤140737488355328) :
  ∃ v' w',(Builtin.append_ #[t,t] ty #[v,.slice (some a) 1 c]).run P w=.ok v' w'∧w'.ownsRowF 0 e 1 v' (n+1) (xs++[x])∧w.grownBy w' v.ownBlock∧Own2 w v w' v':=by
 have hnews:∀ (j:Nat) u,[x][j]?=some u→w.cell? (a.add j)=some u:=by
  intro j u hj
  match j,hj with
  | 0,hj=>simp at hj;subst hj;simpa [Addr.add] using hx
 have h1':∀ u∈[x],u.oneCell'=true:=by intro u hu;simp at hu;subst hu;exact h1
 rcases hown.2 with ⟨rfl,rfl⟩|⟨g,cap,cur,fz,rfl,hbg,hg,hfz,hnc,hcm,hcs,htake⟩
 ·obtain ⟨v',w',r1,r2,r3,r4⟩:=run_append_own (P:=P) w w.heap.size t ty e i (.int .u8 0) 1 1 ht hi hz hsize hby rfl (by decide) (.slice none 0 0) 0 xs ⟨hown.1,.inl ⟨rfl,rfl⟩⟩ a 1 c [x] rfl hnews h1' h63 (by omega) (Nat.le_refl _)
  have r2':=World.ownsRowF_of r2
  exact ⟨v',w',r1,ownsF_zero r2',r3,fun q hq=>.inr (ownsF_block r2' hq).1,fun q cc t f hq=>by cases hq⟩
 ·have hsmall:n+1≤9223372036854775807:=by simp only [maxLen] at h63;omega
  have hxl:xs.length=n:=by simpa using hown.1
  have hlen:(xs++[x]).length=(n+1)*1:=by rw [List.length_append,hxl,Nat.mul_one];rfl
  have hcs':cur.size=cap:=by simpa using hcs
  by_cases hroom:n+1≤cap
  ·have hr:=run_append_roomF (P:=P) w t ty e i ht hi g n cap cur fz hg (by rw [hsize];exact hfz) a 1 c [x] (by rw [hsize];rfl) hnews h1' hroom (by rw [hsize];simp;omega)
   rw [hsize] at hr
   have hns:(cur.toList.take (n*1)++[x]++cur.toList.drop (n*1+[x].length)).toArray.size=cap*1:=by
    simp only [List.size_toArray,List.length_append,List.length_take,List.length_drop,Array.length_toList,List.length_cons,List.length_nil]
    omega
   refine ⟨_,_,hr,⟨hlen,.inr ⟨g,cap,_,fz,rfl,Nat.zero_le _,setRow_heap w g cur _ e _ hg,by omega,hroom,hcm,hns,?_⟩⟩,⟨rfl,rfl,rfl,by simp,fun k _ hk=>setRow_other w g k _ (fun e=>hk (by simp [Value.ownBlock,e]))⟩,
    fun q hq=>.inl hq,fun q cc t f hq hcc=>?_⟩
   ·rw [htake,← hlen]
    exact List.take_left
   ·cases hq
    rw [hg] at hcc
    cases hcc
    exact ⟨_,_,setRow_heap w g cur _ e _ hg,by rw [hns,hcs]⟩
  ·have holds:∀ j u,xs[j]?=some u→w.cell? ((⟨g,0,none⟩:Addr).add j)=some u:=hown.cells (g:=g) rfl
   have hr:=run_append_grow (P:=P) w t ty e i (.int .u8 0) ht hi hz ⟨g,0,none⟩ n cap xs (by rw [hsize];exact hown.1) holds a 1 c [x] (by rw [hsize];rfl) hnews (by omega) (by omega) (growslice_fits (by omega) (by rw [hby];omega))
   have hge:=grownCap_ge w (n+1) cap e
   have hcm2:grownCap w (n+1) cap e≤maxLen:=grownCap_le_maxLen w (n+1) cap e h63
   refine ⟨_,_,hr,⟨hlen,.inr ⟨w.heap.size,_,_,(0,0),rfl,Nat.zero_le _,heap_alloc_new w.drew _,Nat.zero_le _,hge,hcm2,?_,?_⟩⟩,⟨rfl,rfl,rfl,by simp,fun k hk _=>heap_alloc_lt w.drew _ hk⟩,
    fun q hq=>.inr (by cases hq;exact Nat.le_refl _),fun q cc t f hq hcc=>⟨cc,f,(heap_alloc_lt w.drew _ (Array.getElem?_eq_some_iff.1 hcc).1).trans hcc,rfl⟩⟩
   ·have hz1:(Value.int IntKind.u8 0).cells.size=1:=rfl
    simp only [Array.size_append,List.size_toArray,size_zeroCells,hz1,hxl,List.length_cons,List.length_nil]
    omega
   ·simp only [Array.toList_append,List.append_assoc]
    rw [← List.append_assoc,← hlen]
    exact List.take_left
theorem wpList_append_strK {ops:Array Oper} {rest:List Oper} {o:Oper} {a:Act} {Q:Exit→Act→World→Prop} (hgd:o.guard=none) (sl x:Operand) (t u:TypeId)
  (ho:o.op=.call { callee:=.builtin .append,args:=#[sl,x],argTypes:=#[t,u] })
  (e:TypeId) (i:TypeInfo) (ht:P.underlying t=some (.slice e)) (hu:P.underlying u=some .string) (hi:P.info? e=some i) (hz:i.zero=some (.int .u8 0))
  (hsize:i.size=1) (hby:i.bytes=1)
  (v:Value) (n:Nat) (xs:List Value) (hs:a.eval sl=v) (hown:w.ownsRowF 0 e 1 v n xs) (s:ByteArray) (hx:a.eval x=.string s)
  (h63:n+s.size≤maxLen) (hbytes:n+s.size≤140737488355328)
  (h:∀ v' w',w'.ownsRowF 0 e 1 v' (n+s.size) (xs++Lib.strCells s)→w.grownBy w' v.ownBlock→Own2 w v w' v'→wpList P ops Q rest (a.put o.dst v') w'):wpList P ops Q (o::rest) a w:=by
 refine wpList_plain hgd fun K hK=>?_
 obtain ⟨v',w',hr,h2,h3,h4⟩:=run_append_strK (P:=P) w t u o.type e i ht hu hi hz hsize hby v n xs hown s h63 hbytes
 unfold Oper.wp execOp
 simp only [ho,resolve,invoke,builtin,Sem.run_bind,Sem.run_pure,Result.andThen_ok,List.map_toArray,List.map_cons,List.map_nil,hs,hx,hr]
 exact hK _ _ (h v' w' h2 h3 h4)
theorem wpList_append_byteK {ops:Array Oper} {rest:List Oper} {o:Oper} {a:Act} {Q:Exit→Act→World→Prop} (hgd:o.guard=none) (sl x:Operand) (t:TypeId)
  (ho:o.op=.call { callee:=.builtin .append,args:=#[sl,x],argTypes:=#[t,t] })
  (e:TypeId) (i:TypeInfo) (ht:P.underlying t=some (.slice e)) (hi:P.info? e=some i) (hz:i.zero=some (.int .u8 0))
  (hsize:i.size=1) (hby:i.bytes=1)
  (v:Value) (n:Nat) (xs:List Value) (hs:a.eval sl=v) (hown:w.ownsRowF 0 e 1 v n xs)
  (ad:Addr) (c:Nat) (y:Value) (hx:a.eval x=.slice (some ad) 1 c) (hy:w.cell? ad=some y) (h1:y.oneCell'=true)
  (h63:n+1≤maxLen) (hbytes:n+1≤140737488355328)
  (h:∀ v' w',w'.ownsRowF 0 e 1 v' (n+1) (xs++[y])→w.grownBy w' v.ownBlock→Own2 w v w' v'→wpList P ops Q rest (a.put o.dst v') w'):wpList P ops Q (o::rest) a w:=by
 refine wpList_plain hgd fun K hK=>?_
 obtain ⟨v',w',hr,h2,h3,h4⟩:=run_append_byteK (P:=P) w t o.type e i ht hi hz hsize hby v n xs hown ad c y hy h1 h63 hbytes
 unfold Oper.wp execOp
 simp only [ho,resolve,invoke,builtin,Sem.run_bind,Sem.run_pure,Result.andThen_ok,List.map_toArray,List.map_cons,List.map_nil,hs,hx,hr]
 exact hK _ _ (h v' w' h2 h3 h4)
end
theorem setCell_at {w:World} {b o:Nat} {v:Value} {cc:Array Value} {t:TypeId} {f:Nat × Nat} (h:w.heap[b]?=some (.cells cc t f)):(w.setCell ⟨b,o,none⟩ v).heap[b]?=some (.cells (cc.setIfInBounds o v) t f):=by
 simp only [World.setCell,Array.getElem?_modify,if_true,h];rfl
theorem setCell_size {w:World} {p:Addr} {v:Value}:(w.setCell p v).heap.size=w.heap.size:=by simp [World.setCell]
theorem ownsF_of {w w':World} {b:Nat} {e:TypeId} {k n:Nat} {v:Value} {xs:List Value} (h:w.ownsRowF b e k v n xs) (hb:∀ q,v.ownBlock=some q→w'.heap[q]?=w.heap[q]?):w'.ownsRowF b e k v n xs:=by
 refine ⟨h.1,?_⟩
 rcases h.2 with h|⟨g,cap,cur,fz,rfl,a2,a3,a4⟩
 ·exact .inl h
 ·exact .inr ⟨g,cap,cur,fz,rfl,a2,(hb g rfl).trans a3,a4⟩
structure BPost (T E:TypeId) (b:Nat) (v:Value) (bs:List Value) (w w':World):Prop where
 obj:∃ v',w'.heap[b]?=some (.cells #[.pointer (some ⟨b,0,none⟩),v'] T (0,0))∧w'.ownsRowF 0 E 1 v' bs.length bs∧v'.ownBlock≠some b∧Own2 w v w' v'
 os:w'.os=w.os
 tape:w'.tape=w.tape
 output:w'.output=w.output
 size:w.heap.size≤w'.heap.size
 block:∀ k,k<w.heap.size→k≠b→some k≠v.ownBlock→w'.heap[k]?=w.heap[k]?
structure CPost (T:TypeId) (b:Nat) (v:Value) (w w':World):Prop where
 obj:w'.heap[b]?=some (.cells #[.pointer (some ⟨b,0,none⟩),v] T (0,0))
 os:w'.os=w.os
 tape:w'.tape=w.tape
 output:w'.output=w.output
 size:w'.heap.size=w.heap.size
 block:∀ k,k≠b→w'.heap[k]?=w.heap[k]?
theorem bpost_of {T E:TypeId} {b:Nat} {v v':Value} {bs:List Value} {w w1 w2:World} (hlt:b<w.heap.size) (hc:CPost T b v w w1) (hne:v.ownBlock≠some b) {z:Nat} (hz:w1.heap.size≤z) (hown:w2.ownsRowF 0 E 1 v' bs.length bs)
  (hos:w2.os=w1.os) (htp:w2.tape=w1.tape) (hout:w2.output=w1.output) (hsz:w1.heap.size≤w2.heap.size) (hbl:∀ k,k<w1.heap.size→some k≠v.ownBlock→w2.heap[k]?=w1.heap[k]?)
  (ho1:∀ q,v'.ownBlock=some q→v.ownBlock=some q∨w1.heap.size≤q)
  (ho2:∀ q cc t f,v.ownBlock=some q→w1.heap[q]?=some (.cells cc t f)→∃ cc' f',w2.heap[q]?=some (.cells cc' t f')∧cc'.size=cc.size) :
  BPost T E b v bs w (w2.setCell ⟨b,1,none⟩ v'):=by
 have hlt1:b<w1.heap.size:=by rw [hc.size];exact hlt
 have hb2:w2.heap[b]?=some (.cells #[.pointer (some ⟨b,0,none⟩),v] T (0,0)):=(hbl b hlt1 fun e=>hne e.symm).trans hc.obj
 have hne':v'.ownBlock≠some b:=fun e=>by
  rcases ho1 b e with h|h
  ·exact hne h
  ·omega
 refine ⟨⟨v',?_,ownsF_of hown fun q hq=>heap_setCell_other _ _ _ _ fun (e:q=b)=>hne' (e ▸ hq),hne',fun q hq=>(ho1 q hq).imp id fun h=>by rw [hc.size] at h;exact h,fun q cc t f hq hcc=>?_⟩,
  hos.trans hc.os,htp.trans hc.tape,hout.trans hc.output,by rw [setCell_size,← hc.size];exact hsz,fun k hk hkb hkv=>?_⟩
 ·rw [setCell_at hb2];rfl
 ·have hqb:q≠b:=fun e=>hne (e ▸ hq)
  obtain ⟨cc',f',h1,h2⟩:=ho2 q cc t f hq ((hc.block q hqb).trans hcc)
  exact ⟨cc',f',(heap_setCell_other _ _ _ _ hqb).trans h1,h2⟩
 ·rw [heap_setCell_other _ _ _ _ hkb,hbl k (by rw [hc.size];exact hk) hkv]
  exact hc.block k hkb
section
variable {P:Program} {ρ:Ren}
theorem Bld_copyCheck (L:Lays.n240 P ρ) (X:Builder.X72 P ρ) {b:Nat} {x v:Value} {w:World} (hbk:w.heap[b]?=some (.cells #[x,v] (ρ.t 72) (0,0))) (hx:x=.pointer none∨x=.pointer (some ⟨b,0,none⟩)) :
  Calls P (ρ.f 240) #[.pointer (some ⟨b,0,none⟩)] w fun e w'=>e=.returned (.tuple #[])∧CPost (ρ.t 72) b v w w':=by
 have c0:w.cell? ⟨b,0,none⟩=some x:=by rw [Lib.cell_of_heap hbk];rfl
 rcases hx with rfl|rfl
 ·refine (Any.Builder_copyCheck_fresh L X b w c0 (by simp [World.shape?,hbk]) (Lib.frozen_of_heap hbk 0)).mono ?_
  rintro e w' ⟨rfl,rfl⟩
  exact ⟨rfl,by rw [setCell_at hbk];rfl,rfl,rfl,rfl,setCell_size,fun k hk=>heap_setCell_other _ _ _ _ hk⟩
 ·refine (Any.Builder_copyCheck_used L X b w c0).mono ?_
  rintro e w' ⟨rfl,rfl⟩
  exact ⟨rfl,hbk,rfl,rfl,rfl,rfl,fun k hk=>rfl⟩
set_option maxHeartbeats 2000000 in
set_option maxRecDepth 100000 in
theorem Bld_WriteString (L:Lays.n166 P ρ) (X:Builder.Extra P ρ) {b:Nat} {x v:Value} {bs:List Value} (s:ByteArray) {w:World} (hbk:w.heap[b]?=some (.cells #[x,v] (ρ.t 72) (0,0))) (hx:x=.pointer none∨x=.pointer (some ⟨b,0,none⟩))
  (hown:w.ownsRowF 0 (ρ.t 5) 1 v bs.length bs) (hne:v.ownBlock≠some b) (hlen:bs.length+s.size≤140737488355328) :
  Calls P (ρ.f 166) #[.pointer (some ⟨b,0,none⟩),.string s] w fun e w'=>e=.returned (.tuple #[.int .i64 s.size,.nilIface])∧BPost (ρ.t 72) (ρ.t 5) b v (bs++Lib.strCells s) w w':=by
 have hlt:b<w.heap.size:=(Array.getElem?_eq_some_iff.1 hbk).1
 obtain ⟨i0,hi,hz0,hz1,hz2⟩:=info_parts X.infoByte
 have mixed:=L.mixed
 have t72:=L.t72;have a72:=L.a72;have z72:=L.z72;have v72:=L.v72;have u72:=run_underlying L.t72
 have t70:=L.t70;have a70:=L.a70;have z70:=L.z70;have v70:=L.v70;have u70:=run_underlying L.t70
 have t37:=L.t37;have a37:=L.a37;have z37:=L.z37;have v37:=L.v37;have u37:=run_underlying L.t37
 have t3:=L.t3;have a3:=L.a3;have z3:=L.z3;have v3:=L.v3;have u3:=run_underlying L.t3
 have t9:=L.t9;have a9:=L.a9;have z9:=L.z9;have v9:=L.v9;have u9:=run_underlying L.t9
 have t4:=L.t4;have a4:=L.a4;have z4:=L.z4;have v4:=L.v4;have u4:=run_underlying L.t4
 have t164:=L.t164;have a164:=L.a164;have z164:=L.z164;have v164:=L.v164;have u164:=run_underlying L.t164
 have t5:=X.t5;have a5:=X.a5;have z5:=X.z5;have v5:=X.v5;have u5:=run_underlying X.t5
 have e240:∀ args w,(callFunc (ρ.f 240) args).run P w=.ok (.enter (ρ.f 240) args) w:=enters_of L.f240 (by kernel_rfl) rfl
 go_enter L.f166,Body.n166_ntmps ρ
 go_wp2_with (go_at_fn (ρ.f 240);refine (Bld_copyCheck { L with } X.toX72 hbk hx).mono ?_)
 rintro e w1 ⟨rfl,hc⟩
 have hbk1:=hc.obj
 have hown1:w1.ownsRowF 0 (ρ.t 5) 1 v bs.length bs:=ownsF_of hown fun q hq=>hc.block q fun e=>hne (e ▸ hq)
 have c0:w1.cell? ⟨b,0,none⟩=some (.pointer (some ⟨b,0,none⟩)):=by rw [Lib.cell_of_heap hbk1];rfl
 have c1:w1.cell? ⟨b,1,none⟩=some v:=by rw [Lib.cell_of_heap hbk1];rfl
 go_wp2_with (at_builtin;refine wpList_append_strK _ rfl _ _ (ρ.t 37) (ρ.t 9) rfl (ρ.t 5) i0 L.t37 L.t9 hi hz0 hz1 hz2 _ _ _ rfl hown1 s rfl ?c3 ?c4 ?_)
 case c3=>unfold maxLen;omega
 case c4=>omega
 intro v' w2 hown' hgrow ho2
 have hb2:w2.heap[b]?=some (.cells #[.pointer (some ⟨b,0,none⟩),v] (ρ.t 72) (0,0)):=(hgrow.block b (by rw [hc.size];exact hlt) fun e=>hne e.symm).trans hbk1
 have d0:w2.cell? ⟨b,0,none⟩=some (.pointer (some ⟨b,0,none⟩)):=by rw [Lib.cell_of_heap hb2];rfl
 have d1:w2.cell? ⟨b,1,none⟩=some v:=by rw [Lib.cell_of_heap hb2];rfl
 have f1:w2.frozen? ⟨b,1,none⟩=false:=Lib.frozen_of_heap hb2 1
 obtain ⟨ao,n',cap,rfl⟩:∃ ao n' cap,v'=.slice ao n' cap:=by
  rcases hown'.2 with ⟨hv,_⟩|⟨g,cap,cur,fz,hv,_⟩
  ·exact ⟨_,_,_,hv⟩
  ·exact ⟨_,_,_,hv⟩
 go_wp2
 go_ret2
 refine ⟨rfl,?_⟩
 exact bpost_of hlt hc hne (Nat.le_refl _) (by simpa [Lib.strCells_length] using hown') hgrow.os hgrow.tape hgrow.output hgrow.size hgrow.block ho2.1 ho2.2
set_option maxHeartbeats 2000000 in
set_option maxRecDepth 100000 in
theorem Bld_WriteByte (L:Lays.n167 P ρ) (X:Builder.Extra P ρ) {b:Nat} {x v:Value} {bs:List Value} (c:Int) {w:World} (hbk:w.heap[b]?=some (.cells #[x,v] (ρ.t 72) (0,0))) (hx:x=.pointer none∨x=.pointer (some ⟨b,0,none⟩))
  (hown:w.ownsRowF 0 (ρ.t 5) 1 v bs.length bs) (hne:v.ownBlock≠some b) (hlen:bs.length+1≤140737488355328) :
  Calls P (ρ.f 167) #[.pointer (some ⟨b,0,none⟩),.int .u8 c] w fun e w'=>e=.returned .nilIface∧BPost (ρ.t 72) (ρ.t 5) b v (bs++[.int .u8 c]) w w':=by
 have hlt:b<w.heap.size:=(Array.getElem?_eq_some_iff.1 hbk).1
 obtain ⟨i0,hi,hz0,hz1,hz2⟩:=info_parts X.infoByte
 have mixed:=L.mixed
 have t72:=L.t72;have a72:=L.a72;have z72:=L.z72;have v72:=L.v72;have u72:=run_underlying L.t72
 have t70:=L.t70;have a70:=L.a70;have z70:=L.z70;have v70:=L.v70;have u70:=run_underlying L.t70
 have t5:=L.t5;have a5:=L.a5;have z5:=L.z5;have v5:=L.v5;have u5:=run_underlying L.t5
 have t37:=L.t37;have a37:=L.a37;have z37:=L.z37;have v37:=L.v37;have u37:=run_underlying L.t37
 have t9:=L.t9;have a9:=L.a9;have z9:=L.z9;have v9:=L.v9;have u9:=run_underlying L.t9
 have t4:=L.t4;have a4:=L.a4;have z4:=L.z4;have v4:=L.v4;have u4:=run_underlying L.t4
 have t164:=L.t164;have a164:=L.a164;have z164:=L.z164;have v164:=L.v164;have u164:=run_underlying L.t164
 have e240:∀ args w,(callFunc (ρ.f 240) args).run P w=.ok (.enter (ρ.f 240) args) w:=enters_of L.f240 (by kernel_rfl) rfl
 go_enter L.f167,Body.n167_ntmps ρ
 go_wp2_with (go_at_fn (ρ.f 240);refine (Bld_copyCheck { L with } X.toX72 hbk hx).mono ?_)
 rintro e w1 ⟨rfl,hc⟩
 have hbk1:=hc.obj
 have hown1:w1.ownsRowF 0 (ρ.t 5) 1 v bs.length bs:=ownsF_of hown fun q hq=>hc.block q fun e=>hne (e ▸ hq)
 have c0:w1.cell? ⟨b,0,none⟩=some (.pointer (some ⟨b,0,none⟩)):=by rw [Lib.cell_of_heap hbk1];rfl
 have c1:w1.cell? ⟨b,1,none⟩=some v:=by rw [Lib.cell_of_heap hbk1];rfl
 go_wp2_with (at_builtin;refine wpList_append_byteK _ rfl _ _ (ρ.t 37) rfl (ρ.t 5) i0 L.t37 hi hz0 hz1 hz2 _ _ _ rfl (ownsF_of hown1 fun q hq=>heap_alloc_lt w1 _ (ownsF_block hown1 hq).2) ⟨w1.heap.size,0,none⟩ 1 (.int .u8 c) rfl ?c1 rfl ?c3 ?c4 ?_)
 case c1=>simp
 case c3=>unfold maxLen;omega
 case c4=>omega
 intro v' w2 hown' hgrow ho2
 have hlt1:b<w1.heap.size:=by rw [hc.size];exact hlt
 have hsz:w1.heap.size≤w2.heap.size:=Nat.le_trans (by simp) hgrow.size
 have hbl:∀ k,k<w1.heap.size→some k≠v.ownBlock→w2.heap[k]?=w1.heap[k]?:=fun k hk hkv=>(hgrow.block k (by simp;omega) hkv).trans (heap_alloc_lt w1 _ hk)
 have hb2:w2.heap[b]?=some (.cells #[.pointer (some ⟨b,0,none⟩),v] (ρ.t 72) (0,0)):=(hbl b hlt1 fun e=>hne e.symm).trans hbk1
 have d0:w2.cell? ⟨b,0,none⟩=some (.pointer (some ⟨b,0,none⟩)):=by rw [Lib.cell_of_heap hb2];rfl
 have d1:w2.cell? ⟨b,1,none⟩=some v:=by rw [Lib.cell_of_heap hb2];rfl
 have f1:w2.frozen? ⟨b,1,none⟩=false:=Lib.frozen_of_heap hb2 1
 obtain ⟨g,cap,rfl⟩:∃ g cap,v'=.slice (some ⟨g,0,none⟩) (bs.length+1) cap:=by
  rcases hown'.2 with ⟨_,h0⟩|⟨g,cap,cur,fz,hv,_⟩
  ·omega
  ·exact ⟨g,cap,hv⟩
 go_wp2
 go_ret
 refine ⟨rfl,?_⟩
 refine bpost_of hlt hc hne (Nat.le_refl _) (by simpa using hown') hgrow.os hgrow.tape hgrow.output hsz hbl (fun q hq=>(ho2.1 q hq).imp id fun h=>Nat.le_trans (by simp) h) fun q cc t f hq hcc=>?_
 exact ho2.2 q cc t f hq ((heap_alloc_lt w1 _ (ownsF_block hown1 hq).2).trans hcc)
set_option maxHeartbeats 2000000 in
set_option maxRecDepth 100000 in
theorem Bld_String (L:Lays.n169 P ρ) (X:Builder.Extra P ρ) {b:Nat} {x v:Value} {l:List UInt8} {w:World} (hbk:w.heap[b]?=some (.cells #[x,v] (ρ.t 72) (0,0)))
  (hown:w.ownsRowF 0 (ρ.t 5) 1 v l.length (Lib.byteCells l)) (hnil:l=[]→v=.slice none 0 0) :
  Calls P (ρ.f 169) #[.pointer (some ⟨b,0,none⟩)] w fun e w'=>e=.returned (.string ⟨l.toArray⟩)∧(w'=w.drew∨∃ g,v.ownBlock=some g∧w'=w.drew.freeze ⟨g,0,none⟩ l.length):=by
 have mixed:=L.mixed
 have t72:=L.t72;have a72:=L.a72;have z72:=L.z72;have v72:=L.v72;have u72:=run_underlying L.t72
 have t70:=L.t70;have a70:=L.a70;have z70:=L.z70;have v70:=L.v70;have u70:=run_underlying L.t70
 have t37:=L.t37;have a37:=L.a37;have z37:=L.z37;have v37:=L.v37;have u37:=run_underlying L.t37
 have t127:=L.t127;have a127:=L.a127;have z127:=L.z127;have v127:=L.v127;have u127:=run_underlying L.t127
 have t3:=L.t3;have a3:=L.a3;have z3:=L.z3;have v3:=L.v3;have u3:=run_underlying L.t3
 have t9:=L.t9;have a9:=L.a9;have z9:=L.z9;have v9:=L.v9;have u9:=run_underlying L.t9
 have t5:=X.t5;have a5:=X.a5;have z5:=X.z5;have v5:=X.v5;have u5:=run_underlying X.t5
 by_cases h0:l=[]
 ·subst h0
  have hv:=hnil rfl
  subst hv
  have hUS:=Any.unsafeString_none L X
  have c1:w.drew.cell? ⟨b,1,none⟩=some (.slice none 0 0):=by
   have:w.drew.heap[b]?=some (.cells #[x,.slice none 0 0] (ρ.t 72) (0,0)):=hbk
   rw [Lib.cell_of_heap this];rfl
  have hSD:(Builtin.unsafeSliceData_ #[(ρ.t 37)] (ρ.t 127) #[.slice none 0 0]).run P w.drew=.ok (.pointer none) w.drew:=rfl
  go_enter L.f169,Body.n169_ntmps ρ
  go_wp2
  go_region_o
  all_goals (go_wp2;go_ret;exact ⟨rfl,.inl rfl⟩)
 ·have hl0:l.length≠0:=by simpa using h0
  obtain ⟨g,cap,cur,fz,rfl,hbg,hg,hfz,hnc,hcm,hcs,htake⟩:∃ g cap cur fz,v=.slice (some ⟨g,0,none⟩) l.length cap∧0≤g∧w.heap[g]?=some (.cells cur (ρ.t 5) fz)∧fz.2≤l.length*1∧l.length≤cap∧cap≤maxLen∧cur.size=cap*1∧cur.toList.take (l.length*1)=Lib.byteCells l:=by
   rcases hown.2 with ⟨_,hz⟩|⟨g,cap,cur,fz,hv,r⟩
   ·exact absurd hz hl0
   ·exact ⟨g,cap,cur,fz,hv,r⟩
  have c1:w.drew.cell? ⟨b,1,none⟩=some (.slice (some ⟨g,0,none⟩) l.length cap):=by
   have:w.drew.heap[b]?=some (.cells #[x,.slice (some ⟨g,0,none⟩) l.length cap] (ρ.t 72) (0,0)):=hbk
   rw [Lib.cell_of_heap this];rfl
  have hSD:(Builtin.unsafeSliceData_ #[(ρ.t 37)] (ρ.t 127) #[.slice (some ⟨g,0,none⟩) l.length cap]).run P w.drew=.ok (.pointer (some ⟨g,0,none⟩)) w.drew:=
   Lib.run_unsafeSliceData_row _ _ _ _ _ _ (by omega)
  have hUS:(Builtin.unsafeString_ #[(ρ.t 127),(ρ.t 3)] (ρ.t 9) #[.pointer (some ⟨g,0,none⟩),.int .i64 l.length]).run P w.drew=.ok (.string ⟨l.toArray⟩) (w.drew.freeze ⟨g,0,none⟩ l.length):=by
   refine Lib.run_unsafeString_row w.drew (ρ.t 127) (ρ.t 3) (ρ.t 9) (ρ.t 5) L.t127 X.cellsByte g cur.size (by have hg':w.drew.heap[g]?=some (.cells cur (ρ.t 5) fz):=hg;simp [World.shape?,hg']) l h0 (by omega) (by unfold maxLen at hcm;omega) ?_
   intro j x hx
   have:=hown.cells (g:=g) rfl j (.int .u8 x.toNat) (by simp [Lib.byteCells,hx])
   exact this
  go_enter L.f169,Body.n169_ntmps ρ
  go_wp2
  go_region_o
  all_goals (go_wp2;go_ret;exact ⟨rfl,.inr ⟨g,rfl,rfl⟩⟩)
end
end Go.Abs
/-
 The abstract layer,part Z8: strings.Builder's methods as contracts over an own object '.bld'.
-/
namespace Go.Abs
open Go Go.RowKit
theorem bld_step {X:Nat→Prop} {g:Gh} {h:Heap} {w w':World} {k b:Nat} {T E:TypeId} {s s':List UInt8} {v x:Value} (hc:CW X g ((k,.bld T E s)::h) w) (h1:g.pl k=some ⟨b,0,none⟩) (h2:g.ow b=some (k,0))
  (h3:w.heap[b]?=some (.cells #[x,v] T (0,0))) (h6:v.ownBlock≠some b) (h7:∀ q,v.ownBlock=some q→g.ow q=some (k,0)) (hp:BPost T E b v (Lib.byteCells s') w w') (hd:w.drawn≤w'.drawn) (hn:s'≠[]) :
  ∃ g',CW X g' ((k,.bld T E s')::h) w'∧Step X g ((k,.bld T E s)::h) w g' ((k,.bld T E s')::h) w':=by
 obtain ⟨v',e1,e2,e3,e4,e5⟩:=hp.obj
 have hkm:k∈keys ((k,Ob.bld T E s)::h):=by simp [keys]
 have hkX:¬ X k:=hc.sep k hkm
 have hkh:k ∉ keys h:=by have:=hc.nodup;simp [keys] at this ⊢;exact this.1
 have hold:∀ b' k' s0,g.ow b'=some (k',s0)→k'≠k→b'<w.heap.size∧b'≠b∧v.ownBlock≠some b'∧v'.ownBlock≠some b':=by
  intro b' k' s0 ho hk
  have hlt:=hc.own _ _ _ ho
  have hv:v.ownBlock≠some b':=fun e=>hk (by have:=h7 b' e;rw [ho] at this;cases this;rfl)
  refine ⟨hlt,fun e=>hk (by subst e;rw [ho] at h2;cases h2;rfl),hv,fun e=>?_⟩
  rcases e4 b' e with h|h
  ·exact hv h
  ·omega
 let g':Gh:=⟨g.pl,fun q=>if v'.ownBlock=some q then some (k,0) else g.ow q⟩
 have hg1:∀ q,v'.ownBlock=some q→g'.ow q=some (k,0):=fun q hq=>if_pos hq
 have hg2:∀ q,v'.ownBlock≠some q→g'.ow q=g.ow q:=fun q hq=>if_neg hq
 have hgk:∀ q k' s0,g'.ow q=some (k',s0)→k'≠k→g.ow q=some (k',s0):=by
  intro q k' s0 ho hk
  by_cases hq:v'.ownBlock=some q
  ·rw [hg1 q hq] at ho;cases ho;exact absurd rfl hk
  ·rw [hg2 q hq] at ho;exact ho
 have hgg:∀ q k' s0,g.ow q=some (k',s0)→k'≠k→g'.ow q=some (k',s0):=fun q k' s0 ho hk=>by
  rw [hg2 q (hold q k' s0 ho hk).2.2.2];exact ho
 have hks:keys ((k,Ob.bld T E s')::h)=keys ((k,Ob.bld T E s)::h):=rfl
 have hst:Step X g ((k,.bld T E s)::h) w g' ((k,.bld T E s')::h) w':=by
  refine ⟨hp.os,⟨hp.tape,hd⟩,hp.output,hp.size,fun _ _ e=>e,fun b' k' s0 ho hx=>hgg b' k' s0 ho fun e=>hkX (e ▸ hx),fun b' k' s0 ho hx=>hgk b' k' s0 ho fun e=>hkX (e ▸ hx),fun _ _ e=>e,?_,?_,?_⟩
  ·intro b' hlt hno
   have hb:b'≠b:=fun e=>hno k 0 (e ▸ h2) hkm
   have hv:v.ownBlock≠some b':=fun e=>hno k 0 (h7 b' e) hkm
   refine ⟨hp.block b' hlt hb fun e=>hv e.symm,fun k' s0 ho hk'=>?_⟩
   by_cases hk:k'=k
   ·subst hk
    by_cases hq:v'.ownBlock=some b'
    ·rcases e4 b' hq with h|h
     ·exact hv h
     ·omega
    ·rw [hg2 b' hq] at ho
     exact hno _ _ ho hkm
   ·exact hno k' s0 (hgk _ _ _ ho hk) (hks ▸ hk')
  ·intro b' k' s0 ho hk' cc t f hcc
   by_cases hb:b'=b
   ·subst hb
    rw [h2] at ho;cases ho
    rw [h3] at hcc;cases hcc
    exact ⟨_,_,e1,rfl,fun o ho=>by omega⟩
   ·by_cases hv:v.ownBlock=some b'
    ·rw [h7 b' hv] at ho;cases ho
     obtain ⟨cc',f',a1,a2⟩:=e5 b' cc t f hv hcc
     exact ⟨cc',f',a1,a2,fun o ho=>by omega⟩
    ·exact ⟨cc,f,(hp.block b' (hc.own _ _ _ ho) hb fun e=>hv e.symm).trans hcc,rfl,fun _ _=>rfl⟩
  ·intro b' k' s0 ho hk' k2 s2 ho2 _
   by_cases hq:v'.ownBlock=some b'
   ·rw [hg1 b' hq] at ho2;cases ho2
    rcases e4 b' hq with h|h
    ·rw [h7 b' h] at ho;cases ho;exact Nat.le_refl _
    ·have:=hc.own _ _ _ ho;omega
   ·rw [hg2 b' hq,ho] at ho2;cases ho2;exact Nat.le_refl _
 refine ⟨g',⟨fun b' k' s0 ho=>?_,?_,hks ▸ hc.nodup,fun k' hk'=>hc.sep k' (hks ▸ hk'),fun k' ob hm=>?_⟩,hst⟩
 ·by_cases hq:v'.ownBlock=some b'
  ·exact (ownsF_block e2 hq).2
  ·rw [hg2 b' hq] at ho
   exact Nat.lt_of_lt_of_le (hc.own _ _ _ ho) hp.size
 ·obtain ⟨N,hN⟩:=hc.bound
  refine ⟨N,fun k' hk'=>?_⟩
  rcases hk' with h|h|h|⟨b',s0,h⟩
  ·exact hN k' (.inl h)
  ·exact hN k' (.inr (.inl (hks ▸ h)))
  ·exact hN k' (.inr (.inr (.inl h)))
  ·by_cases hk:k'=k
   ·exact hN k' (.inr (.inl (hk ▸ hkm)))
   ·exact hN k' (.inr (.inr (.inr ⟨b',s0,hgk _ _ _ h hk⟩)))
 ·rcases List.mem_cons.1 hm with e|hm
  ·cases e
   have e2':w'.ownsRowF 0 E 1 v' s'.length (Lib.byteCells s'):=by simpa [Lib.byteCells_length] using e2
   exact ⟨b,v',_,h1,by
    by_cases hq:v'.ownBlock=some b
    ·exact hg1 b hq
    ·exact (hg2 b hq).trans h2,e1,.inr rfl,e2',e3,hg1,fun h=>absurd h hn⟩
  ·have hk:k'≠k:=fun e=>hkh (e ▸ keys_of_mem hm)
   refine ObjRep.keep (c:=⟨g,live X ((k,.bld T E s)::h),w⟩) (Step.le hst) (hc.obj k' ob (List.mem_cons_of_mem _ hm)) (fun b' s0 ho=>?_) (fun e=>e)
   obtain ⟨a1,a2,a3,a4⟩:=hold b' k' s0 ho hk
   exact ⟨hp.block b' a1 a2 fun e=>a3 e.symm,hg2 b' a4⟩
structure BldLaw (P:Program) (T E:TypeId) (fs fb ft:FuncId):Prop where
 str:∀ {b:Nat} {x v:Value} {bs:List Value} (s:ByteArray) {w:World},w.heap[b]?=some (.cells #[x,v] T (0,0))→(x=.pointer none∨x=.pointer (some ⟨b,0,none⟩)) →
  w.ownsRowF 0 E 1 v bs.length bs→v.ownBlock≠some b→bs.length+s.size≤140737488355328 →
  Calls P fs #[.pointer (some ⟨b,0,none⟩),.string s] w fun e w'=>e=.returned (.tuple #[.int .i64 s.size,.nilIface])∧BPost T E b v (bs++Lib.strCells s) w w'
 byte:∀ {b:Nat} {x v:Value} {bs:List Value} (c:Int) {w:World},w.heap[b]?=some (.cells #[x,v] T (0,0))→(x=.pointer none∨x=.pointer (some ⟨b,0,none⟩)) →
  w.ownsRowF 0 E 1 v bs.length bs→v.ownBlock≠some b→bs.length+1≤140737488355328 →
  Calls P fb #[.pointer (some ⟨b,0,none⟩),.int .u8 c] w fun e w'=>e=.returned .nilIface∧BPost T E b v (bs++[.int .u8 c]) w w'
 text:∀ {b:Nat} {x v:Value} {l:List UInt8} {w:World},w.heap[b]?=some (.cells #[x,v] T (0,0))→w.ownsRowF 0 E 1 v l.length (Lib.byteCells l)→(l=[]→v=.slice none 0 0) →
  Calls P ft #[.pointer (some ⟨b,0,none⟩)] w fun e w'=>e=.returned (.string ⟨l.toArray⟩)∧(w'=w.drew∨∃ g,v.ownBlock=some g∧w'=w.drew.freeze ⟨g,0,none⟩ l.length)
theorem bld_str {P:Program} {T E:TypeId} {fs fb ft:FuncId} (hf:Callable P fs) (hB:BldLaw P T E fs fb ft) (k:Nat) (s t:List UInt8) (ht:t≠[]) (hl:s.length+t.length≤1048576) :
  ACalls P fs [.optr k 0,.str t] [(k,.bld T E s)] fun v h'=>v=.tup [.int .i64 t.length,.junk]∧h'=[(k,.bld T E (s++t))]:=by
 refine ⟨fun X g w us hc hr=>.inl ⟨hf,?_⟩⟩
 simp only [RepVs] at hr
 obtain ⟨u,r,hus,hx,u2,r2,e2,hx2,hr⟩:=hr
 subst e2 hr
 obtain ⟨b,v,x,h1,h2,h3,h4,h5,h6,h7,h8⟩:=hc.obj k _ (List.mem_cons_self ..)
 simp only at h1 h2 h3 h5 h7
 simp only [Rep] at hx hx2
 obtain ⟨p,hp,hps,rfl⟩:=hx
 rw [h1] at hp
 cases hp
 obtain ⟨bt,rfl,hbt,hlt⟩:=hx2
 have hU:us=#[.pointer (some ⟨b,0,none⟩),.string bt]:=by rw [← Array.toList_inj,hus]
 subst hU
 have hsz:bt.size=t.length:=by rw [← hbt,Array.length_toList];rfl
 have hown:w.ownsRowF 0 E 1 v (Lib.byteCells s).length (Lib.byteCells s):=by rw [Lib.byteCells_length];exact h5
 refine (calls_up (hB.str bt h3 h4 hown h6 (by rw [Lib.byteCells_length];omega)) fun e w' h=>⟨_,h.1⟩).mono ?_
 rintro e w' ⟨⟨rfl,hP⟩,hd⟩
 have he:Lib.byteCells s++Lib.strCells bt=Lib.byteCells (s++t):=by rw [Lib.strCells_eq,hbt,← Lib.byteCells_append]
 rw [he] at hP
 obtain ⟨g',c1,c2⟩:=bld_step hc h1 h2 h3 h6 h7 hP hd (by intro e;exact ht (List.append_eq_nil_iff.1 e).2)
 refine ⟨_,_,g',_,rfl,⟨rfl,rfl⟩,c1,?_,c2⟩
 simp only [Rep]
 refine ⟨_,rfl,?_⟩
 simp only [RepVs,Rep]
 have hh:IntKind.i64.has (t.length:Int):=(⟨by omega,by omega⟩:-9223372036854775808≤(t.length:Int)∧(t.length:Int)≤9223372036854775807)
 exact ⟨_,_,rfl,⟨by rw [hsz],hh⟩,_,_,rfl,rfl,rfl⟩
theorem bld_byte {P:Program} {T E:TypeId} {fs fb ft:FuncId} (hf:Callable P fb) (hB:BldLaw P T E fs fb ft) (k:Nat) (s:List UInt8) (c:UInt8) (hl:s.length+1≤1048576) :
  ACalls P fb [.optr k 0,.int .u8 c.toNat] [(k,.bld T E s)] fun v h'=>v=.junk∧h'=[(k,.bld T E (s++[c]))]:=by
 refine ⟨fun X g w us hc hr=>.inl ⟨hf,?_⟩⟩
 simp only [RepVs] at hr
 obtain ⟨u,r,hus,hx,u2,r2,e2,hx2,hr⟩:=hr
 subst e2 hr
 obtain ⟨b,v,x,h1,h2,h3,h4,h5,h6,h7,h8⟩:=hc.obj k _ (List.mem_cons_self ..)
 simp only at h1 h2 h3 h5 h7
 simp only [Rep] at hx hx2
 obtain ⟨p,hp,hps,rfl⟩:=hx
 rw [h1] at hp
 cases hp
 obtain ⟨rfl,_⟩:=hx2
 have hU:us=#[.pointer (some ⟨b,0,none⟩),.int .u8 c.toNat]:=by rw [← Array.toList_inj,hus]
 subst hU
 have hown:w.ownsRowF 0 E 1 v (Lib.byteCells s).length (Lib.byteCells s):=by rw [Lib.byteCells_length];exact h5
 refine (calls_up (hB.byte c.toNat h3 h4 hown h6 (by rw [Lib.byteCells_length];omega)) fun e w' h=>⟨_,h.1⟩).mono ?_
 rintro e w' ⟨⟨rfl,hP⟩,hd⟩
 have he:Lib.byteCells s++[.int .u8 c.toNat]=Lib.byteCells (s++[c]):=by rw [Lib.byteCells_append];rfl
 rw [he] at hP
 obtain ⟨g',c1,c2⟩:=bld_step hc h1 h2 h3 h6 h7 hP hd (by simp)
 exact ⟨_,_,g',_,rfl,⟨rfl,rfl⟩,c1,rfl,c2⟩
theorem freeze_keeps (w:World) (g n b:Nat):b≠g→(w.freeze ⟨g,0,none⟩ n).heap[b]?=w.heap[b]?:=by
 intro h
 unfold World.freeze
 split
 ·rfl
 ·simp only [Array.getElem?_modify]
  rw [if_neg (fun e=>h e.symm)]
theorem freeze_cells (w:World) (g n:Nat) {cc:Array Value} {t:TypeId} {f:Nat × Nat} (h:w.heap[g]?=some (.cells cc t f)):∃ f',(w.freeze ⟨g,0,none⟩ n).heap[g]?=some (.cells cc t f'):=by
 unfold World.freeze
 split
 ·exact ⟨f,h⟩
 ·simp only [Array.getElem?_modify,if_true,h]
  exact ⟨_,rfl⟩
theorem bld_text {P:Program} {T E:TypeId} {fs fb ft:FuncId} (hf:Callable P ft) (hB:BldLaw P T E fs fb ft) (k:Nat) (s:List UInt8) (hl:s.length≤1048576) :
  ACalls P ft [.optr k 0] [(k,.bld T E s)] fun v h'=>v=.str s∧h'=[]:=by
 refine ⟨fun X g w us hc hr=>.inl ⟨hf,?_⟩⟩
 simp only [RepVs] at hr
 obtain ⟨u,r,hus,hx,hr⟩:=hr
 subst hr
 obtain ⟨b,v,x,h1,h2,h3,h4,h5,h6,h7,h8⟩:=hc.obj k _ (List.mem_cons_self ..)
 simp only at h1 h2 h3 h5 h7
 simp only [Rep] at hx
 obtain ⟨p,hp,hps,rfl⟩:=hx
 rw [h1] at hp
 cases hp
 have hU:us=#[.pointer (some ⟨b,0,none⟩)]:=by rw [← Array.toList_inj,hus]
 subst hU
 refine (hB.text h3 h5 h8).mono ?_
 rintro e w' ⟨rfl,hw⟩
 have hkm:k∈keys [(k,Ob.bld T E s)]:=by simp [keys]
 have hg:Step X g [(k,.bld T E s)] w g [] w'∧w.heap.size≤w'.heap.size:=by
  have hfacts:w'.os=w.os∧w'.tape=w.tape∧w.drawn≤w'.drawn∧w'.output=w.output∧w.heap.size≤w'.heap.size∧(∀ b',v.ownBlock≠some b'→w'.heap[b']?=w.heap[b']?) ∧
    (∀ b' cc t f,v.ownBlock=some b'→w.heap[b']?=some (.cells cc t f)→∃ f',w'.heap[b']?=some (.cells cc t f')):=by
   rcases hw with rfl|⟨q,hq,rfl⟩
   ·exact ⟨rfl,rfl,Nat.le_succ _,rfl,Nat.le_refl _,fun _ _=>rfl,fun b' cc t f _ hcc=>⟨f,hcc⟩⟩
   ·refine ⟨?_,?_,?_,?_,?_,fun b' hb=>freeze_keeps w.drew q s.length b' fun e=>hb (e ▸ hq),fun b' cc t f hb hcc=>?_⟩
    ·unfold World.freeze;split<;>rfl
    ·unfold World.freeze;split<;>rfl
    ·unfold World.freeze;split<;>exact Nat.le_succ _
    ·unfold World.freeze;split<;>rfl
    ·unfold World.freeze;split
     ·exact Nat.le_refl _
     ·simp
    ·rw [hq] at hb;cases hb
     exact freeze_cells w.drew q s.length hcc
  obtain ⟨a1,a2,a3,a4,a5,a6,a7⟩:=hfacts
  refine ⟨⟨a1,⟨a2,a3⟩,a4,a5,fun _ _ e=>e,fun _ _ _ e _=>e,fun _ _ _ e _=>e,fun _ _ e=>e,fun b' hlt hno=>⟨a6 b' fun e=>hno k 0 (h7 b' e) hkm,fun _ _ _=>by simp [keys]⟩,?_,?_⟩,a5⟩
  ·intro b' k' s0 ho hk' cc t f hcc
   by_cases hv:v.ownBlock=some b'
   ·obtain ⟨f',hf'⟩:=a7 b' cc t f hv hcc
    exact ⟨cc,f',hf',rfl,fun _ _=>rfl⟩
   ·exact ⟨cc,f,(a6 b' hv).trans hcc,rfl,fun _ _=>rfl⟩
  ·intro b' k' s0 ho hk' k2 s2 ho2 _
   rw [ho] at ho2;cases ho2;exact Nat.le_refl _
 obtain ⟨hs,hsz⟩:=hg
 refine ⟨_,_,g,[],rfl,⟨rfl,rfl⟩,⟨fun b' k' s0 ho=>Nat.lt_of_lt_of_le (hc.own _ _ _ ho) hsz,?_,by simp [keys],by simp [keys],fun k' ob hm=>by cases hm⟩,?_,hs⟩
 ·obtain ⟨N,hN⟩:=hc.bound
  refine ⟨N,fun k' hk'=>hN k' ?_⟩
  rcases hk' with h|h|h
  ·exact .inl h
  ·simp [keys] at h
  ·exact .inr (.inr h)
 ·simp only [Rep]
  exact ⟨_,rfl,rfl,by unfold LMAX;omega⟩
end Go.Abs
/-
 The abstract layer,part Z9: a variable of the type strings.Builder as an own object.
-/
namespace Go.Abs
open Go Go.RowKit
theorem CW.newBld {X:Nat→Prop} {g0:Gh} {h:Heap} {w:World} (hc:CW X g0 h w) (T E:TypeId):∃ k g',g'.pl k=some ⟨w.heap.size,0,none⟩∧CW X g' ((k,.bld T E [])::h) (w.alloc (.cells #[.pointer none,.slice none 0 0] T)) ∧
  Step X g0 h w g' ((k,.bld T E [])::h) (w.alloc (.cells #[.pointer none,.slice none 0 0] T)):=by
 obtain ⟨k,f1,f2,st,mk⟩:=hc.newAt (.cells #[.pointer none,.slice none 0 0] T) 0
 refine ⟨k,_,by simp [Gh.set],mk (.bld T E []) ?_,st (.bld T E [])⟩
 exact ⟨w.heap.size,.slice none 0 0,.pointer none,by simp [Gh.set],by simp [Gh.set],heap_alloc_new w _,.inl rfl,⟨rfl,.inl ⟨rfl,rfl⟩⟩,by simp [Value.ownBlock],by simp [Value.ownBlock],fun _=>rfl⟩
theorem region_bld {P:Program} {c:Cfg} {F:Func} {E:En} {p:List Bool} {S:List Fr} {k id:Nat} {ops:Array Oper} {r:Regs} {h:Heap} {o:Oper} {d:Nat} {T E':TypeId} (hcat:cat F p=.region id ops false)
  (hops:ops.toList=[o]) (hop:o.op=.alloc T) (hgd:o.guard=none) (hd:o.dst=some d) (hz:∀ w,(zeroValue T).run P w=.ok (Value.agg #[Value.pointer none,Value.slice none 0 0]) w)
  (hr:∀ b,aftL (run P c F E k (.op p 1) S) E.n (some d) r (.optr b 0) ((b,.bld T E' [])::h)):Holds P E.n E.X (cat F p) (fun e r h=>run P c F E k (.ex e) S r h) r h:=by
 rw [hcat]
 refine ⟨fun g a w hc=>?_⟩
 refine wp_region ?_
 obtain ⟨kb,g',k1,k2,k3⟩:=hc.cw.newBld T E'
 obtain ⟨r',hK,hc'⟩:=setP_ok (u:=.pointer (some ⟨w.heap.size,0,none⟩)) hc k2 k3 (hr kb) (fun _=>⟨by simp,by rw [Rep];exact ⟨_,k1,rfl,rfl⟩⟩) (fun hh=>absurd (fun e he=>by cases he) hh)
 have hn:=op_ok k k 1 (Nat.le_refl _) hK
 have hops':opsAt F p=[o]:=(opsAt_eq hcat).trans hops
 rw [hops'] at hn
 have hn:normK r' (fun r''=>run P c F E k (.ex .normal) S r'' ((kb,.bld T E' [])::h)) c.keep:=hn
 obtain ⟨r'',hQ,hl⟩:=normK_ok hn
 have hos:ops=#[o]:=by rw [← Array.toList_inj,hops]
 subst hos
 have key:wpOps P [o].toArray (fun e a' w'=>∃ ex g' r' h',e=Ex.toExit ex∧run P c F E k (.ex ex) S r' h'∧Conc E.n E.X g' r' h' a' w'∧Step E.X g h w g' h' w') (List.range' 0 1) a w:=by
  have hio:[o].toArray[0]?=some o:=rfl
  simp only [List.range'_succ,wpOps,hio]
  rw [if_pos (wanted_none hgd)]
  left
  refine wp_value (u:=.pointer (some ⟨w.heap.size,0,none⟩)) (w':=w.alloc (.cells #[.pointer none,.slice none 0 0] T)) ?_ ?_
  ·simp [execOp,hop,Instr.alloc,newVar,newRow,hz w,Value.cells]
  ·rw [hd]
   exact ⟨.normal,g',r'',_,rfl,hQ,hc'.less hl,k3⟩
 simpa [List.range_eq_range'] using key
end Go.Abs
/-
 DERIVED: THE SHELF's CONTRACTS AT THIS DUMP,IN PLAIN WORDS (tools/lay-plain.mjs out of 'YtmkmflcemegikaaGreatDoorSoA.lean',which tools/lay-shelf.mjs wrote): THE SAME DECLARATIONS UNDER THE SAME NAMES: 'import','namespace','open','def','theorem' AND NOTHING ELSE: no command of the shelf's: FOR A HAND-IN. Each laying: the table of numbers ('.._ren') and one theorem,a field a fact of the dump's own or the kernel's comparison;each contract: ONE APPLICATION.
-/
namespace Go.Proofs
open Go.Shelf
def Tryz.sortUse_ren:Go.Shelf.Ren:=⟨fun|6=>106|15=>112|14=>121|28=>136|29=>100|20=>138|21=>139|22=>140|23=>141|24=>142|25=>143|26=>144|27=>145|46=>153|47=>149|48=>150|49=>154|50=>155|57=>157|n=>n,fun|22=>86|24=>155|25=>182|3=>3|39=>176|0=>0|53=>174|55=>136|4=>4|46=>202|45=>201|50=>206|5=>5|9=>9|66=>215|70=>219|76=>223|77=>224|n=>n,fun|n=>n⟩
theorem Tryz.sortUse:Go.Proofs.SlLaysF0.n6 Tryz.prog Tryz.sortUse_ren:={
 mixed:=by kernel_rfl
 f6:=⟨Tryz.f106.name,by decide,Tryz.func106.trans (congrArg some (by kernel_rfl))⟩
 f14:=⟨Tryz.f121.name,by decide,Tryz.func121.trans (congrArg some (by kernel_rfl))⟩
 f15:=Tryz.func112.trans (congrArg some (by kernel_rfl))
 f20:=⟨Tryz.f138.name,by decide,Tryz.func138.trans (congrArg some (by kernel_rfl))⟩
 f21:=⟨Tryz.f139.name,by decide,Tryz.func139.trans (congrArg some (by kernel_rfl))⟩
 f22:=⟨Tryz.f140.name,by decide,Tryz.func140.trans (congrArg some (by kernel_rfl))⟩
 f23:=⟨Tryz.f141.name,by decide,Tryz.func141.trans (congrArg some (by kernel_rfl))⟩
 f24:=⟨Tryz.f142.name,by decide,Tryz.func142.trans (congrArg some (by kernel_rfl))⟩
 f25:=⟨Tryz.f143.name,by decide,Tryz.func143.trans (congrArg some (by kernel_rfl))⟩
 f26:=⟨Tryz.f144.name,by decide,Tryz.func144.trans (congrArg some (by kernel_rfl))⟩
 f27:=⟨Tryz.f145.name,by decide,Tryz.func145.trans (congrArg some (by kernel_rfl))⟩
 f28:=Tryz.func136.trans (congrArg some (by kernel_rfl))
 f29:=Tryz.func100.trans (congrArg some (by kernel_rfl))
 f46:=⟨Tryz.f153.name,by decide,Tryz.func153.trans (congrArg some (by kernel_rfl))⟩
 f47:=Tryz.func149.trans (congrArg some (by kernel_rfl))
 f48:=Tryz.func150.trans (congrArg some (by kernel_rfl))
 f49:=⟨Tryz.f154.name,by decide,Tryz.func154.trans (congrArg some (by kernel_rfl))⟩
 f50:=⟨Tryz.f155.name,by decide,Tryz.func155.trans (congrArg some (by kernel_rfl))⟩
 f57:=⟨Tryz.f157.name,by decide,Tryz.func157.trans (congrArg some (by kernel_rfl))⟩
 t0:=Tryz.underlying0
 a0:=Tryz.isAgg0
 z0:=Tryz.sizeOf0
 v0:=Tryz.zeroValue0
 t3:=Tryz.underlying3
 a3:=Tryz.isAgg3
 z3:=Tryz.sizeOf3
 v3:=Tryz.zeroValue3
 t4:=Tryz.underlying4
 a4:=Tryz.isAgg4
 z4:=Tryz.sizeOf4
 v4:=Tryz.zeroValue4
 t5:=Tryz.underlying5
 a5:=Tryz.isAgg5
 z5:=Tryz.sizeOf5
 v5:=Tryz.zeroValue5
 t9:=Tryz.underlying9
 a9:=Tryz.isAgg9
 z9:=Tryz.sizeOf9
 v9:=Tryz.zeroValue9
 t22:=Tryz.underlying86
 a22:=Tryz.isAgg86
 z22:=Tryz.sizeOf86
 v22:=Tryz.zeroValue86
 t25:=Tryz.underlying182
 a25:=Tryz.isAgg182
 z25:=Tryz.sizeOf182
 v25:=Tryz.zeroValue182
 t39:=Tryz.underlying176
 a39:=Tryz.isAgg176
 z39:=Tryz.sizeOf176
 v39:=Tryz.zeroValue176
 t45:=Tryz.underlying201
 a45:=Tryz.isAgg201
 z45:=Tryz.sizeOf201
 v45:=Tryz.zeroValue201
 t46:=Tryz.underlying202
 a46:=Tryz.isAgg202
 z46:=Tryz.sizeOf202
 v46:=Tryz.zeroValue202
 t50:=Tryz.underlying206
 a50:=Tryz.isAgg206
 z50:=Tryz.sizeOf206
 v50:=Tryz.zeroValue206
 t53:=Tryz.underlying174
 a53:=Tryz.isAgg174
 z53:=Tryz.sizeOf174
 v53:=Tryz.zeroValue174
 t55:=Tryz.underlying136
 a55:=Tryz.isAgg136
 z55:=Tryz.sizeOf136
 v55:=Tryz.zeroValue136
 t66:=Tryz.underlying215
 a66:=Tryz.isAgg215
 z66:=Tryz.sizeOf215
 v66:=Tryz.zeroValue215
 t70:=Tryz.underlying219
 a70:=Tryz.isAgg219
 z70:=Tryz.sizeOf219
 v70:=Tryz.zeroValue219
 t76:=Tryz.underlying223
 a76:=Tryz.isAgg223
 z76:=Tryz.sizeOf223
 v76:=Tryz.zeroValue223
 t77:=Tryz.underlying224
 a77:=Tryz.isAgg224
 z77:=Tryz.sizeOf224
 v77:=Tryz.zeroValue224 }
def Tryz.sortEdge_ren:Go.Shelf.Ren:=⟨fun|6=>94|15=>112|14=>111|28=>136|29=>100|20=>128|21=>129|22=>130|23=>131|24=>132|25=>133|26=>134|27=>135|46=>148|47=>149|48=>150|49=>151|50=>152|57=>156|n=>n,fun|22=>80|24=>90|25=>166|3=>3|39=>176|0=>0|53=>174|55=>136|4=>4|46=>202|45=>201|50=>206|5=>5|9=>9|66=>215|70=>219|76=>223|77=>224|n=>n,fun|n=>n⟩
theorem Tryz.sortEdge:Go.Proofs.SlLaysF0.n6 Tryz.prog Tryz.sortEdge_ren:={
 mixed:=by kernel_rfl
 f6:=⟨Tryz.f94.name,by decide,Tryz.func94.trans (congrArg some (by kernel_rfl))⟩
 f14:=⟨Tryz.f111.name,by decide,Tryz.func111.trans (congrArg some (by kernel_rfl))⟩
 f15:=Tryz.func112.trans (congrArg some (by kernel_rfl))
 f20:=⟨Tryz.f128.name,by decide,Tryz.func128.trans (congrArg some (by kernel_rfl))⟩
 f21:=⟨Tryz.f129.name,by decide,Tryz.func129.trans (congrArg some (by kernel_rfl))⟩
 f22:=⟨Tryz.f130.name,by decide,Tryz.func130.trans (congrArg some (by kernel_rfl))⟩
 f23:=⟨Tryz.f131.name,by decide,Tryz.func131.trans (congrArg some (by kernel_rfl))⟩
 f24:=⟨Tryz.f132.name,by decide,Tryz.func132.trans (congrArg some (by kernel_rfl))⟩
 f25:=⟨Tryz.f133.name,by decide,Tryz.func133.trans (congrArg some (by kernel_rfl))⟩
 f26:=⟨Tryz.f134.name,by decide,Tryz.func134.trans (congrArg some (by kernel_rfl))⟩
 f27:=⟨Tryz.f135.name,by decide,Tryz.func135.trans (congrArg some (by kernel_rfl))⟩
 f28:=Tryz.func136.trans (congrArg some (by kernel_rfl))
 f29:=Tryz.func100.trans (congrArg some (by kernel_rfl))
 f46:=⟨Tryz.f148.name,by decide,Tryz.func148.trans (congrArg some (by kernel_rfl))⟩
 f47:=Tryz.func149.trans (congrArg some (by kernel_rfl))
 f48:=Tryz.func150.trans (congrArg some (by kernel_rfl))
 f49:=⟨Tryz.f151.name,by decide,Tryz.func151.trans (congrArg some (by kernel_rfl))⟩
 f50:=⟨Tryz.f152.name,by decide,Tryz.func152.trans (congrArg some (by kernel_rfl))⟩
 f57:=⟨Tryz.f156.name,by decide,Tryz.func156.trans (congrArg some (by kernel_rfl))⟩
 t0:=Tryz.underlying0
 a0:=Tryz.isAgg0
 z0:=Tryz.sizeOf0
 v0:=Tryz.zeroValue0
 t3:=Tryz.underlying3
 a3:=Tryz.isAgg3
 z3:=Tryz.sizeOf3
 v3:=Tryz.zeroValue3
 t4:=Tryz.underlying4
 a4:=Tryz.isAgg4
 z4:=Tryz.sizeOf4
 v4:=Tryz.zeroValue4
 t5:=Tryz.underlying5
 a5:=Tryz.isAgg5
 z5:=Tryz.sizeOf5
 v5:=Tryz.zeroValue5
 t9:=Tryz.underlying9
 a9:=Tryz.isAgg9
 z9:=Tryz.sizeOf9
 v9:=Tryz.zeroValue9
 t22:=Tryz.underlying80
 a22:=Tryz.isAgg80
 z22:=Tryz.sizeOf80
 v22:=Tryz.zeroValue80
 t25:=Tryz.underlying166
 a25:=Tryz.isAgg166
 z25:=Tryz.sizeOf166
 v25:=Tryz.zeroValue166
 t39:=Tryz.underlying176
 a39:=Tryz.isAgg176
 z39:=Tryz.sizeOf176
 v39:=Tryz.zeroValue176
 t45:=Tryz.underlying201
 a45:=Tryz.isAgg201
 z45:=Tryz.sizeOf201
 v45:=Tryz.zeroValue201
 t46:=Tryz.underlying202
 a46:=Tryz.isAgg202
 z46:=Tryz.sizeOf202
 v46:=Tryz.zeroValue202
 t50:=Tryz.underlying206
 a50:=Tryz.isAgg206
 z50:=Tryz.sizeOf206
 v50:=Tryz.zeroValue206
 t53:=Tryz.underlying174
 a53:=Tryz.isAgg174
 z53:=Tryz.sizeOf174
 v53:=Tryz.zeroValue174
 t55:=Tryz.underlying136
 a55:=Tryz.isAgg136
 z55:=Tryz.sizeOf136
 v55:=Tryz.zeroValue136
 t66:=Tryz.underlying215
 a66:=Tryz.isAgg215
 z66:=Tryz.sizeOf215
 v66:=Tryz.zeroValue215
 t70:=Tryz.underlying219
 a70:=Tryz.isAgg219
 z70:=Tryz.sizeOf219
 v70:=Tryz.zeroValue219
 t76:=Tryz.underlying223
 a76:=Tryz.isAgg223
 z76:=Tryz.sizeOf223
 v76:=Tryz.zeroValue223
 t77:=Tryz.underlying224
 a77:=Tryz.isAgg224
 z77:=Tryz.sizeOf224
 v77:=Tryz.zeroValue224 }
end Go.Proofs
/-
 DERIVED: THE SHELF's CONTRACTS AT THIS DUMP,IN PLAIN WORDS (tools/lay-plain.mjs out of 'YtmkmflcemegikaaGreatDoorSkA.lean',which tools/lay-shelf.mjs wrote): THE SAME DECLARATIONS UNDER THE SAME NAMES: 'import','namespace','open','def','theorem' AND NOTHING ELSE: no command of the shelf's: FOR A HAND-IN. Each laying: the table of numbers ('.._ren') and one theorem,a field a fact of the dump's own or the kernel's comparison;each contract: ONE APPLICATION.
-/
namespace Go.Proofs
open Go.Shelf
def Tryz.lays171_ren:Go.Shelf.Ren:=⟨fun|171=>16|243=>33|246=>54|283=>74|284=>75|285=>76|286=>77|129=>100|317=>99|318=>101|319=>102|320=>103|337=>117|338=>118|n=>n,fun|3=>3|9=>9|2=>2|4=>4|171=>135|0=>0|53=>136|37=>51|5=>5|173=>139|212=>173|51=>174|20=>20|213=>175|46=>176|232=>208|233=>209|n=>n,fun|17=>0|18=>1|19=>2|n=>n⟩
theorem Tryz.lays171:Go.Proofs.Lays.n171 Tryz.prog Tryz.lays171_ren:={
 mixed:=by kernel_rfl
 f129:=Tryz.func100.trans (congrArg some (by kernel_rfl))
 f171:=Tryz.func16.trans (congrArg some (by kernel_rfl))
 f243:=Tryz.func33.trans (congrArg some (by kernel_rfl))
 f246:=Tryz.func54.trans (congrArg some (by kernel_rfl))
 f283:=Tryz.func74.trans (congrArg some (by kernel_rfl))
 f284:=Tryz.func75.trans (congrArg some (by kernel_rfl))
 f285:=Tryz.func76.trans (congrArg some (by kernel_rfl))
 f286:=Tryz.func77.trans (congrArg some (by kernel_rfl))
 f317:=Tryz.func99.trans (congrArg some (by kernel_rfl))
 f318:=Tryz.func101.trans (congrArg some (by kernel_rfl))
 f319:=Tryz.func102.trans (congrArg some (by kernel_rfl))
 f320:=Tryz.func103.trans (congrArg some (by kernel_rfl))
 f337:=Tryz.func117.trans (congrArg some (by kernel_rfl))
 f338:=Tryz.func118.trans (congrArg some (by kernel_rfl))
 t0:=Tryz.underlying0
 a0:=Tryz.isAgg0
 z0:=Tryz.sizeOf0
 v0:=Tryz.zeroValue0
 t2:=Tryz.underlying2
 a2:=Tryz.isAgg2
 z2:=Tryz.sizeOf2
 v2:=Tryz.zeroValue2
 t3:=Tryz.underlying3
 a3:=Tryz.isAgg3
 z3:=Tryz.sizeOf3
 v3:=Tryz.zeroValue3
 t4:=Tryz.underlying4
 a4:=Tryz.isAgg4
 z4:=Tryz.sizeOf4
 v4:=Tryz.zeroValue4
 t5:=Tryz.underlying5
 a5:=Tryz.isAgg5
 z5:=Tryz.sizeOf5
 v5:=Tryz.zeroValue5
 t9:=Tryz.underlying9
 a9:=Tryz.isAgg9
 z9:=Tryz.sizeOf9
 v9:=Tryz.zeroValue9
 t20:=Tryz.underlying20
 a20:=Tryz.isAgg20
 z20:=Tryz.sizeOf20
 v20:=Tryz.zeroValue20
 t37:=Tryz.underlying51
 a37:=Tryz.isAgg51
 z37:=Tryz.sizeOf51
 v37:=Tryz.zeroValue51
 t46:=Tryz.underlying176
 a46:=Tryz.isAgg176
 z46:=Tryz.sizeOf176
 v46:=Tryz.zeroValue176
 t51:=Tryz.underlying174
 a51:=Tryz.isAgg174
 z51:=Tryz.sizeOf174
 v51:=Tryz.zeroValue174
 t53:=Tryz.underlying136
 a53:=Tryz.isAgg136
 z53:=Tryz.sizeOf136
 v53:=Tryz.zeroValue136
 t171:=Tryz.underlying135
 a171:=Tryz.isAgg135
 z171:=Tryz.sizeOf135
 v171:=Tryz.zeroValue135
 t173:=Tryz.underlying139
 a173:=Tryz.isAgg139
 z173:=Tryz.sizeOf139
 v173:=Tryz.zeroValue139
 t212:=Tryz.underlying173
 a212:=Tryz.isAgg173
 z212:=Tryz.sizeOf173
 v212:=Tryz.zeroValue173
 t213:=Tryz.underlying175
 a213:=Tryz.isAgg175
 z213:=Tryz.sizeOf175
 t232:=Tryz.underlying208
 a232:=Tryz.isAgg208
 z232:=Tryz.sizeOf208
 v232:=Tryz.zeroValue208
 t233:=Tryz.underlying209
 a233:=Tryz.isAgg209
 z233:=Tryz.sizeOf209
 v233:=Tryz.zeroValue209
 g17:=by kernel_rfl
 g18:=by kernel_rfl
 g19:=by kernel_rfl }
def Tryz.bldRen:Go.Shelf.Ren:=⟨fun|166=>14|167=>15|169=>17|240=>32|276=>53|n=>n,fun|0=>0|3=>3|4=>4|5=>5|9=>9|20=>20|37=>51|70=>50|72=>53|75=>59|80=>64|127=>76|164=>115|n=>n,fun|n=>n⟩
theorem Tryz.bld166:Go.Proofs.Lays.n166 Tryz.prog Tryz.bldRen:={
 mixed:=by kernel_rfl
 f166:=Tryz.func14.trans (congrArg some (by kernel_rfl))
 f240:=Tryz.func32.trans (congrArg some (by kernel_rfl))
 f276:=Tryz.func53.trans (congrArg some (by kernel_rfl))
 t0:=Tryz.underlying0
 a0:=Tryz.isAgg0
 z0:=Tryz.sizeOf0
 v0:=Tryz.zeroValue0
 t3:=Tryz.underlying3
 a3:=Tryz.isAgg3
 z3:=Tryz.sizeOf3
 v3:=Tryz.zeroValue3
 t4:=Tryz.underlying4
 a4:=Tryz.isAgg4
 z4:=Tryz.sizeOf4
 v4:=Tryz.zeroValue4
 t9:=Tryz.underlying9
 a9:=Tryz.isAgg9
 z9:=Tryz.sizeOf9
 v9:=Tryz.zeroValue9
 t20:=Tryz.underlying20
 a20:=Tryz.isAgg20
 z20:=Tryz.sizeOf20
 v20:=Tryz.zeroValue20
 t37:=Tryz.underlying51
 a37:=Tryz.isAgg51
 z37:=Tryz.sizeOf51
 v37:=Tryz.zeroValue51
 t70:=Tryz.underlying50
 a70:=Tryz.isAgg50
 z70:=Tryz.sizeOf50
 v70:=Tryz.zeroValue50
 t72:=Tryz.underlying53
 a72:=Tryz.isAgg53
 z72:=Tryz.sizeOf53
 v72:=Tryz.zeroValue53
 t75:=Tryz.underlying59
 a75:=Tryz.isAgg59
 z75:=Tryz.sizeOf59
 v75:=Tryz.zeroValue59
 t164:=Tryz.underlying115
 a164:=Tryz.isAgg115
 z164:=Tryz.sizeOf115
 v164:=Tryz.zeroValue115 }
theorem Tryz.bld167:Go.Proofs.Lays.n167 Tryz.prog Tryz.bldRen:={
 mixed:=by kernel_rfl
 f167:=Tryz.func15.trans (congrArg some (by kernel_rfl))
 f240:=Tryz.func32.trans (congrArg some (by kernel_rfl))
 f276:=Tryz.func53.trans (congrArg some (by kernel_rfl))
 t0:=Tryz.underlying0
 a0:=Tryz.isAgg0
 z0:=Tryz.sizeOf0
 v0:=Tryz.zeroValue0
 t4:=Tryz.underlying4
 a4:=Tryz.isAgg4
 z4:=Tryz.sizeOf4
 v4:=Tryz.zeroValue4
 t5:=Tryz.underlying5
 a5:=Tryz.isAgg5
 z5:=Tryz.sizeOf5
 v5:=Tryz.zeroValue5
 t9:=Tryz.underlying9
 a9:=Tryz.isAgg9
 z9:=Tryz.sizeOf9
 v9:=Tryz.zeroValue9
 t20:=Tryz.underlying20
 a20:=Tryz.isAgg20
 z20:=Tryz.sizeOf20
 v20:=Tryz.zeroValue20
 t37:=Tryz.underlying51
 a37:=Tryz.isAgg51
 z37:=Tryz.sizeOf51
 v37:=Tryz.zeroValue51
 t70:=Tryz.underlying50
 a70:=Tryz.isAgg50
 z70:=Tryz.sizeOf50
 v70:=Tryz.zeroValue50
 t72:=Tryz.underlying53
 a72:=Tryz.isAgg53
 z72:=Tryz.sizeOf53
 v72:=Tryz.zeroValue53
 t75:=Tryz.underlying59
 a75:=Tryz.isAgg59
 z75:=Tryz.sizeOf59
 v75:=Tryz.zeroValue59
 t164:=Tryz.underlying115
 a164:=Tryz.isAgg115
 z164:=Tryz.sizeOf115
 v164:=Tryz.zeroValue115 }
theorem Tryz.bld169:Go.Proofs.Lays.n169 Tryz.prog Tryz.bldRen:={
 mixed:=by kernel_rfl
 f169:=Tryz.func17.trans (congrArg some (by kernel_rfl))
 t0:=Tryz.underlying0
 a0:=Tryz.isAgg0
 z0:=Tryz.sizeOf0
 v0:=Tryz.zeroValue0
 t3:=Tryz.underlying3
 a3:=Tryz.isAgg3
 z3:=Tryz.sizeOf3
 v3:=Tryz.zeroValue3
 t9:=Tryz.underlying9
 a9:=Tryz.isAgg9
 z9:=Tryz.sizeOf9
 v9:=Tryz.zeroValue9
 t37:=Tryz.underlying51
 a37:=Tryz.isAgg51
 z37:=Tryz.sizeOf51
 v37:=Tryz.zeroValue51
 t70:=Tryz.underlying50
 a70:=Tryz.isAgg50
 z70:=Tryz.sizeOf50
 v70:=Tryz.zeroValue50
 t72:=Tryz.underlying53
 a72:=Tryz.isAgg53
 z72:=Tryz.sizeOf53
 v72:=Tryz.zeroValue53
 t127:=Tryz.underlying76
 a127:=Tryz.isAgg76
 z127:=Tryz.sizeOf76
 v127:=Tryz.zeroValue76 }
theorem Tryz.builderExtra:Builder.Extra Tryz.prog Tryz.bldRen:={
 sizeBuilder:=by kernel_rfl
 liesBuilder:=by kernel_rfl
 t5:=Tryz.underlying5
 a5:=Tryz.isAgg5
 z5:=Tryz.sizeOf5
 v5:=Tryz.zeroValue5
 infoByte:=by kernel_rfl
 cellsByte:=by kernel_rfl
 sizeByte:=by kernel_rfl
 neB5:=by decide }
end Go.Proofs
/-
 The abstract layer,part Z2: the library's sort by a function that compares,at rows of elements of k cells.
-/
namespace Go.Abs
open Go Go.Sort Go.Proofs
variable {P:Program} {X:Nat→Prop} {g0:Gh} {h:Heap} {w:World}
theorem RepVs.ofGet {c:Cx}:∀ {xs:List AV} {us:List Value},xs.length=us.length→(∀ (i:Nat) x u,xs[i]?=some x→us[i]?=some u→Rep c x u)→RepVs c xs us
 | [],[],_,_=>by simp [RepVs]
 | x::xs,u::us,hl,h=>by
   simp only [RepVs]
   exact ⟨u,us,rfl,h 0 x u rfl rfl,RepVs.ofGet (by simpa using hl) fun i x u h1 h2=>h (i+1) x u (by simpa using h1) (by simpa using h2)⟩
 | [],_::_,hl,_=>by simp at hl
 | _::_,[],hl,_=>by simp at hl
theorem flatten_len {β:Type} {k:Nat}:∀ {L:List (List β)},(∀ x∈L,x.length=k)→L.flatten.length=L.length*k
 | [],_=>by simp
 | x::L,h=>by
   rw [List.flatten_cons,List.length_append,flatten_len (fun y hy=>h y (by simp [hy])),h x (by simp),List.length_cons,Nat.add_mul];omega
theorem flatten_get {β:Type} {k:Nat} (hk:0<k):∀ {L:List (List β)} {i j:Nat} {x:List β},(∀ x∈L,x.length=k)→L[i]?=some x→j<k→L.flatten[i*k+j]?=x[j]?
 | [],i,j,x,_,hx,_=>by simp at hx
 | y::L,0,j,x,h,hx,hj=>by
   simp at hx;subst hx
   have:=h y (by simp)
   rw [List.flatten_cons,Nat.zero_mul,Nat.zero_add,List.getElem?_append_left (by omega)]
 | y::L,i+1,j,x,h,hx,hj=>by
   have hy:=h y (by simp)
   have e:(i+1)*k+j=y.length+(i*k+j):=by rw [hy,Nat.add_mul];omega
   rw [List.flatten_cons,e,List.getElem?_append_right (by omega),Nat.add_sub_cancel_left]
   exact flatten_get hk (fun z hz=>h z (by simp [hz])) (by simpa using hx) hj
theorem divmod {t n k:Nat} (h:t<n*k):t / k<n∧t % k<k∧t=t / k*k+t % k:=by
 have k0:0<k:=by rcases Nat.eq_zero_or_pos k with h0|h0;subst h0;simp at h;exact h0
 refine ⟨(Nat.div_lt_iff_lt_mul k0).2 h,Nat.mod_lt _ k0,?_⟩
 have:=Nat.div_add_mod t k
 rw [Nat.mul_comm] at this;omega
theorem vec_turned2 {l1 l2:Heap} {b:Nat} {cs l:List AV} {us:List Value} {w':World} {p:Addr} {cc cc':Array Value} {t:TypeId} (hc:CW X g0 (l1++(b,.vec cs)::l2) w)
  (h1:g0.pl b=some p) (h4:w.heap[p.block]?=some (.cells cc t (0,0))) (hlen:l.length=cs.length)
  (e7:w'.os=w.os) (e8:w'.tape=w.tape∧w.drawn≤w'.drawn) (e9:w'.output=w.output) (e6:w.heap.size≤w'.heap.size) (e5:∀ blk,blk<w.heap.size→blk≠p.block→w'.heap[blk]?=w.heap[blk]?)
  (e1:w'.heap[p.block]?=some (.cells cc' t (0,0))) (e2:cc'.size=cc.size) (e4:∀ (j:Nat) u,us[j]?=some u→cc'[p.off+j]?=some u)
  (hus:RepVs ⟨g0,live X (l1++(b,.vec cs)::l2),w⟩ l us) (ho:∀ u∈us,u.oneCell'=true) :
  CW X g0 (l1++(b,.vec l)::l2) w'∧Step X g0 (l1++(b,.vec cs)::l2) w g0 (l1++(b,.vec l)::l2) w':=by
 have hob:=hc.obj b (.vec cs) (by simp)
 obtain ⟨p',cc0,t0,a1,h2,h3,a4,h5,h6⟩:=hob
 simp only at a1 h3 a4
 rw [h1] at a1;cases a1
 rw [h4] at a4;cases a4
 have hul:=hus.length
 have hbk:b∈keys (l1++(b,.vec cs)::l2):=by rw [keys_mem];exact .inl rfl
 have hst:Step X g0 (l1++(b,.vec cs)::l2) w g0 (l1++(b,.vec l)::l2) w':=by
  refine ⟨e7,e8,e9,e6,fun _ _ e=>e,fun _ _ _ e _=>e,fun _ _ _ e _=>e,fun _ _ e=>e,?_,?_,?_⟩
  ·intro blk hb hn
   have hne:blk≠p.block:=fun e=>hn b 0 (e ▸ h3) hbk
   refine ⟨e5 blk hb hne,fun k s hk hm=>hn k s hk ?_⟩
   rw [keys_mem] at hm ⊢;exact hm
  ·intro blk k s hk hm dd tt ff hdd
   by_cases e:blk=p.block
   ·subst e
    rw [h3] at hk;cases hk
    rw [h4] at hdd;cases hdd
    exact ⟨cc',_,e1,e2,fun o ho=>by omega⟩
   ·exact ⟨dd,_,(e5 blk (hc.own _ _ _ hk) e).trans hdd,rfl,fun _ _=>rfl⟩
  ·intro blk k s hk _ k' s' hk' _
   rw [hk] at hk';cases hk';exact Nat.le_refl _
 refine ⟨?_,hst⟩
 refine hc.replace hst (fun blk k s hk=>by have:=hc.own _ _ _ hk;omega) (.inl rfl) (fun k hk=>.inr hk) (fun blk s k hk=>.inr ⟨blk,s,hk⟩) ?_ ?_
 ·intro blk k s hk hm
  have hne:blk≠p.block:=by
   intro e;rw [e,h3] at hk;cases hk
   exact hc.notmem hm
  exact ⟨e5 blk (hc.own _ _ _ hk) hne,rfl⟩
 ·refine ⟨p,cc',t,h1,h2,h3,e1,by omega,?_⟩
  intro i x hx
  obtain ⟨u,hu,hr⟩:=hus.get _ _ hx
  exact ⟨u,e4 i u hu,ho u (List.mem_of_getElem? hu),Rep.mono (Step.le hst) _ _ hr⟩
def SortLaw (P:Program) (f g k:Nat):Prop:=∀ (α:Type) (_:Inhabited α) (enc:α→List Value) (cf:α→α→Int) (blk off cap:Nat) (d:Array α) (w:World),
 (∀ x,(enc x).length=k)→(∀ x,∀ v∈enc x,v.oneCell'=true)→SWO (ltOf cf)→CmpLays P g #[] enc k cf blk off d.size w→HoldsK enc k w blk off d→blk<w.heap.size→d.size<4611686018427387904 →
 Calls P f #[.slice (some ⟨blk,off,none⟩) d.size cap,.func (.func g) #[] #[]] w fun e w'=>e=.returned (.tuple #[])∧∃ d' n os,PermIn 0 d.size d d'∧SortedIn (ltOf cf) 0 d.size d'∧w'=sortWorldK enc k w blk off n d' os
theorem world_grown {w w':World} (h1:w'.os=w.os) (h2:w'.tape=w.tape∧w.drawn≤w'.drawn) (h3:w'.output=w.output) (h4:w.heap.size≤w'.heap.size) (h5:∀ b,b<w.heap.size→w'.heap[b]?=w.heap[b]?) :
  ∃ q os',w'=grow (w.drewN q) os':=by
 refine ⟨w'.drawn - w.drawn,w'.heap.extract w.heap.size w'.heap.size,?_⟩
 obtain ⟨hp,tp,dr,os,out⟩:=w'
 simp only at h1 h2 h3 h4 h5
 obtain ⟨h2,h6⟩:=h2
 subst h1 h2 h3
 have e1:w.drawn+(dr - w.drawn)=dr:=by omega
 have e2:hp=w.heap++hp.extract w.heap.size hp.size:=by
  refine Array.ext_getElem? fun i=>?_
  by_cases hi:i<w.heap.size
  ·rw [Array.getElem?_append_left hi];exact h5 i hi
  ·rw [Array.getElem?_append_right (by omega),Array.getElem?_extract]
   by_cases hj:i<hp.size
   ·rw [if_pos (by omega)]
    congr 1;omega
   ·rw [if_neg (by omega),Array.getElem?_eq_none (by omega)]
 unfold grow World.drewN
 simp only
 rw [← e2,e1]
section
variable {f g k:Nat}
theorem sortF_acalls (hk0:0<k) (hf:Callable P f) (hcg:Callable P g) (hs:SortLaw P f g k) (cmp:List AV→List AV→Int) (xs:List (List AV)) (hxk:∀ x∈xs,x.length=k) (hne:xs≠[]) (hlx:xs.length≤4294967296)
  (hcmp:∀ x∈xs,∀ y∈xs,QCall P g [.agg x,.agg y] [] (.int .i64 (cmp x y)))
  (hirr:∀ x∈xs,¬ cmp x x<0) (htr:∀ x∈xs,∀ y∈xs,∀ z∈xs,cmp x y<0→cmp y z<0→cmp x z<0) (hnt:∀ x∈xs,∀ y∈xs,∀ z∈xs,¬ cmp x y<0→¬ cmp y z<0→¬ cmp x z<0)
  (b:Nat):ACalls P f [.osl b 0 xs.length k,.fn g []] [(b,.vec xs.flatten)] (fun v h'=>v=.tup []∧∃ ys:List (List AV),h'=[(b,.vec ys.flatten)]∧ys.Perm xs∧ys.Pairwise fun x y=>¬ cmp y x<0):=by
 refine ⟨fun X g0 w us hc hr=>.inl ⟨hf,?_⟩⟩
 simp only [RepVs] at hr
 obtain ⟨u,r,hus,hx,u2,r2,e2,hx2,hr⟩:=hr
 subst e2 hr
 obtain ⟨p,cap,hp,hsp,rfl,x2,x3,x4,x5,_⟩:=hx.oslE (List.length_pos_iff.2 hne)
 simp only [Rep] at hx2
 obtain ⟨us2,rfl,hx2⟩:=hx2
 try simp only [RepVs] at hx2
 have hus2:us2=#[]:=by rw [← Array.toList_inj];simpa using hx2
 subst hus2
 try simp only at hp x5
 obtain ⟨q,cc,t,h1,h2,h3,h4,h5,h6⟩:=hc.obj b _ (List.mem_singleton.2 rfl)
 simp only at h1 h3 h4
 rw [hp] at h1;cases h1
 have hfl:=flatten_len hxk
 rw [hfl] at h5
 have hn:0<xs.length:=List.length_pos_iff.2 hne
 obtain ⟨n,hn'⟩:∃ n,xs.length=n:=⟨_,rfl⟩
 rw [hn'] at hfl h5 hn hlx x2 x3 hus
 have hlt:p.block<w.heap.size:=(Array.getElem?_eq_some_iff.1 h4).1
 let E:Fin n→List Value:=fun i=>(List.range k).map fun j=>cc[p.off+(i.val*k+j)]!
 have hEk:∀ i,(E i).length=k:=fun i=>by simp [E]
 have hEget:∀ (i:Fin n) (j:Nat),j<k→(E i)[j]?=some (cc[p.off+(i.val*k+j)]!):=fun i j hj=>by simp [E,hj]
 have hxget:∀ (i:Fin n),xs[i.val]?=some (xs[i.val]'(by have:=i.2;omega)):=fun i=>List.getElem?_eq_getElem (by have:=i.2;omega)
 let V:Fin n→List AV:=fun i=>xs[i.val]'(by have:=i.2;omega)
 have hVm:∀ i,V i∈xs:=fun i=>List.getElem_mem _
 have hidx:∀ (i:Fin n) (j:Nat),j<k→i.val*k+j<n*k:=fun i j hj=>by
  have:(i.val+1)*k≤n*k:=Nat.mul_le_mul_right k i.2
  rw [Nat.add_mul,Nat.one_mul] at this
  omega
 have hcell:∀ (i:Fin n) (j:Nat),j<k→∃ x,(V i)[j]?=some x∧cc[p.off+(i.val*k+j)]?=some (cc[p.off+(i.val*k+j)]!)∧(cc[p.off+(i.val*k+j)]!).oneCell'=true∧Rep ⟨g0,live X [(b,.vec xs.flatten)],w⟩ x (cc[p.off+(i.val*k+j)]!):=fun i j hj=>by
  have hl:j<(V i).length:=by rw [hxk _ (hVm i)];exact hj
  have hg:=flatten_get hk0 hxk (hxget i) hj
  obtain ⟨u,a1,a2,a3⟩:=h6 (i.val*k+j) (V i)[j] (by rw [hg];exact List.getElem?_eq_getElem hl)
  have a1':cc[p.off+(i.val*k+j)]! = u:=by
   have hlt2:=(Array.getElem?_eq_some_iff.1 a1).1
   rw [getElem!_pos cc _ hlt2];exact (Array.getElem?_eq_some_iff.1 a1).2
  refine ⟨(V i)[j],List.getElem?_eq_getElem hl,?_,?_,?_⟩
  ·rw [a1'];exact a1
  ·rw [a1'];exact a2
  ·rw [a1'];exact a3
 have hE1:∀ i,∀ v∈E i,v.oneCell'=true:=fun i v hv=>by
  obtain ⟨j,hj,rfl⟩:=List.mem_map.1 hv
  obtain ⟨_,_,_,a3,_⟩:=hcell i j (List.mem_range.1 hj)
  exact a3
 have hRepE:∀ i,RepVs ⟨g0,live X [(b,.vec xs.flatten)],w⟩ (V i) (E i):=fun i=>by
  refine RepVs.ofGet (by rw [hxk _ (hVm i),hEk]) fun j x u hx hu=>?_
  have hj:j<k:=by have:=(List.getElem?_eq_some_iff.1 hu).1;rw [hEk] at this;exact this
  obtain ⟨x',b1,_,_,b4⟩:=hcell i j hj
  rw [hEget i j hj] at hu
  rw [hx] at b1;cases b1;cases hu
  exact b4
 let cf:Fin n→Fin n→Int:=fun i j=>cmp (V i) (V j)
 have hI:Inhabited (Fin n):=⟨⟨0,hn⟩⟩
 let d:Array (Fin n):=Array.ofFn fun i:Fin n=>i
 have hds:d.size=n:=by simp [d]
 have hdg:∀ i (hi:i<n),d[i]! = ⟨i,hi⟩:=fun i hi=>by
  rw [getElem!_pos d i (by rw [hds];exact hi)];simp [d]
 have hH:HoldsK E k w p.block (p.off+0) d:=by
  intro t ht
  rw [size_flatK,hds] at ht
  obtain ⟨m1,m2,m3⟩:=divmod ht
  rw [get_flatK E k d t (by rw [hds];exact ht),hdg _ m1,Nat.add_zero]
  refine ⟨?_,frozen_of_row w p.block _ cc _ h4⟩
  rw [cell_of_row w p.block _ cc _ _ h4]
  obtain ⟨x,b1,b2,b3,b4⟩:=hcell ⟨t / k,m1⟩ (t % k) m2
  have hlt2:t % k<(E ⟨t / k,m1⟩).length:=by rw [hEk];exact m2
  show cc[p.off+t]?=some (id ((E ⟨t / k,m1⟩)[t % k]!))
  rw [getElem!_pos (E ⟨t / k,m1⟩) (t % k) hlt2]
  have:=hEget ⟨t / k,m1⟩ (t % k) m2
  rw [List.getElem?_eq_getElem hlt2] at this
  rw [id,Option.some.inj this]
  simp only at b2
  rw [← m3] at b2 ⊢
  exact b2
 -- any row of the sort's
 have turned:∀ (dk:Array (Fin n)) (m:Nat) (os:Array Obj),dk.size=n →
   CW X g0 [(b,.vec (dk.toList.map V).flatten)] (sortWorldK E k w p.block (p.off+0) m dk os)∧Step X g0 [(b,.vec xs.flatten)] w g0 [(b,.vec (dk.toList.map V).flatten)] (sortWorldK E k w p.block (p.off+0) m dk os):=by
  intro dk m os hdk
  have hVk:∀ x∈dk.toList.map V,x.length=k:=fun x hx=>by
   obtain ⟨i,_,rfl⟩:=List.mem_map.1 hx;exact hxk _ (hVm i)
  have hdt:dk.toList.length=n:=by simpa using hdk
  have hfl2:((dk.toList.map V).flatten).length=n*k:=by rw [flatten_len hVk,List.length_map,hdt]
  have hEk2:∀ x∈dk.toList.map E,x.length=k:=fun x hx=>by
   obtain ⟨i,_,rfl⟩:=List.mem_map.1 hx;exact hEk i
  have hfl3:((dk.toList.map E).flatten).length=n*k:=by rw [flatten_len hEk2,List.length_map,hdt]
  have hheap:(putRowK E k (Sort.ahead w m) p.block (p.off+0) dk).heap=w.heap.modify p.block (onCells (putCells id (p.off+0) (flatK E k dk))):=rfl
  have hdl:∀ i,i<n→dk.toList[i]?=some (dk[i]!):=fun i hi=>by
   rw [Array.getElem?_toList,Array.getElem?_eq_getElem (by omega),getElem!_pos dk i (by omega)]
  have hVg:∀ t,t<n*k→((dk.toList.map V).flatten)[t]?=(V dk[t / k]!)[t % k]?:=fun t ht=>by
   obtain ⟨m1,m2,m3⟩:=divmod ht
   have:=flatten_get (i:=t / k) (j:=t % k) (x:=V dk[t / k]!) hk0 hVk (by rw [List.getElem?_map,hdl _ m1];rfl) m2
   rw [← m3] at this;exact this
  have hEg:∀ t,t<n*k→((dk.toList.map E).flatten)[t]?=(E dk[t / k]!)[t % k]?:=fun t ht=>by
   obtain ⟨m1,m2,m3⟩:=divmod ht
   have:=flatten_get (i:=t / k) (j:=t % k) (x:=E dk[t / k]!) hk0 hEk2 (by rw [List.getElem?_map,hdl _ m1];rfl) m2
   rw [← m3] at this;exact this
  refine vec_turned2 (l1:=[]) (l2:=[]) (l:=(dk.toList.map V).flatten) (us:=(dk.toList.map E).flatten) (w':=sortWorldK E k w p.block (p.off+0) m dk os) (cc':=putCells id (p.off+0) (flatK E k dk) cc)
   hc hp h4 (by rw [hfl2,hfl]) rfl ⟨rfl,Nat.le_add_right _ _⟩ rfl (by
    have e0:(putRowK E k (Sort.ahead w m) p.block (p.off+0) dk).heap.size=w.heap.size:=by rw [hheap];simp
    unfold sortWorldK grow
    simp only [Array.size_append]
    omega) (fun blk hb hne=>?_) ?_ (by simp [putCells]) (fun t u hu=>?_) (RepVs.ofGet (by rw [hfl2,hfl3]) fun t x u hx hu=>?_) (fun u hu=>?_)
  ·unfold sortWorldK
   rw [heap_grow_old _ _ (by rw [hheap];simpa using hb),hheap,Array.getElem?_modify,if_neg (Ne.symm hne)]
  ·unfold sortWorldK
   rw [heap_grow_old _ _ (by rw [hheap];simpa using hlt),hheap,Array.getElem?_modify,if_pos rfl,h4];rfl
  ·have ht:t<n*k:=by have:=(List.getElem?_eq_some_iff.1 hu).1;rw [hfl3] at this;exact this
   rw [hEg t ht] at hu
   have hlt2:p.off+t<cc.size:=by omega
   simp only [putCells,Array.getElem?_mapIdx,Array.getElem?_eq_getElem hlt2,Option.map_some,Nat.add_zero,size_flatK,hdk]
   rw [if_pos ⟨by omega,by omega⟩,show p.off+t - p.off=t from by omega,get_flatK E k dk t (by rw [hdk];exact ht)]
   obtain ⟨m1,m2,m3⟩:=divmod ht
   have hl:t % k<(E dk[t / k]!).length:=by rw [hEk];exact m2
   rw [List.getElem?_eq_getElem hl] at hu
   rw [getElem!_pos (E dk[t / k]!) (t % k) hl];exact hu
  ·have ht:t<n*k:=by have:=(List.getElem?_eq_some_iff.1 hu).1;rw [hfl3] at this;exact this
   rw [hEg t ht] at hu
   rw [hVg t ht] at hx
   obtain ⟨u',a1,a2⟩:=(hRepE dk[t / k]!).get _ _ hx
   rw [hu] at a1;cases a1
   exact a2
  ·rw [List.mem_flatten] at hu
   obtain ⟨l,hl,hu⟩:=hu
   obtain ⟨i,_,rfl⟩:=List.mem_map.1 hl
   exact hE1 i u hu
 have hcmpL:CmpLays P g #[] E k cf p.block (p.off+0) d.size w:=by
  intro m os dk hdk x y
  rw [hds] at hdk
  obtain ⟨c1,s1⟩:=turned dk m os hdk
  obtain ⟨c2,s2⟩:=c1.sub (h':=[]) (fun k o hm=>by cases hm) (by simp [keys])
  have hq:=hcmp (V x) (hVm x) (V y) (hVm y)
  have hrx:RepVs ⟨g0,live X [],sortWorldK E k w p.block (p.off+0) m dk os⟩ [.agg (V x),.agg (V y)] [.agg (E x).toArray,.agg (E y).toArray]:=by
   have up:∀ i,RepVs ⟨g0,live X [],sortWorldK E k w p.block (p.off+0) m dk os⟩ (V i) (E i):=fun i=>RepVs.mono (Step.le (s1.trans hc.own s2)) _ _ (hRepE i)
   simp only [RepVs]
   refine ⟨_,_,rfl,?_,_,_,rfl,?_,rfl⟩
   ·rw [Rep];exact ⟨_,rfl,fun u hu=>hE1 x u (by simpa using hu),by simpa using up x⟩
   ·rw [Rep];exact ⟨_,rfl,fun u hu=>hE1 y u (by simpa using hu),by simpa using up y⟩
  refine (CallsE.calls hcg (hq.1 X g0 _ #[.agg (E x).toArray,.agg (E y).toArray] c2 hrx)).mono ?_
  rintro e w' ⟨v,u,g',hh,rfl,⟨rfl,rfl⟩,hc3,hu,hs3⟩
  rw [Rep] at hu
  rw [hu.1]
  exact ⟨rfl,world_grown hs3.os hs3.say hs3.output hs3.size fun b hb=>(hs3.old b hb fun k s _ hk=>by cases hk).1⟩
 have hSWO:SWO (ltOf cf):=by
  refine ⟨fun x=>?_,fun x y z a b=>?_,fun x y z a b=>?_⟩
  ·unfold ltOf;simpa using hirr _ (hVm x)
  ·unfold ltOf at a b ⊢;simp only [decide_eq_true_eq] at a b ⊢;exact htr _ (hVm x) _ (hVm y) _ (hVm z) a b
  ·unfold ltOf at a b ⊢;simp only [decide_eq_false_iff_not] at a b ⊢;exact hnt _ (hVm x) _ (hVm y) _ (hVm z) a b
 have hu:us=#[.slice (some ⟨p.block,p.off+0,none⟩) d.size cap,.func (.func g) #[] #[]]:=by
  rw [← Array.toList_inj,hds];simpa using hus
 subst hu
 refine (hs (Fin n) hI E cf p.block (p.off+0) cap d w hEk hE1 hSWO hcmpL hH hlt (by rw [hds];omega)).mono ?_
 rintro e w' ⟨rfl,d',m,os,hperm,hsort,rfl⟩
 obtain ⟨hp1,hp2,hp3⟩:=hperm
 rw [hds] at hp1
 obtain ⟨c1,s1⟩:=turned d' m os hp1
 refine ⟨.tup [],.tuple #[],g0,_,rfl,⟨rfl,d'.toList.map V,rfl,?_,?_⟩,c1,by rw [Rep];exact ⟨#[],rfl,by simp [RepVs]⟩,s1⟩
 ·have e1:d'.extract 0 d.size=d':=by
   have e0:d.size=d'.size:=by omega
   rw [e0];simp
  have e2:d.extract 0 d.size=d:=by simp
  rw [e1,e2] at hp3
  have e3:d.toList.map V=xs:=by
   refine List.ext_getElem? fun i=>?_
   by_cases hi:i<n
   ·rw [List.getElem?_map,Array.getElem?_toList,Array.getElem?_eq_getElem (by omega)]
    simp [d,V,hi]
   ·rw [List.getElem?_eq_none (by simp [hds];omega),List.getElem?_eq_none (by omega)]
  rw [← e3]
  exact hp3.map V
 ·rw [List.pairwise_map,List.pairwise_iff_getElem]
  intro i j hi hj hij
  have hi':i<d'.size:=by simpa using hi
  have hj':j<d'.size:=by simpa using hj
  have:=hsort i j (Nat.zero_le _) hij (by rw [hds,← hp1];exact hj')
  unfold ltOf at this
  simp only [decide_eq_false_iff_not] at this
  rw [getElem!_pos d' i hi',getElem!_pos d' j hj'] at this
  simpa using this
end
end Go.Abs
/-
 The abstract layer,part Z3: the sort's law,out of the library's contract.
-/
namespace Go.Abs
open Go Go.Sort Go.Proofs Go.Shelf
theorem sortLaw {P:Program} {ρ:Ren} (L:SlLaysF0.n6 P ρ) (k g:Nat) (aE:∀ w,(isAgg (ρ.t 24)).run P w=.ok true w) (zE:∀ w,(Go.sizeOf (ρ.t 24)).run P w=.ok k w)
  (eg:∀ args w,(callFunc g args).run P w=.ok (.enter g args) w):SortLaw P (ρ.f 6) g k:=fun _ _ enc cf blk off cap d w hk h1 hO hcmp hH hb hs=>
 AnyQ.slices_SortFunc L k aE zE enc hk h1 cf hO g #[] blk off cap d w eg hcmp hH hb hs
end Go.Abs
/-
 The bridge,from the statements' readings to the abstract layer: what is read as plain data is there,and a call that answers true and leaves the old memory alone keeps the statement.
-/
namespace Go.Proofs.YtmkmflcemegikaaGreatDoor.Br
open Go Go.Abs Go.ChangeShapes Go.WideShapes Go.RowKit
inductive Sh (P:Program) (B:Nat):TypeId→List AV→Prop
 | bool {t:TypeId} {b:Bool}:P.underlying t=some .bool→Sh P B t [.bool b]
 | int {t:TypeId} {k:IntKind} {n:Int}:P.underlying t=some (.int k)→(Lit.int k n).wf=true→Sh P B t [.int k n]
 | str {t:TypeId} {s:List UInt8}:P.underlying t=some .string→s.length≤B→Sh P B t [.str s]
 | slice {t e:TypeId} {ys:List (List AV)}:P.underlying t=some (.slice e)→ys.length≤B→(∀ y∈ys,Sh P B e y)→Sh P B t [.sl (P.cellsOf e) none ys]
 | struct {t:TypeId} {fs:Array Field} {parts:List (List AV)}:P.underlying t=some (.struct fs)→parts.length=fs.toList.length →
    (∀ (i:Nat) f p,fs.toList[i]?=some f→parts[i]?=some p→Sh P B f.type p)→Sh P B t parts.flatten
 | array {t e:TypeId} {n:Nat} {parts:List (List AV)}:P.underlying t=some (.array n e)→parts.length=n→(∀ p∈parts,Sh P B e p)→Sh P B t parts.flatten
def flat (P:Program):Nat→TypeId→Bool
 | 0,_=>false
 | n+1,t=>match P.underlying t with
   | some .bool=>true
   | some (.int _)=>true
   | some .string=>true
   | some (.slice e)=>flat P n e&&Nat.ble 1 (P.cellsOf e)
   | some (.struct fs)=>fs.toList.all fun f=>flat P n f.type
   | some (.array _ e)=>flat P n e
   | _=>false
def c0 (W:World):Cx:=⟨⟨fun _=>none,fun _=>none⟩,live (fun _=>False) [],W⟩
theorem fr0 (W:World) (b o:Nat):(c0 W).fr b o:=by intro k s h;cases h
section
variable {H:Type} {enc:TypeId × Value→H} {P:Program} {W:World}
theorem mapM_nth {α β:Type} {f:α→Option β}:∀ {l:List α} {r:List β},l.mapM f=some r→r.length=l.length∧∀ (i:Nat) a,l[i]?=some a→∃ b,f a=some b∧r[i]?=some b:=by
 intro l
 induction l with
 | nil=>intro r h;simp at h;subst h;exact ⟨rfl,fun i a h=>by cases h⟩
 | cons x l ih=>
   intro r h
   simp only [List.mapM_cons,Option.bind_eq_bind,Option.bind_eq_some_iff,Option.pure_def] at h
   obtain ⟨b,hb,r',hr',h⟩:=h
   cases h
   obtain ⟨h1,h2⟩:=ih hr'
   refine ⟨by simp [h1],fun i a ha=>?_⟩
   cases i with
   | zero=>cases ha;exact ⟨b,hb,rfl⟩
   | succ i=>exact h2 i a (by simpa using ha)
theorem bulk_get (l:List (DataW H)) (d:DataW H) (h:d∈l):Rows.uptoBulk d≤Rows.uptoBulkAll l:=by
 induction l with
 | nil=>cases h
 | cons x r ih=>
   simp only [Rows.uptoBulkAll]
   cases List.mem_cons.1 h with
   | inl e=>subst e;omega
   | inr e=>have:=ih e;omega
theorem bulk_pos (d:DataW H):1≤Rows.uptoBulk d:=by
 cases d with
 | lit l=>cases l<;>simp [Rows.uptoBulk]
 | _=>simp [Rows.uptoBulk]
theorem bulk_len (l:List (DataW H)):l.length≤Rows.uptoBulkAll l:=by
 induction l with
 | nil=>simp [Rows.uptoBulkAll]
 | cons x r ih=>have:=bulk_pos x;simp only [Rows.uptoBulkAll,List.length_cons];omega
theorem add_block (a:Addr) (n:Nat):(a.add n).block=a.block:=by unfold Addr.add;split<;>rfl
theorem add_off (a:Addr) (n:Nat):(a.add n).off=a.off+n:=by
 unfold Addr.add
 split
 ·rename_i h;subst h;rfl
 ·rfl
theorem cell_add {a:Addr} {n:Nat} {u:Value} (h:W.cell? (a.add n)=some u):W.cell? ⟨a.block,a.off+n,none⟩=some u:=by
 unfold World.cell? at h ⊢
 rw [add_block,add_off] at h
 split at h
 ·rename_i hb
  simp only [hb]
  split at h
  ·cases h
  ·simpa using h
 ·cases h
theorem cells_repCs {a:Addr} {n:Nat} {us:List Value} {xs:List AV} (h:W.cells? 0 a n=some us) (hr:RepVs (c0 W) xs us) (h1:∀ u∈us,u.oneCell'=true) :
  us.length=n∧(0<n→a.spot=none)∧RepCs (c0 W) xs a.block a.off:=by
 unfold World.cells? at h
 rw [if_pos (Nat.zero_le _)] at h
 obtain ⟨hl,hg⟩:=mapM_nth h
 simp at hl
 refine ⟨hl,fun hn=>?_,?_⟩
 ·obtain ⟨u,hu,_⟩:=hg 0 0 (by simp [hn])
  unfold World.cell? at hu
  split at hu
  ·split at hu
   ·cases hu
   ·rename_i hs
    simpa [Addr.add] using hs
  ·cases hu
 ·have key:∀ (xs:List AV) (us:List Value) (o:Nat),RepVs (c0 W) xs us→(∀ u∈us,u.oneCell'=true)→(∀ (i:Nat) u,us[i]?=some u→W.cell? ⟨a.block,a.off+(o+i),none⟩=some u)→RepCs (c0 W) xs a.block (a.off+o):=by
   intro xs
   induction xs with
   | nil=>intro us o _ _ _;simp [RepCs]
   | cons x xs ih=>
     intro us o hr h1 hc
     simp only [RepVs] at hr
     obtain ⟨u,r,rfl,hu,hr⟩:=hr
     simp only [RepCs]
     refine ⟨⟨u,hc 0 u rfl,h1 u (by simp),fr0 W _ _,hu⟩,?_⟩
     have:=ih r (o+1) hr (fun u hu=>h1 u (by simp [hu])) (fun i u hi=>by
      have:=hc (i+1) u (by simpa using hi)
      rwa [show o+(i+1)=o+1+i from by omega] at this)
     rwa [show a.off+o+1=a.off+(o+1) from rfl]
  have:=key xs us 0 hr h1 (fun i u hi=>by
   have hlt:=(List.getElem?_eq_some_iff.1 hi).1
   obtain ⟨u',hu',hi'⟩:=hg i i (List.getElem?_range (by omega))
   rw [hi] at hi'
   cases hi'
   rw [show a.off+(0+i)=a.off+i from by omega]
   exact cell_add hu')
  simpa using this
theorem wf_has {k:IntKind} {n:Int} (h:(Lit.int k n).wf=true):k.has n:=by
 simp only [Lit.wf,Bool.and_eq_true,decide_eq_true_eq] at h
 simpa [IntKind.has] using h
theorem cut_row (K:Kids P (·<P.types.size)) {t:TypeId} {fs:Array Field} (ht:t<P.types.size) (hu:P.underlying t=some (.struct fs)) {cs:List Value} (hl:cs.length=P.cellsOf t) :
  (fs.toList.map fun f=>(cs.drop f.offset).take (P.cellsOf f.type)).flatten=cs:=by
 obtain ⟨_,h2,h3⟩:=K.struct ht hu
 have key:∀ (l:List Field) (o:Nat),(∀ (j:Nat) f,l[j]?=some f→f.offset=o+((l.take j).map fun f=>P.cellsOf f.type).sum)→(l.map fun f:Field=>(cs.drop f.offset).take (P.cellsOf f.type)).flatten=(cs.drop o).take ((l.map fun f=>P.cellsOf f.type).sum):=by
  intro l
  induction l with
  | nil=>intro o _;simp
  | cons f l ih=>
    intro o h
    have h0:=h 0 f rfl
    simp at h0
    simp only [List.map_cons,List.flatten_cons,List.sum_cons]
    rw [ih (o+P.cellsOf f.type) (fun j g hj=>by
     have:=h (j+1) g (by simpa using hj)
     simp only [List.take_succ_cons,List.map_cons,List.sum_cons] at this
     omega),h0,List.take_add,List.drop_drop]
 rw [key fs.toList 0 (fun j f hj=>by simpa using h3 j f hj),← h2,← hl]
 simp
theorem rep_of_trod (K:Kids P (·<P.types.size)) {B:Nat} (hB:B≤LMAX):∀ (m n:Nat) (t:TypeId) (cs:List Value) (x:DataW H × List MemPlace),flat P m t=true→t<P.types.size →
  DataW.trod enc P W 0 (fun _=>true) true n t cs=some x→Rows.uptoBulk x.1≤B→∃ xs,RepVs (c0 W) xs cs∧Sh P B t xs∧∀ u∈cs,u.oneCell'=true
 | 0,n,t,cs,x,hf,_,_,_=>by cases hf
 | m+1,n,t,cs,x,hf,hlt,h,hb=>by
   unfold flat at hf
   split at hf
   ·rename_i hu
    obtain ⟨b,rfl,rfl⟩:=DataW.trod_bool hu h
    exact ⟨[.bool b],by simp [RepVs,Rep],.bool hu,by simp [Value.oneCell']⟩
   ·rename_i k hu
    obtain ⟨n,rfl,rfl,hw⟩:=DataW.trod_int hu h
    exact ⟨[.int k n],by simp [RepVs,Rep,wf_has hw],.int hu hw,by simp [Value.oneCell']⟩
   ·rename_i hu
    obtain ⟨s,rfl,rfl,hm⟩:=DataW.trod_string hu h
    have hb':s.data.toList.length≤B:=by simp [Rows.uptoBulk] at hb;simp;omega
    exact ⟨[.str s.data.toList],by simp only [RepVs,Rep];exact ⟨_,_,rfl,⟨s,rfl,rfl,by omega⟩,rfl⟩,.str hu hb',by simp [Value.oneCell']⟩
   ·rename_i e hu
    simp only [Bool.and_eq_true] at hf
    have hk:0<P.cellsOf e:=Nat.le_of_ble_eq_true hf.2
    have he:e<P.types.size:=K.slice hlt hu
    rcases DataW.trod_slice hu h with ⟨rfl,rfl⟩|⟨a,len,cap,elems,rest,n',rfl,rfl,rfl,_,hlc,hcm,hel,hge,_,_⟩
    ·refine ⟨[.sl (P.cellsOf e) none []],?_,.slice hu (Nat.zero_le _) (by simp),by simp [Value.oneCell']⟩
     simp only [RepVs]
     exact ⟨_,_,rfl,VLe.nil hk _ _ (by simp [Rep]),rfl⟩
    ·have hbulk:elems.length≤B∧∀ y∈elems,Rows.uptoBulk y.1≤B:=by
      simp only [Rows.uptoBulk] at hb
      have h1:=bulk_len (elems.map (·.1))
      simp at h1
      refine ⟨by omega,fun y hy=>?_⟩
      have:=bulk_get (elems.map (·.1)) y.1 (List.mem_map.2 ⟨y,hy,rfl⟩)
      omega
     have each:∀ i,i<len→∃ (xs:List AV) (us:List Value),W.cells? 0 (a.add (i*P.cellsOf e)) (P.cellsOf e)=some us∧RepVs (c0 W) xs us∧Sh P B e xs∧∀ u∈us,u.oneCell'=true:=by
      intro i hi
      have hx:=hge i hi
      have hlt':i<elems.length:=by omega
      rw [List.getElem?_eq_getElem hlt'] at hx
      simp only [Option.bind_eq_some_iff] at hx
      obtain ⟨us,hus,htr⟩:=hx
      obtain ⟨xs,h1,h2,h3⟩:=rep_of_trod K hB m n' e us _ hf.1 he htr (hbulk.2 _ (List.getElem_mem hlt'))
      exact ⟨xs,us,hus,h1,h2,h3⟩
     have build:∀ j i,i+j=len→∃ ys:List (List AV),ys.length=j∧(∀ y∈ys,Sh P B e y)∧RepEs (c0 W) (P.cellsOf e) ys a.block (a.off+i*P.cellsOf e):=by
      intro j
      induction j with
      | zero=>intro i _;exact ⟨[],rfl,by simp,by simp [RepEs]⟩
      | succ j ih=>
        intro i hij
        obtain ⟨xs,us,hus,h1,h2,h3⟩:=each i (by omega)
        obtain ⟨hn,hsp,hr⟩:=cells_repCs hus h1 h3
        obtain ⟨ys,hy1,hy2,hy3⟩:=ih (i+1) (by omega)
        refine ⟨xs::ys,by simp [hy1],by intro y hy;cases List.mem_cons.1 hy with|inl e=>subst e;exact h2|inr e=>exact hy2 y e,?_⟩
        simp only [RepEs]
        refine ⟨⟨by rw [← h1.length];exact hn,by rw [add_block,add_off] at hr;exact hr⟩,?_⟩
        rwa [show a.off+i*P.cellsOf e+P.cellsOf e=a.off+(i+1)*P.cellsOf e from by rw [Nat.succ_mul];omega]
     obtain ⟨ys,hy1,hy2,hy3⟩:=build len 0 (by omega)
     refine ⟨[.sl (P.cellsOf e) none ys],?_,.slice hu (by omega) hy2,by simp [Value.oneCell']⟩
     simp only [RepVs,Rep]
     refine ⟨_,_,rfl,⟨some a,cap,by rw [hy1],by omega,by omega,hk,by simp,?_,?_,by simp⟩,rfl⟩
     ·rintro a' ⟨⟩ hne
      have:0<len:=by
       cases ys with
       | nil=>exact absurd rfl hne
       | cons _ _=>simp at hy1;omega
      obtain ⟨xs,us,hus,h1,h2,h3⟩:=each 0 this
      have:=(cells_repCs hus h1 h3).2.1 hk
      simpa [Addr.add] using this
     ·rintro a' ⟨⟩
      simpa using hy3
   ·rename_i fs hu
    obtain ⟨xs,n',rfl,rfl,hl,hlen,hg⟩:=DataW.trod_struct hu h
    have hbulk:∀ y∈xs,Rows.uptoBulk y.1≤B:=by
     simp only [Rows.uptoBulk] at hb
     intro y hy
     have:=bulk_get (xs.map (·.1)) y.1 (List.mem_map.2 ⟨y,hy,rfl⟩)
     omega
    obtain ⟨k1,k2,k3⟩:=K.struct hlt hu
    have each:∀ (i:Nat) (f:Field),fs.toList[i]?=some f→∃ p,RepVs (c0 W) p ((cs.drop f.offset).take (P.cellsOf f.type))∧Sh P B f.type p∧∀ u∈(cs.drop f.offset).take (P.cellsOf f.type),u.oneCell'=true:=by
     intro i f hif
     have hlti:i<xs.length:=by
      have:=(List.getElem?_eq_some_iff.1 hif).1
      simp at this;omega
     have hx:=hg i f (by simpa using hif)
     rw [List.getElem?_eq_getElem hlti] at hx
     exact rep_of_trod K hB m n' f.type _ _ (List.all_eq_true.1 hf f (List.mem_of_getElem? hif)) (k1 f (List.mem_of_getElem? hif)) hx (hbulk _ (List.getElem_mem hlti))
    have build:∀ (l:List Field) ,(∀ f∈l,∃ p,RepVs (c0 W) p ((cs.drop f.offset).take (P.cellsOf f.type))∧Sh P B f.type p∧∀ u∈(cs.drop f.offset).take (P.cellsOf f.type),u.oneCell'=true) →
      ∃ parts:List (List AV),parts.length=l.length∧(∀ (i:Nat) f p,l[i]?=some f→parts[i]?=some p→Sh P B f.type p)∧RepVs (c0 W) parts.flatten (l.map fun f:Field=>(cs.drop f.offset).take (P.cellsOf f.type)).flatten ∧
       ∀ u∈(l.map fun f:Field=>(cs.drop f.offset).take (P.cellsOf f.type)).flatten,u.oneCell'=true:=by
     intro l
     induction l with
     | nil=>intro _;exact ⟨[],rfl,by simp,by simp [RepVs],by simp⟩
     | cons f l ih=>
       intro h
       obtain ⟨p,h1,h2,h3⟩:=h f (by simp)
       obtain ⟨parts,g1,g2,g3,g4⟩:=ih (fun f hf=>h f (by simp [hf]))
       refine ⟨p::parts,by simp [g1],?_,?_,?_⟩
       ·intro i f' p' hi hp
        cases i with
        | zero=>cases hi;cases hp;exact h2
        | succ i=>exact g2 i f' p' (by simpa using hi) (by simpa using hp)
       ·simp only [List.map_cons,List.flatten_cons]
        exact RepVs.append h1 g3
       ·intro u hu
        simp only [List.map_cons,List.flatten_cons,List.mem_append] at hu
        exact hu.elim (h3 u) (g4 u)
    obtain ⟨parts,g1,g2,g3,g4⟩:=build fs.toList (fun f hf=>by
     obtain ⟨i,hi⟩:=List.mem_iff_getElem?.1 hf
     exact each i f hi)
    rw [cut_row K hlt hu hl] at g3 g4
    exact ⟨parts.flatten,g3,.struct hu g1 g2,g4⟩
   ·rename_i N e hu
    obtain ⟨xs,n',rfl,rfl,hl,hlen,hg⟩:=DataW.trod_array hu h
    obtain ⟨k1,k2⟩:=K.array hlt hu
    have hbulk:∀ y∈xs,Rows.uptoBulk y.1≤B:=by
     simp only [Rows.uptoBulk] at hb
     intro y hy
     have:=bulk_get (xs.map (·.1)) y.1 (List.mem_map.2 ⟨y,hy,rfl⟩)
     omega
    have each:∀ i,i<N→∃ p,RepVs (c0 W) p ((cs.drop (i*P.cellsOf e)).take (P.cellsOf e))∧Sh P B e p∧∀ u∈(cs.drop (i*P.cellsOf e)).take (P.cellsOf e),u.oneCell'=true:=by
     intro i hi
     have hlti:i<xs.length:=by omega
     have hx:=hg i hi
     rw [List.getElem?_eq_getElem hlti] at hx
     exact rep_of_trod K hB m n' e _ _ hf k1 hx (hbulk _ (List.getElem_mem hlti))
    have build:∀ j i,i+j=N→∃ parts:List (List AV),parts.length=j∧(∀ p∈parts,Sh P B e p)∧RepVs (c0 W) parts.flatten (cs.drop (i*P.cellsOf e))∧∀ u∈cs.drop (i*P.cellsOf e),u.oneCell'=true:=by
     intro j
     induction j with
     | zero=>
       intro i hi
       have h0:cs.drop (i*P.cellsOf e)=[]:=List.drop_eq_nil_of_le (by rw [hl,k2,show i=N by omega];exact Nat.le_refl _)
       rw [h0]
       exact ⟨[],rfl,by simp,by simp [RepVs],by simp⟩
     | succ j ih=>
       intro i hi
       obtain ⟨p,h1,h2,h3⟩:=each i (by omega)
       obtain ⟨parts,g1,g2,g3,g4⟩:=ih (i+1) (by omega)
       have hcut:cs.drop (i*P.cellsOf e)=(cs.drop (i*P.cellsOf e)).take (P.cellsOf e)++cs.drop ((i+1)*P.cellsOf e):=by
        rw [Nat.succ_mul,← List.drop_drop,List.take_append_drop]
       rw [hcut]
       refine ⟨p::parts,by simp [g1],?_,?_,?_⟩
       ·intro y hy
        rcases List.mem_cons.1 hy with rfl|hy
        ·exact h2
        ·exact g2 y hy
       ·simp only [List.flatten_cons]
        exact RepVs.append h1 g3
       ·intro u hu
        exact (List.mem_append.1 hu).elim (h3 u) (g4 u)
    obtain ⟨parts,g1,g2,g3,g4⟩:=build N 0 (by omega)
    rw [Nat.zero_mul,List.drop_zero] at g3 g4
    exact ⟨parts.flatten,g3,.array hu g1 g2,g4⟩
   ·cases hf
def ArgSh (P:Program) (B:Nat) (t:TypeId) (x:AV):Prop:=∃ xs,Sh P B t xs∧match P.underlying t with
 | some (.struct _)=>x=.agg xs
 | some (.array _ _)=>x=.agg xs
 | _=>xs=[x]
def ArgShs (P:Program) (B:Nat):List TypeId→List AV→Prop
 | [],[]=>True
 | t::ts,x::xs=>ArgSh P B t x∧ArgShs P B ts xs
 | _,_=>False
theorem rep_arg (K:Kids P (·<P.types.size)) {B:Nat} (hB:B≤LMAX) {m:Nat} {t:TypeId} {v:Value} {d:DataW H} {ps:List MemPlace} {base:Nat} (hf:flat P m t=true) (hlt:t<P.types.size)
  (hok:Value.okWide P W .any base t v) (h:DataW.Trod enc P W 0 (fun _=>true) true t v d ps) (hb:Rows.uptoBulk d≤B):∃ x,Rep (c0 W) x v∧ArgSh P B t x:=by
 obtain ⟨n,h⟩:=h
 obtain ⟨xs,h1,h2,h3⟩:=rep_of_trod K hB m n t _ _ hf hlt h hb
 have one:∀ x,xs=[x]→(∀ cs,v≠.agg cs)→(∀ fs,P.underlying t≠some (.struct fs))∧(∀ n e,P.underlying t≠some (.array n e))→∃ x,Rep (c0 W) x v∧ArgSh P B t x:=by
  rintro x rfl hne hns
  have hv:v.cells.toList=[v]:=by cases v<;>first|rfl|exact absurd rfl (hne _)
  rw [hv] at h1
  simp only [RepVs] at h1
  obtain ⟨u,r,hu,hx,rfl⟩:=h1
  cases hu
  refine ⟨x,hx,[x],h2,?_⟩
  split
  ·rename_i fs hfs;exact absurd hfs (hns.1 fs)
  ·rename_i n e hfs;exact absurd hfs (hns.2 n e)
  ·rfl
 unfold Value.okWide at hok
 cases h2 with
 | bool hu=>
   rw [hu] at hok
   refine one _ rfl (fun cs hv=>?_) (by rw [hu];simp)
   subst hv
   simp [Cell.okWide,hu,Cell.ok] at hok
 | int hu hw=>
   rw [hu] at hok
   refine one _ rfl (fun cs hv=>?_) (by rw [hu];simp)
   subst hv
   simp [Cell.okWide,hu,Cell.ok] at hok
 | str hu hl=>
   rw [hu] at hok
   refine one _ rfl (fun cs hv=>?_) (by rw [hu];simp)
   subst hv
   simp [Cell.okWide,hu,Cell.ok] at hok
 | slice hu hl hy=>
   rw [hu] at hok
   refine one _ rfl (fun cs hv=>?_) (by rw [hu];simp)
   subst hv
   simp [Cell.okWide,hu,Cell.ok] at hok
 | @struct _ fs parts hu hl hp=>
   rw [hu] at hok
   obtain ⟨cs,rfl,hsz,_⟩:=hok
   refine ⟨.agg parts.flatten,?_,parts.flatten,.struct hu hl hp,by rw [hu]⟩
   simp only [Rep]
   exact ⟨cs,rfl,fun u hu=>h3 u (by simpa [Value.cells] using hu),h1⟩
 | @array _ e n parts hu hl hp=>
   rw [hu] at hok
   obtain ⟨cs,rfl,hsz,_⟩:=hok
   refine ⟨.agg parts.flatten,?_,parts.flatten,.array hu hl hp,by rw [hu]⟩
   simp only [Rep]
   exact ⟨cs,rfl,fun u hu=>h3 u (by simpa [Value.cells] using hu),h1⟩
theorem rep_args (K:Kids P (·<P.types.size)) {B:Nat} (hB:B≤LMAX) {m:Nat} {base:Nat}:∀ {ts:List TypeId} {vs:List Value} {ds:List (DataW H)} {ps:List MemPlace},(∀ t∈ts,flat P m t=true∧t<P.types.size) →
  (∀ (j:Nat) t v,ts[j]?=some t→vs[j]?=some v→Value.okWide P W .any base t v)→DataW.TrodAll enc P W 0 (fun _=>true) true ts vs ds ps→Rows.uptoBulkAll ds≤B →
  ∃ xs,RepVs (c0 W) xs vs∧ArgShs P B ts xs
 | [],vs,ds,ps,_,_,h,_=>by
   obtain ⟨rfl,rfl,rfl⟩:=trodAll_nil h
   exact ⟨[],by simp [RepVs],trivial⟩
 | t::ts,vs,ds,ps,hf,hok,h,hb=>by
   obtain ⟨v,vs1,d,ds1,a,b,rfl,rfl,rfl,h1,h2⟩:=trodAll_cons h
   simp only [Rows.uptoBulkAll] at hb
   obtain ⟨x,hx,hs⟩:=rep_arg K hB (hf t (by simp)).1 (hf t (by simp)).2 (hok 0 t v rfl rfl) h1 (by omega)
   obtain ⟨xs,hxs,hss⟩:=rep_args K hB (fun t ht=>hf t (by simp [ht])) (fun j t v h1 h2=>hok (j+1) t v (by simpa using h1) (by simpa using h2)) h2 (by omega)
   exact ⟨x::xs,by simp only [RepVs];exact ⟨v,vs1,rfl,hx,hxs⟩,hs,hss⟩
theorem stays_all {W':World} {sp:Nat→Bool} (K:Kids P (·<P.types.size)) (hz:∀ {t e:TypeId},t<P.types.size→P.underlying t=some (.slice e)→0<P.cellsOf e) :
  ∀ {ts:List TypeId} {vs:List Value} {ds:List (DataW H)} {ps:List MemPlace},(∀ t∈ts,t<P.types.size)→DataW.TrodAll enc P W 0 (fun _=>true) true ts vs ds ps→(∀ p∈ps,W.sameAt W' p)→(∀ p∈ps,sp p.block=true) →
   DataW.TrodAll enc P W' 0 sp true ts vs ds ps
 | [],vs,ds,ps,_,h,_,_=>by
   obtain ⟨rfl,rfl,rfl⟩:=trodAll_nil h
   exact trodAll_mk0
 | t::ts,vs,ds,ps,hT,h,hs,hp=>by
   obtain ⟨v,vs1,d,ds1,a,b,rfl,rfl,rfl,⟨n,h1⟩,h2⟩:=trodAll_cons h
   exact ⟨a,b,⟨n,DataW.trod_stays K hz (fun hh=>by cases hh) (hT t (by simp)) h1 (fun p hp=>hs p (by simp [hp])) (fun p hq=>hp p (by simp [hq]))⟩,
    stays_all K hz (fun t ht=>hT t (by simp [ht])) h2 (fun p hp=>hs p (by simp [hp])) (fun p hq=>hp p (by simp [hq])),rfl⟩
theorem trod_len:∀ {ts:List TypeId} {vs:List Value} {ds:List (DataW H)} {ps:List MemPlace},DataW.TrodAll enc P W 0 (fun _=>true) true ts vs ds ps→ds.length=ts.length
 | [],_,_,_,h=>by
   obtain ⟨rfl,rfl,_⟩:=trodAll_nil h
   rfl
 | t::ts,_,_,_,h=>by
   obtain ⟨v,vs1,d,ds1,a,b,rfl,rfl,rfl,h1,h2⟩:=trodAll_cons h
   simp [trod_len h2]
theorem cw0 (W:World):CW (fun _=>False) ⟨fun _=>none,fun _=>none⟩ [] W:=by
 refine ⟨by simp,⟨0,?_⟩,by simp [keys],by simp [keys],by simp⟩
 rintro k (h|h|h|⟨b,s,h⟩)
 ·exact h.elim
 ·simp [keys] at h
 ·exact absurd rfl h
 ·cases h
theorem bridge {f:FuncId} {fn:Func} {s:ChangeSpec} {m:Nat} {tb:TypeId} (K:Kids P (·<P.types.size)) (hz:∀ {t e:TypeId},t<P.types.size→P.underlying t=some (.slice e)→0<P.cellsOf e)
  (hvars:s.vars=[]) (hfn:∀ ds:List (DataW H),ds.length=fn.params.toList.length→s.fn H ds={ results:=[.lit (.bool true)],args:=ds })
  (hres:fn.resultTypes=#[tb]) (hbool:P.underlying tb=some .bool) (hflat:∀ t∈fn.params.toList,flat P m t=true∧t<P.types.size)
  (hcal:Callable P f) (law:∀ xs,ArgShs P 1048576 fn.params.toList xs→QCall P f xs [] (.bool true))
  {base:Nat} {args:Array Value} {ds gs:List (DataW H)} {before:List MemPlace}
  (hval:∀ (j:Nat) t v,fn.params[j]?=some t→args[j]?=some v→Value.okWide P W .any base t v)
  (hW:DataW.Whole enc P fn.params.toList s.vars false W args.toList ds gs before) (hk:Rows.uptoSmall H (ds++gs)=true) :
  Calls P f args W fun e W'=>∃ v,e=.returned v∧s.post enc P fn false true false false W args v W':=by
 have hlt:=hW.lt
 have hW':=hW
 rw [hvars] at hW
 obtain ⟨p,q,hA,hV,hpq,hfz,hnd⟩:=hW
 obtain ⟨rfl,rfl⟩:gs=[]∧q=[]:=by
  cases gs with
  | nil=>simp only [DataW.TrodVars] at hV;exact ⟨rfl,hV⟩
  | cons _ _=>simp [DataW.TrodVars] at hV
 simp only [List.append_nil] at hpq hk
 subst hpq
 have hbulk:Rows.uptoBulkAll ds≤1048576:=of_decide_eq_true hk
 obtain ⟨xs,hrep,hsh⟩:=rep_args K (B:=1048576) (by unfold LMAX;omega) hflat (fun j t v h1 h2=>hval j t v (by simpa using h1) (by simpa using h2)) hA hbulk
 have hlen:ds.length=fn.params.toList.length:=(trod_len hA)
 refine (CallsE.calls hcal ((law xs hsh).calls (fun _=>False) ⟨fun _=>none,fun _=>none⟩ W args (cw0 W) hrep)).mono ?_
 rintro e W' ⟨v,u,g',h',rfl,⟨rfl,rfl⟩,hc,hu,hst⟩
 simp only [Rep] at hu
 subst hu
 have hold:∀ b,b<W.heap.size→W'.heap[b]?=W.heap[b]?:=fun b hb=>(hst.old b hb (fun k s h=>by cases h)).1
 have hsame:∀ p∈before,W.sameAt W' p:=by
  intro p hp
  have:=hlt p hp
  cases p with
  | cell b off=>simp only [World.sameAt,World.cell?];rw [hold b this]
  | map b=>exact hold b this
 refine ⟨_,rfl,ds,[],before,[],before,[],hW',?_,?_,?_,?_,fun h=>by cases h⟩
 ·rw [List.append_nil,hfn ds hlen,hres]
  exact trodAll_mk1 (shut_bool hbool _)
 ·rw [List.append_nil,hfn ds hlen]
  exact stays_all K hz (fun t ht=>(hflat t ht).2) hA hsame (fun p hp=>by simpa using hlt p hp)
 ·rw [hvars,List.append_nil,hfn ds hlen]
  simp [DataW.TrodVars]
 ·refine ⟨hst.os,hst.output,fun i hi=>?_⟩
  rw [hold i hi]
  cases hh:W.heap[i]? with
  | none=>simp
  | some o=>cases o<;>simp
end
end Go.Proofs.YtmkmflcemegikaaGreatDoor.Br
set_option maxRecDepth 100000
set_option maxHeartbeats 2000000
namespace Go.Abs.Wall
open Go Go.Abs Go.Proofs
theorem mixed:Tryz.prog.follows .mixedOrders=true:=by decide
theorem within (n low high:Int):QCall Tryz.prog 31 [.int .i64 n,.int .i64 low,.int .i64 high] [] (.bool (decide (low≤n)&&decide (n≤high))):=by
 refine acalls (fn:=Tryz.f31) (code:=(Tryz.f31.body.getD .skip)) (c:=⟨[0,1,2,6],[],[],[],[],[]⟩) rfl rfl rfl mixed (by simp [Tryz.f31]) fun X=>?_
 conv=>whnf
 exact ⟨rfl,rfl⟩
theorem lwithin (n low high:Int):QCall Tryz.prog 46 [.int .i64 n,.int .i64 low,.int .i64 high] [] (.bool (decide (low≤n)&&decide (n≤high))):=by
 refine acalls (fn:=Tryz.f46) (code:=(Tryz.f46.body.getD .skip)) (c:=⟨[0,1,2,6],[],[],[],[],[]⟩) rfl rfl rfl mixed (by simp [Tryz.f46]) fun X=>?_
 conv=>whnf
 exact ⟨rfl,rfl⟩
def c28:Cfg:=⟨[0,1,4,5,10,14,25],[],[],[],[(6,[0,1,2,3,4,5,6,7,8],[])],[]⟩
theorem sameInts (a b:List Int) (ha:a.length≤LMAX) (hb:b.length≤LMAX):QCall Tryz.prog 28 [.sl 1 none (ints a),.sl 1 none (ints b)] [] (.bool (decide (a=b))):=by
 refine acalls (fn:=Tryz.f28) (code:=(Tryz.f28.body.getD .skip)) (c:=c28) rfl rfl rfl mixed (by simp [Tryz.f28]) fun X=>?_
 unfold LMAX at ha hb
 conv=>whnf
 refine ⟨fun hne=>?_,fun hne=>?_⟩
 ·have hne:(!decide (((ints a).length:Int)=((ints b).length:Int)))=true:=hne
  simp at hne
  conv=>whnf
  refine ⟨congrArg AV.bool ?_,rfl⟩
  symm
  exact decide_eq_false (fun e=>hne (by rw [e]))
 ·have hne:(!decide (((ints a).length:Int)=((ints b).length:Int)))=false:=hne
  simp at hne
  conv=>whnf
  refine loop_ok (c:=c28) mixed [0,1,5] [] (fun m r h=>∃ i:Nat,r=[(0,[],.sl 1 none (ints a)),(1,[],.sl 1 none (ints b)),(5,[],.int .i64 i)]∧h=[]∧m=a.length - i∧i≤a.length∧∀ j,j<i→a[j]?=b[j]?) ?_ ?_
  ·conv=>whnf
   exact ⟨_,0,rfl,rfl,rfl,by omega,by intro j hj;omega⟩
  ·rintro m r h ⟨i,rfl,rfl,rfl,hi,hg⟩
   conv=>whnf
   refine ⟨fun hb=>?_,fun hb=>?_⟩
   ·have hb:(i:Int)<((ints a).length:Int):=of_decide_eq_true hb
    rw [ints_length] at hb
    have h1:i<a.length:=by omega
    have h2:i<b.length:=by omega
    conv=>whnf
    refine ⟨rfl,?_⟩
    conv=>whnf
    refine ⟨i,[.int .i64 a[i]],⟨rfl,ints_get (List.getElem?_eq_getElem h1)⟩,?_⟩
    conv=>whnf
    refine ⟨i,[.int .i64 b[i]],⟨rfl,ints_get (List.getElem?_eq_getElem h2)⟩,?_⟩
    conv=>whnf
    refine ⟨fun hc=>?_,fun hc=>?_⟩
    ·have hc:(!decide (a[i]=b[i]))=true:=hc
     conv=>whnf
     refine ⟨congrArg AV.bool ?_,rfl⟩
     symm
     refine decide_eq_false (fun e=>?_)
     subst e
     simp at hc
    ·have hc:(!decide (a[i]=b[i]))=false:=hc
     simp at hc
     conv=>whnf
     refine ⟨⟨by omega,by omega⟩,?_⟩
     conv=>whnf
     exact ⟨a.length - (i+1),by omega,i+1,rfl,rfl,rfl,by omega,fun j hj=>by
      rcases Nat.lt_succ_iff_lt_or_eq.1 hj with h|rfl
      ·exact hg j h
      ·rw [List.getElem?_eq_getElem h1,List.getElem?_eq_getElem h2,hc]⟩
   ·have hb:decide ((i:Int)<((ints a).length:Int))=false:=hb
    rw [ints_length] at hb
    have hb:=of_decide_eq_false hb
    conv=>whnf
    refine ⟨congrArg AV.bool ?_,rfl⟩
    symm
    refine decide_eq_true (List.ext_getElem? fun j=>?_)
    by_cases hj:j<i
    ·exact hg j hj
    ·rw [List.getElem?_eq_none (by omega),List.getElem?_eq_none (by omega)]
end Go.Abs.Wall
namespace Go.Abs.Wall
open Go Go.Abs Go.Proofs
theorem map_get {α:Type} {enc:α→List AV} {l:List α} {i:Nat} (h:i<l.length):(l.map enc)[i]?=some (enc l[i]):=by simp [List.getElem?_eq_getElem h]
def big (y:UInt8):Bool:=decide (65≤y.toNat)&&decide (y.toNat≤90)
def small (y:UInt8):Bool:=decide (97≤y.toNat)&&decide (y.toNat≤122)
def digit (y:UInt8):Bool:=decide (48≤y.toNat)&&decide (y.toNat≤57)
def alnum (y:UInt8):Bool:=big y||small y||digit y
def codeOK (s:List UInt8):Bool:=decide (1≤s.length)&&decide (s.length≤8)&&big (s[0]?.getD 0)&&s.all alnum
def c42:Cfg:=⟨[0,2,3,4,22,26,54],[],[],[],[],[]⟩
theorem le_cast (a:Nat) (y:UInt8):decide ((a:Int)≤(y.toNat:Int))=decide (a≤y.toNat):=by rw [decide_eq_decide];omega
theorem le_cast' (a:Nat) (y:UInt8):decide ((y.toNat:Int)≤(a:Int))=decide (y.toNat≤a):=by rw [decide_eq_decide];omega
theorem validCode (s:List UInt8) (hs:s.length≤LMAX):QCall Tryz.prog 42 [.str s] [] (.bool (codeOK s)):=by
 refine acalls (fn:=Tryz.f42) (code:=(Tryz.f42.body.getD .skip)) (c:=c42) rfl rfl rfl mixed (by simp [Tryz.f42]) fun X=>?_
 unfold LMAX at hs
 have h0:¬ (s.length:Int)<1→((0:Int)=((0:Nat):Int)∧s[0]?=some (s[0]?.getD 0)):=by
  intro h
  refine ⟨rfl,?_⟩
  rw [List.getElem?_eq_getElem (show 0<s.length by omega)];rfl
 conv=>whnf
 refine ⟨0,s[0]?.getD 0,fun h1=>?_,?_⟩
 ·have h1:(decide ((s.length:Int)<1)||decide (8<(s.length:Int)))=false:=h1
  simp only [Bool.or_eq_false_iff,decide_eq_false_iff_not] at h1
  exact h0 h1.1
 conv=>whnf
 refine ⟨0,s[0]?.getD 0,fun h1=>?_,?_⟩
 ·have h1:(decide ((s.length:Int)<1)||decide (8<(s.length:Int))||decide (((s[0]?.getD 0).toNat:Int)<65))=false:=h1
  simp only [Bool.or_eq_false_iff,decide_eq_false_iff_not] at h1
  exact h0 h1.1.1
 conv=>whnf
 refine ⟨fun hc=>?_,fun hc=>?_⟩
 ·have hc:(decide ((s.length:Int)<1)||decide (8<(s.length:Int))||decide (((s[0]?.getD 0).toNat:Int)<65)||decide (90<((s[0]?.getD 0).toNat:Int)))=true:=hc
  conv=>whnf
  refine ⟨congrArg AV.bool ?_,rfl⟩
  symm
  simp only [Bool.or_eq_true,decide_eq_true_eq] at hc
  unfold codeOK big
  simp only [Bool.and_eq_false_iff,decide_eq_false_iff_not]
  omega
 ·have hc:(decide ((s.length:Int)<1)||decide (8<(s.length:Int))||decide (((s[0]?.getD 0).toNat:Int)<65)||decide (90<((s[0]?.getD 0).toNat:Int)))=false:=hc
  simp only [Bool.or_eq_false_iff,decide_eq_false_iff_not] at hc
  have hpre:(decide (1≤s.length)&&decide (s.length≤8)&&big (s[0]?.getD 0))=true:=by
   unfold big
   simp only [Bool.and_eq_true,decide_eq_true_eq]
   omega
  conv=>whnf
  refine loop_ok (c:=c42) mixed [0,3] [] (fun m r h=>∃ i:Nat,r=[(0,[],.str s),(3,[],.int .i64 i)]∧h=[]∧m=s.length - i∧i≤s.length∧∀ j y,j<i→s[j]?=some y→alnum y=true) ?_ ?_
  ·conv=>whnf
   exact ⟨_,0,rfl,rfl,rfl,by omega,by intro j y hj;omega⟩
  ·rintro m r h ⟨i,rfl,rfl,rfl,hi,hg⟩
   conv=>whnf
   refine ⟨fun hb=>?_,fun hb=>?_⟩
   ·have hb:(i:Int)<(s.length:Int):=of_decide_eq_true hb
    have hlt:i<s.length:=by omega
    have hx:=List.getElem?_eq_getElem hlt
    conv=>whnf
    refine ⟨i,s[i],⟨rfl,hx⟩,?_⟩
    have e:((decide ((65:Int)≤(s[i].toNat:Int))&&decide ((s[i].toNat:Int)≤90))||(decide ((97:Int)≤(s[i].toNat:Int))&&decide ((s[i].toNat:Int)≤122)) ||
      (decide ((48:Int)≤(s[i].toNat:Int))&&decide ((s[i].toNat:Int)≤57)))=alnum s[i]:=by
     unfold alnum big small digit
     rw [← le_cast,← le_cast,← le_cast,← le_cast',← le_cast',← le_cast']
     rfl
    conv=>whnf
    refine ⟨fun hc=>?_,fun hc=>?_⟩
    ·have hc:(!((decide ((65:Int)≤(s[i].toNat:Int))&&decide ((s[i].toNat:Int)≤90))||(decide ((97:Int)≤(s[i].toNat:Int))&&decide ((s[i].toNat:Int)≤122)) ||
      (decide ((48:Int)≤(s[i].toNat:Int))&&decide ((s[i].toNat:Int)≤57))))=true:=hc
     rw [e] at hc
     conv=>whnf
     refine ⟨congrArg AV.bool ?_,rfl⟩
     symm
     unfold codeOK
     rw [Bool.and_eq_false_iff]
     right
     rw [List.all_eq_false]
     exact ⟨s[i],List.getElem_mem hlt,by simpa using hc⟩
    ·have hc:(!((decide ((65:Int)≤(s[i].toNat:Int))&&decide ((s[i].toNat:Int)≤90))||(decide ((97:Int)≤(s[i].toNat:Int))&&decide ((s[i].toNat:Int)≤122)) ||
      (decide ((48:Int)≤(s[i].toNat:Int))&&decide ((s[i].toNat:Int)≤57))))=false:=hc
     rw [e] at hc
     conv=>whnf
     refine ⟨⟨by omega,by omega⟩,?_⟩
     conv=>whnf
     refine ⟨s.length - (i+1),by omega,i+1,rfl,rfl,rfl,by omega,fun j y hj hy=>?_⟩
     rcases Nat.lt_succ_iff_lt_or_eq.1 hj with h|rfl
     ·exact hg j y h hy
     ·rw [hx] at hy;cases hy;simpa using hc
   ·have hb:¬ (i:Int)<(s.length:Int):=of_decide_eq_false hb
    conv=>whnf
    refine ⟨congrArg AV.bool ?_,rfl⟩
    symm
    unfold codeOK
    rw [hpre,Bool.true_and,List.all_eq_true]
    intro y hy
    obtain ⟨j,hj,rfl⟩:=List.getElem_of_mem hy
    exact hg j _ (by omega) (List.getElem?_eq_getElem hj)
end Go.Abs.Wall
namespace Go.Abs.Wall
open Go Go.Abs Go.Proofs
structure Val where
 kind:Int
 text:List UInt8
 fr:Int
 to:Int
def encVal (v:Val):List AV:=[.int .i64 v.kind,.str v.text,.int .i64 v.fr,.int .i64 v.to]
def c98:Cfg:=⟨[0,1,2],[],[2],[],[],[]⟩
theorem of (v:Val):QCall Tryz.prog 98 [.agg (encVal v)] [] (.agg [.int .i64 v.kind,.str v.text]):=by
 refine acalls (fn:=Tryz.f98) (code:=(Tryz.f98.body.getD .skip)) (c:=c98) rfl rfl rfl mixed (by simp [Tryz.f98]) fun X=>?_
 conv=>whnf
 intro b
 conv=>whnf
 refine ⟨_,_,Rem.here _,⟨by simp,rfl⟩,?_⟩
 conv=>whnf
 exact ⟨rfl,rfl⟩
def meetB (a b:Val):Bool:=(decide (a.kind=b.kind)&&(decide (a.text=b.text)&&true))&&decide (a.fr≤b.to)&&decide (b.fr≤a.to)
def c70:Cfg:=⟨[0,1,2,3,4],[],[],[],[(1,[0,1,2,3,4,5,6,7,8,9,10,11,12,13,14,15,16,17,18,19],[])],[]⟩
theorem meet (a b:Val):QCall Tryz.prog 70 [.agg (encVal a),.agg (encVal b)] [] (.bool (meetB a b)):=by
 refine acalls (fn:=Tryz.f70) (code:=(Tryz.f70.body.getD .skip)) (c:=c70) rfl rfl rfl mixed (by simp [Tryz.f70]) fun X=>?_
 conv=>whnf
 refine ⟨rfl,?_⟩
 conv=>whnf
 refine ⟨_,(of a).wide _,?_⟩
 conv=>whnf
 refine ⟨_,(of b).wide _,?_⟩
 conv=>whnf
 refine ⟨by decide +kernel,?_⟩
 conv=>whnf
 exact ⟨rfl,rfl⟩
def c69:Cfg:=⟨[0,1,2,3],[],[],[],[],[]⟩
theorem meetF (v w:Val):QCall Tryz.prog 69 [.agg (encVal w),.iptr (encVal v)] [] (.bool (meetB v w)):=by
 refine acalls (fn:=Tryz.f69) (code:=(Tryz.f69.body.getD .skip)) (c:=c69) rfl rfl rfl mixed (by simp [Tryz.f69]) fun X=>?_
 conv=>whnf
 refine QCall.k0 (meet v w) ?_
 conv=>whnf
 exact ⟨rfl,rfl⟩
def firstI {α:Type} (p:α→Bool) (l:List α):Int:=
 match l.findIdx? p with
 | some i=>(i:Int)
 | none=>-1
theorem firstI_some {α:Type} {p:α→Bool} {l:List α} {i:Nat} (h:i<l.length) (hp:p l[i]=true) (hb:∀ j (hj:j<i),p (l[j]'(by omega))=false):firstI p l=(i:Int):=by
 unfold firstI
 have:l.findIdx? p=some i:=by
  rw [List.findIdx?_eq_some_iff_getElem]
  exact ⟨h,hp,fun j hj=>by simp [hb j hj]⟩
 rw [this]
theorem firstI_none {α:Type} {p:α→Bool} {l:List α} (hb:∀ j (hj:j<l.length),p l[j]=false):firstI p l = -1:=by
 unfold firstI
 have:l.findIdx? p=none:=by
  rw [List.findIdx?_eq_none_iff]
  intro x hx
  obtain ⟨j,hj,rfl⟩:=List.getElem_of_mem hx
  exact hb j hj
 rw [this]
def c97:Cfg:=⟨[0,1,4,5,7,8,9,16],[],[],[],[],[]⟩
theorem indexFuncV (l:List Val) (hl:l.length≤LMAX) (f:FuncId) (caps:List AV) (p:Val→Bool) (hp:∀ w∈l,QCall Tryz.prog f (.agg (encVal w)::caps) [] (.bool (p w))) :
  QCall Tryz.prog 97 [.sl 4 none (l.map encVal),.fn f caps] [] (.int .i64 (firstI p l)):=by
 refine acalls (fn:=Tryz.f97) (code:=(Tryz.f97.body.getD .skip)) (c:=c97) rfl rfl rfl mixed (by simp [Tryz.f97]) fun X=>?_
 unfold LMAX at hl
 conv=>whnf
 refine loop_ok (c:=c97) mixed [0,1,7,8] [] (fun m r h=>∃ i:Nat,r=[(0,[],.sl 4 none (l.map encVal)),(1,[],.fn f caps),(7,[],.int .i64 (l.map encVal).length),(8,[],.int .i64 i)]∧h=[]∧m=l.length - i∧i≤l.length∧∀ j (hj:j<i) (hj':j<l.length),p l[j]=false) ?_ ?_
 ·conv=>whnf
  exact ⟨_,0,rfl,rfl,rfl,by omega,by intro j hj;omega⟩
 ·rintro m r h ⟨i,rfl,rfl,rfl,hi,hg⟩
  conv=>whnf
  refine ⟨fun hb=>?_,fun hb=>?_⟩
  ·have hb:(i:Int)<((l.map encVal).length:Int):=of_decide_eq_true hb
   rw [List.length_map] at hb
   have hlt:i<l.length:=by omega
   conv=>whnf
   refine ⟨i,encVal l[i],⟨rfl,map_get hlt⟩,?_⟩
   conv=>whnf
   refine QCall.k0 (hp l[i] (List.getElem_mem hlt)) ?_
   conv=>whnf
   refine ⟨fun hc=>?_,fun hc=>?_⟩
   ·have hc:p l[i]=true:=hc
    conv=>whnf
    exact ⟨by rw [firstI_some hlt hc (fun j hj=>hg j hj (by omega))],rfl⟩
   ·have hc:p l[i]=false:=hc
    conv=>whnf
    refine ⟨⟨by omega,by omega⟩,?_⟩
    conv=>whnf
    refine ⟨l.length - (i+1),by omega,i+1,rfl,rfl,rfl,by omega,fun j hj hj'=>?_⟩
    rcases Nat.lt_succ_iff_lt_or_eq.1 hj with h|rfl
    ·exact hg j h hj'
    ·exact hc
  ·have hb:¬ (i:Int)<((l.map encVal).length:Int):=of_decide_eq_false hb
   rw [List.length_map] at hb
   conv=>whnf
   exact ⟨by rw [firstI_none (fun j hj=>hg j (by omega) hj)],rfl⟩
theorem firstI_any {α:Type} (p:α→Bool) (l:List α):decide (0≤firstI p l)=l.any p:=by
 unfold firstI
 cases h:l.findIdx? p with
 | none=>
   rw [List.findIdx?_eq_none_iff] at h
   have:l.any p=false:=by rw [List.any_eq_false];intro x hx;simp [h x hx]
   rw [this];rfl
 | some i=>
   rw [List.findIdx?_eq_some_iff_getElem] at h
   obtain ⟨h1,h2,_⟩:=h
   have:l.any p=true:=by rw [List.any_eq_true];exact ⟨l[i],List.getElem_mem h1,h2⟩
   rw [this]
   exact decide_eq_true (by show (0:Int)≤(i:Int);omega)
def c68:Cfg:=⟨[0,1,4],[],[],[],[],[]⟩
theorem containsFuncV (l:List Val) (hl:l.length≤LMAX) (f:FuncId) (caps:List AV) (p:Val→Bool) (hp:∀ w∈l,QCall Tryz.prog f (.agg (encVal w)::caps) [] (.bool (p w))) :
  QCall Tryz.prog 68 [.sl 4 none (l.map encVal),.fn f caps] [] (.bool (l.any p)):=by
 refine acalls (fn:=Tryz.f68) (code:=(Tryz.f68.body.getD .skip)) (c:=c68) rfl rfl rfl mixed (by simp [Tryz.f68]) fun X=>?_
 conv=>whnf
 refine QCall.k0 (indexFuncV l hl f caps p hp) ?_
 conv=>whnf
 exact ⟨congrArg AV.bool (firstI_any p l),rfl⟩
def textCh (kind:Int) (y:UInt8):Bool:=small y||(!decide (kind=3)&&big y)
def textOK (kind:Int) (s:List UInt8):Bool:=decide (1≤s.length)&&decide (s.length≤8)&&s.all (textCh kind)
def c67:Cfg:=⟨[0,1,4,5,6,14,18,42],[],[],[],[],[]⟩
theorem validText (kind:Int) (s:List UInt8) (hs:s.length≤LMAX):QCall Tryz.prog 67 [.int .i64 kind,.str s] [] (.bool (textOK kind s)):=by
 refine acalls (fn:=Tryz.f67) (code:=(Tryz.f67.body.getD .skip)) (c:=c67) rfl rfl rfl mixed (by simp [Tryz.f67]) fun X=>?_
 unfold LMAX at hs
 conv=>whnf
 refine ⟨fun hc=>?_,fun hc=>?_⟩
 ·have hc:(decide ((s.length:Int)<1)||decide (8<(s.length:Int)))=true:=hc
  conv=>whnf
  refine ⟨congrArg AV.bool ?_,rfl⟩
  symm
  simp only [Bool.or_eq_true,decide_eq_true_eq] at hc
  unfold textOK
  simp only [Bool.and_eq_false_iff,decide_eq_false_iff_not]
  omega
 ·have hc:(decide ((s.length:Int)<1)||decide (8<(s.length:Int)))=false:=hc
  simp only [Bool.or_eq_false_iff,decide_eq_false_iff_not] at hc
  have hpre:(decide (1≤s.length)&&decide (s.length≤8))=true:=by
   simp only [Bool.and_eq_true,decide_eq_true_eq]
   omega
  conv=>whnf
  refine loop_ok (c:=c67) mixed [0,1,5] [] (fun m r h=>∃ i:Nat,r=[(0,[],.int .i64 kind),(1,[],.str s),(5,[],.int .i64 i)]∧h=[]∧m=s.length - i∧i≤s.length∧∀ j y,j<i→s[j]?=some y→textCh kind y=true) ?_ ?_
  ·conv=>whnf
   exact ⟨_,0,rfl,rfl,rfl,by omega,by intro j y hj;omega⟩
  ·rintro m r h ⟨i,rfl,rfl,rfl,hi,hg⟩
   conv=>whnf
   refine ⟨fun hb=>?_,fun hb=>?_⟩
   ·have hb:(i:Int)<(s.length:Int):=of_decide_eq_true hb
    have hlt:i<s.length:=by omega
    have hx:=List.getElem?_eq_getElem hlt
    conv=>whnf
    refine ⟨i,s[i],⟨rfl,hx⟩,?_⟩
    have e:((decide ((97:Int)≤(s[i].toNat:Int))&&decide ((s[i].toNat:Int)≤122))||((!decide (kind=3)&&decide ((65:Int)≤(s[i].toNat:Int)))&&decide ((s[i].toNat:Int)≤90)))=textCh kind s[i]:=by
     unfold textCh big small
     rw [← le_cast,← le_cast,← le_cast',← le_cast',Bool.and_assoc]
     rfl
    conv=>whnf
    refine ⟨fun hc=>?_,fun hc=>?_⟩
    ·have hc:(!((decide ((97:Int)≤(s[i].toNat:Int))&&decide ((s[i].toNat:Int)≤122))||((!decide (kind=3)&&decide ((65:Int)≤(s[i].toNat:Int)))&&decide ((s[i].toNat:Int)≤90))))=true:=hc
     rw [e] at hc
     conv=>whnf
     refine ⟨congrArg AV.bool ?_,rfl⟩
     symm
     unfold textOK
     rw [Bool.and_eq_false_iff]
     right
     rw [List.all_eq_false]
     exact ⟨s[i],List.getElem_mem hlt,by simpa using hc⟩
    ·have hc:(!((decide ((97:Int)≤(s[i].toNat:Int))&&decide ((s[i].toNat:Int)≤122))||((!decide (kind=3)&&decide ((65:Int)≤(s[i].toNat:Int)))&&decide ((s[i].toNat:Int)≤90))))=false:=hc
     rw [e] at hc
     conv=>whnf
     refine ⟨⟨by omega,by omega⟩,?_⟩
     conv=>whnf
     refine ⟨s.length - (i+1),by omega,i+1,rfl,rfl,rfl,by omega,fun j y hj hy=>?_⟩
     rcases Nat.lt_succ_iff_lt_or_eq.1 hj with h|rfl
     ·exact hg j y h hy
     ·rw [hx] at hy;cases hy;simpa using hc
   ·have hb:¬ (i:Int)<(s.length:Int):=of_decide_eq_false hb
    conv=>whnf
    refine ⟨congrArg AV.bool ?_,rfl⟩
    symm
    unfold textOK
    rw [hpre,Bool.true_and,List.all_eq_true]
    intro y hy
    obtain ⟨j,hj,rfl⟩:=List.getElem_of_mem hy
    exact hg j _ (by omega) (List.getElem?_eq_getElem hj)
structure Sgn where
 code:List UInt8
 wide:Int
 high:Int
 even:Bool
 values:List Val
structure Lst where
 periods:Int
 signs:List Sgn
def encSgn (s:Sgn):List AV:=[.str s.code,.int .i64 s.wide,.int .i64 s.high,.bool s.even,.sl 4 none (s.values.map encVal)]
def encLst (l:Lst):List AV:=[.int .i64 l.periods,.sl 5 none (l.signs.map encSgn)]
def valErr (l:Lst) (before:List Val) (v:Val):Int:=
 if v.kind<1∨3<v.kind∨textOK v.kind v.text=false then 12
 else if v.fr<1∨v.to<v.fr∨l.periods<v.to then 13
 else if before.any (meetB v)=true then 12
 else 0
def c43:Cfg:=⟨[0,1,2,3,5,6,7,24,42],[],[],[],[],[]⟩
theorem checkValue (l:Lst) (before:List Val) (v:Val) (hb:before.length≤LMAX) (hv:v.text.length≤LMAX) :
  QCall Tryz.prog 43 [.agg (encLst l),.sl 4 none (before.map encVal),.agg (encVal v)] [] (.int .i64 (valErr l before v)):=by
 refine acalls (fn:=Tryz.f43) (code:=(Tryz.f43.body.getD .skip)) (c:=c43) rfl rfl rfl mixed (by simp [Tryz.f43]) fun X=>?_
 conv=>whnf
 refine ⟨_,fun h1=>validText v.kind v.text hv,?_⟩
 conv=>whnf
 refine ⟨fun hc=>?_,fun hc=>?_⟩
 ·have hc:(decide (v.kind<1)||decide (3<v.kind)||!(textOK v.kind v.text))=true:=hc
  conv=>whnf
  refine ⟨congrArg (AV.int .i64) ?_,rfl⟩
  unfold valErr
  rw [if_pos (by simpa [or_assoc] using hc)]
 ·have hc:(decide (v.kind<1)||decide (3<v.kind)||!(textOK v.kind v.text))=false:=hc
  have hc':¬ (v.kind<1∨3<v.kind∨textOK v.kind v.text=false):=by
   intro hh
   have:(decide (v.kind<1)||decide (3<v.kind)||!(textOK v.kind v.text))=true:=by simpa [or_assoc] using hh
   rw [hc] at this;cases this
  conv=>whnf
  refine ⟨fun hd=>?_,fun hd=>?_⟩
  ·have hd:(decide (v.fr<1)||decide (v.to<v.fr)||decide (l.periods<v.to))=true:=hd
   conv=>whnf
   refine ⟨congrArg (AV.int .i64) ?_,rfl⟩
   unfold valErr
   rw [if_neg hc',if_pos (by simpa [or_assoc] using hd)]
  ·have hd:(decide (v.fr<1)||decide (v.to<v.fr)||decide (l.periods<v.to))=false:=hd
   have hd':¬ (v.fr<1∨v.to<v.fr∨l.periods<v.to):=by
    intro hh
    have:(decide (v.fr<1)||decide (v.to<v.fr)||decide (l.periods<v.to))=true:=by simpa [or_assoc] using hh
    rw [hd] at this;cases this
   conv=>whnf
   refine QCall.k0 (containsFuncV before hb 69 [.iptr (encVal v)] (meetB v) (fun w _=>meetF v w)) ?_
   conv=>whnf
   refine ⟨fun he=>?_,fun he=>?_⟩
   ·have he:before.any (meetB v)=true:=he
    conv=>whnf
    refine ⟨congrArg (AV.int .i64) ?_,rfl⟩
    unfold valErr
    rw [if_neg hc',if_neg hd',if_pos he]
   ·have he:before.any (meetB v)=false:=he
    conv=>whnf
    refine ⟨congrArg (AV.int .i64) ?_,rfl⟩
    unfold valErr
    rw [if_neg hc',if_neg hd',if_neg (by rw [he];decide)]
end Go.Abs.Wall
namespace Go.Abs.Wall
open Go Go.Abs Go.Proofs
def Below {α:Type} (p:α→Bool) (l:List α) (i:Nat):Prop:=∀ j y,j<i→l[j]?=some y→p y=false
theorem Below.zero {α:Type} {p:α→Bool} {l:List α}:Below p l 0:=fun j y h=>by omega
theorem Below.succ {α:Type} {p:α→Bool} {l:List α} {i:Nat} {x:α} (h:Below p l i) (hx:l[i]?=some x) (hp:p x=false):Below p l (i+1):=by
 intro j y hj hy
 rcases Nat.lt_succ_iff_lt_or_eq.1 hj with h'|rfl
 ·exact h j y h' hy
 ·rw [hx] at hy;cases hy;exact hp
theorem Below.at {α:Type} {p:α→Bool} {l:List α} {i:Nat} {x:α} (hb:Below p l i) (hx:l[i]?=some x) (hp:p x=true):firstI p l=(i:Int):=by
 obtain ⟨h1,h2⟩:=List.getElem?_eq_some_iff.1 hx
 exact firstI_some h1 (by rw [h2];exact hp) (fun j hj=>hb j _ hj (List.getElem?_eq_getElem (by omega)))
theorem Below.all {α:Type} {p:α→Bool} {l:List α} {i:Nat} (hb:Below p l i) (hi:l.length≤i):∀ y∈l,p y=false:=by
 intro y hy
 obtain ⟨j,hj,rfl⟩:=List.getElem_of_mem hy
 exact hb j _ (by omega) (List.getElem?_eq_getElem hj)
theorem Below.end {α:Type} {p:α→Bool} {l:List α} {i:Nat} (hb:Below p l i) (hi:l.length≤i):firstI p l = -1:=
 firstI_none (fun j hj=>hb.all hi _ (List.getElem_mem hj))
def c105:Cfg:=⟨[0,1,4,5,7,8,9,16],[],[],[],[],[]⟩
def c84:Cfg:=⟨[0,1,4],[],[],[],[],[]⟩
theorem indexFuncI (l:List Int) (hl:l.length≤LMAX) (f:FuncId) (caps:List AV) (p:Int→Bool) (hp:∀ w∈l,QCall Tryz.prog f (.int .i64 w::caps) [] (.bool (p w))) :
  QCall Tryz.prog 105 [.sl 1 none (ints l),.fn f caps] [] (.int .i64 (firstI p l)):=by
 refine fcalls (F:=Tryz.f105) c105 rfl rfl rfl mixed rfl fun X=>?_
 conv=>whnf
 unfold LMAX at hl
 refine sloop rfl mixed [0,1,7,8] [] (fun m r h=>∃ (i:Nat),r=[(0,[],.sl 1 none (ints l)),(1,[],.fn f caps),(7,[],.int .i64 (ints l).length),(8,[],.int .i64 i)]∧h=[]∧m=l.length - i∧i≤l.length∧Below p l i) ?_ ?_
 ·conv=>whnf
  exact ⟨_,0,rfl,rfl,rfl,by omega,.zero⟩
 ·rintro m r h ⟨i,rfl,rfl,rfl,hi,hg⟩
  conv=>whnf
  refine ⟨fun hc=>?_,fun hc=>?_⟩<;>simp at hc
  ·obtain ⟨x,hx⟩:=get_lt hc
   conv=>whnf
   repeat ((first|refine ix (by assumption) ?_|(refine QCall.k0 (hp x (List.mem_of_getElem? hx)) ?_));conv=>whnf)
   refine ⟨fun hd=>?_,fun hd=>?_⟩
   ·conv=>whnf
    exact ⟨by rw [hg.at hx hd],rfl⟩
   ·conv=>whnf
    repeat (refine ⟨gP_of ⟨by omega,by omega⟩,?_⟩;conv=>whnf)
    exact ⟨_,by omega,i+1,rfl,rfl,rfl,by omega,hg.succ hx hd⟩
  ·conv=>whnf
   exact ⟨by rw [hg.end hc],rfl⟩
theorem containsFuncI (l:List Int) (hl:l.length≤LMAX) (f:FuncId) (caps:List AV) (p:Int→Bool) (hp:∀ w∈l,QCall Tryz.prog f (.int .i64 w::caps) [] (.bool (p w))) :
  QCall Tryz.prog 84 [.sl 1 none (ints l),.fn f caps] [] (.bool (l.any p)):=by
 refine fcalls (F:=Tryz.f84) c84 rfl rfl rfl mixed rfl fun X=>?_
 conv=>whnf
 refine QCall.k0 (indexFuncI l hl f caps p hp) ?_
 conv=>whnf
 exact ⟨congrArg AV.bool (firstI_any p l),rfl⟩
end Go.Abs.Wall
namespace Go.Abs.Wall
open Go Go.Abs Go.Proofs
def valsErr (l:Lst) (vs:List Val):List Val→Nat→Int
 | [],_=>0
 | v::t,i=>if valErr l (vs.take i) v≠0 then valErr l (vs.take i) v else valsErr l vs t (i+1)
def sgnErr (l:Lst) (s:Sgn):Int:=
 if s.wide<1∨12<s.wide∨s.high<1∨12<s.high then 11
 else if 12<s.values.length then 2
 else valsErr l s.values s.values 0
def lstGo (l:Lst):List Sgn→List (List UInt8)→Int
 | [],_=>0
 | s::t,seen=>if codeOK s.code=false∨s.code∈seen then 10 else if sgnErr l s≠0 then sgnErr l s else lstGo l t (seen++[s.code])
def lstErr (l:Lst):Int:=
 if 200<l.signs.length then 2
 else if l.periods<1∨9<l.periods then 13
 else lstGo l l.signs []
structure SgnFit (s:Sgn):Prop where
 code:s.code.length≤LMAX
 values:s.values.length≤LMAX
 texts:∀ v∈s.values,v.text.length≤LMAX
structure LstFit (l:Lst):Prop where
 signs:l.signs.length≤LMAX
 each:∀ s∈l.signs,SgnFit s
theorem eqStr (a b:List UInt8):eqV Tryz.prog 9 (.str a) (.str b)=some (decide (a=b)):=rfl
theorem plainStr:plainT Tryz.prog 9=true:=by decide +kernel
def ones (seen:List (List UInt8)):List (List UInt8 × Int):=seen.map fun c=>(c,1)
theorem ones_look (c:List UInt8) (seen:List (List UInt8)):(lookA c (ones seen)).getD 0=if c∈seen then 1 else 0:=by
 induction seen with
 | nil=>rfl
 | cons a t ih=>
   unfold ones at ih ⊢
   simp only [List.map_cons,lookA,List.mem_cons]
   by_cases h:c=a
   ·simp [h]
   ·simp [h,ih]
theorem ones_set (c:List UInt8) (seen:List (List UInt8)) (h:c ∉ seen):setA c 1 (ones seen)=ones (seen++[c]):=by
 induction seen with
 | nil=>rfl
 | cons a t ih=>
   simp only [List.mem_cons,not_or] at h
   unfold ones at ih ⊢
   simp only [List.map_cons,setA,List.cons_append]
   rw [if_neg h.1,ih h.2]
def c29:Cfg:=⟨[0,1,2,3,5,6,7,8,12,20,23,24,25,26,39,62,66,68,69,70,71,83],[],[5,7],[],[(19,[0,1,2,3,4,5,6,7],[])],[]⟩
set_option maxHeartbeats 1000000 in
theorem signsCheck (l:Lst) (hl:LstFit l):QCall Tryz.prog 29 [.agg (encLst l)] [] (.int .i64 (lstErr l)):=by
 have hl1:=hl.signs
 unfold LMAX at hl1
 refine QCall.of' (fcalls (F:=Tryz.f29) c29 rfl rfl rfl mixed rfl fun X=>?_)
 conv=>whnf
 refine ⟨fun hc=>?_,fun hc=>?_⟩<;>simp at hc
 ·conv=>whnf
  rw [lstErr,if_pos (by omega)]
 conv=>whnf
 refine ⟨fun hd=>?_,fun hd=>?_⟩<;>simp at hd
 ·conv=>whnf
  rw [lstErr,if_neg (by omega),if_pos (by omega)]
 have hgo:lstErr l=lstGo l l.signs []:=by rw [lstErr,if_neg (by omega),if_neg (by omega)]
 conv=>whnf
 intro bm
 conv=>whnf
 refine sloop rfl mixed [1,3,23,24,25] [] (fun m r h=>∃ (i:Nat) (seen:List (List UInt8)),r=[(1,[],.iptr (encLst l)),(3,[],.omap bm),(23,[],.sl 5 none (l.signs.map encSgn)),(24,[],.int .i64 (l.signs.map encSgn).length),(25,[],.int .i64 i)]∧h=[(bm,.map (encA AV.str (AV.int .i64) (ones seen)))]∧m=l.signs.length - i∧i≤l.signs.length∧lstErr l=lstGo l (l.signs.drop i) seen) ?_ ?_
 ·conv=>whnf
  exact ⟨_,0,[],rfl,rfl,rfl,by omega,hgo⟩
 ·rintro m r h ⟨i,seen,rfl,rfl,rfl,hi,hr⟩
  conv=>whnf
  refine ⟨fun he=>?_,fun he=>?_⟩<;>simp at he
  ·obtain ⟨s,hx⟩:=get_lt he
   have hf:=hl.each s (List.mem_of_getElem? hx)
   rw [drop_cons hx,lstGo] at hr
   conv=>whnf
   repeat ((first|refine ix (by assumption) ?_|refine ⟨_,_,Rem.here _,⟨Nat.le_of_ble_eq_true rfl,rfl⟩,?_⟩|intro (nb:Nat));conv=>whnf)
   refine QCall.k0 (validCode s.code hf.code) ?_
   conv=>whnf
   refine lkI (List.mem_singleton.2 rfl) eqStr plainStr ?_
   conv=>whnf
   rw [ones_look]
   refine ⟨fun hcc=>?_,fun hcc=>?_⟩
   ·have hcc:codeOK s.code=false∨s.code∈seen:=by
     by_cases hm:s.code∈seen
     ·exact .inr hm
     ·simp [hm] at hcc;exact .inl hcc
    conv=>whnf
    rw [hr,if_pos hcc]
   have hcc:¬ (codeOK s.code=false∨s.code∈seen):=by
    by_cases hm:s.code∈seen
    ·simp [hm] at hcc
    ·simp [hm] at hcc;simp [hm,hcc]
   rw [if_neg hcc] at hr
   conv=>whnf
   refine lkI (List.mem_singleton.2 rfl) eqStr plainStr ?_
   rw [ones_look]
   have hns:s.code ∉ seen:=fun h=>hcc (.inr h)
   rw [if_neg hns]
   conv=>whnf
   repeat (refine ⟨gP_of ⟨by omega,by omega⟩,?_⟩;conv=>whnf)
   refine upA eqStr plainStr (Upd.here _) ?_
   rw [show (0:Int)+1=1 from rfl,ones_set _ _ hns]
   conv=>whnf
   refine ⟨fun hz=>?_,fun hz=>?_⟩<;>simp at hz
   ·have hse:sgnErr l s=11:=by rw [sgnErr,if_pos (by omega)]
    rw [hse,if_pos (by decide)] at hr
    conv=>whnf
    rw [hr]
   conv=>whnf
   refine ⟨fun hy=>?_,fun hy=>?_⟩<;>simp at hy
   ·have hse:sgnErr l s=2:=by rw [sgnErr,if_neg (by omega),if_pos (by omega)]
    rw [hse,if_pos (by decide)] at hr
    conv=>whnf
    rw [hr]
   have hse:sgnErr l s=valsErr l s.values s.values 0:=by rw [sgnErr,if_neg (by omega),if_neg (by omega)]
   have hfv:=hf.values
   unfold LMAX at hfv
   conv=>whnf
   refine sloop rfl mixed [1,3,5,23,24,25,68,69,70] [] (fun m r h=>∃ (j:Nat),r=[(1,[],.iptr (encLst l)),(3,[],.omap bm),(5,[],.iptr (encSgn s)),(23,[],.sl 5 none (l.signs.map encSgn)),(24,[],.int .i64 (l.signs.map encSgn).length),(25,[],.int .i64 i),(68,[],.sl 4 none (s.values.map encVal)),(69,[],.int .i64 (s.values.map encVal).length),(70,[],.int .i64 j)]∧h=[(bm,.map (encA AV.str (AV.int .i64) (ones (seen++[s.code]))))]∧m=s.values.length - j∧j≤s.values.length∧sgnErr l s=valsErr l s.values (s.values.drop j) j) ?_ ?_
   ·conv=>whnf
    exact ⟨_,0,rfl,rfl,rfl,by omega,hse⟩
   ·rintro m r h ⟨j,rfl,rfl,rfl,hj,hv⟩
    conv=>whnf
    refine ⟨fun ha=>?_,fun ha=>?_⟩<;>simp at ha
    ·obtain ⟨v,hxv⟩:=get_lt ha
     have hvt:=hf.texts v (List.mem_of_getElem? hxv)
     rw [drop_cons hxv,valsErr] at hv
     conv=>whnf
     repeat ((first|refine ix (by assumption) ?_|refine ⟨_,_,Rem.here _,⟨Nat.le_of_ble_eq_true rfl,rfl⟩,?_⟩|refine And.intro (by show drawOK (opsAt Tryz.f29 _) _=true;decide +kernel) ?_|intro (nb:Nat));conv=>whnf)
     refine ⟨⟨by omega,by omega,by simp;omega⟩,?_⟩
     have hq:=checkValue l (s.values.take j) v (by simp [LMAX];omega) hvt
     rw [List.map_take] at hq
     conv=>whnf
     refine gcall hq ?_
     conv=>whnf
     refine ⟨fun hu=>?_,fun hu=>?_⟩<;>simp at hu
     ·rw [if_pos hu] at hv
      rw [hv,if_pos hu] at hr
      conv=>whnf
      rw [hr]
     ·rw [if_neg (by simpa using hu)] at hv
      conv=>whnf
      repeat (refine ⟨gP_of ⟨by omega,by omega⟩,?_⟩;conv=>whnf)
      exact ⟨_,by omega,j+1,rfl,rfl,rfl,by omega,hv⟩
    ·rw [drop_nil ha,valsErr] at hv
     rw [hv,if_neg (by decide)] at hr
     conv=>whnf
     repeat (refine ⟨gP_of ⟨by omega,by omega⟩,?_⟩;conv=>whnf)
     exact ⟨_,by omega,i+1,_,rfl,rfl,rfl,by omega,hr⟩
  ·rw [drop_nil he] at hr
   conv=>whnf
   rw [hr];rfl
end Go.Abs.Wall
namespace Go.Abs.Wall
open Go Go.Abs Go.Proofs
def c78:Cfg:=⟨[0,1,2,6],[],[],[],[],[]⟩
def c55:Cfg:=⟨[0,2,3,17,21,42],[],[],[],[],[]⟩
def c82:Cfg:=⟨[0,2,3,7,14],[],[],[],[],[]⟩
def c81:Cfg:=⟨[0,2,3,7,21],[],[],[],[],[]⟩
def c79:Cfg:=⟨[0,1,4,12,14],[],[],[],[],[]⟩
theorem between (c lo hi:Int):QCall Tryz.prog 78 [.int .u8 c,.int .u8 lo,.int .u8 hi] [] (.bool (decide (lo≤c)&&decide (c≤hi))):=by
 refine fcalls (F:=Tryz.f78) c78 rfl rfl rfl mixed rfl fun X=>?_
 conv=>whnf
 exact ⟨rfl,rfl⟩
theorem btw (y:UInt8) (a b:Nat):(decide ((a:Int)≤(y.toNat:Int))&&decide ((y.toNat:Int)≤(b:Int)))=(decide (a≤y.toNat)&&decide (y.toNat≤b)):=by
 rw [le_cast,le_cast']
theorem b97 (y:UInt8):(decide ((97:Int)≤(y.toNat:Int))&&decide ((y.toNat:Int)≤122))=small y:=btw y 97 122
theorem b65 (y:UInt8):(decide ((65:Int)≤(y.toNat:Int))&&decide ((y.toNat:Int)≤90))=big y:=btw y 65 90
theorem b48 (y:UInt8):(decide ((48:Int)≤(y.toNat:Int))&&decide ((y.toNat:Int)≤57))=digit y:=btw y 48 57
theorem refSmall (s:List UInt8) (hs:s.length≤LMAX):QCall Tryz.prog 82 [.str s] [] (.bool (s.all small)):=by
 refine fcalls (F:=Tryz.f82) c82 rfl rfl rfl mixed rfl fun X=>?_
 conv=>whnf
 unfold LMAX at hs
 refine sloop rfl mixed [0,3] [] (fun m r h=>∃ (i:Nat),r=[(0,[],.str s),(3,[],.int .i64 i)]∧h=[]∧m=s.length - i∧i≤s.length∧s.all small=(s.drop i).all small) ?_ ?_
 ·conv=>whnf
  exact ⟨_,0,rfl,rfl,rfl,by omega,rfl⟩
 ·rintro m r h ⟨i,rfl,rfl,rfl,hi,hr⟩
  conv=>whnf
  refine ⟨fun hc=>?_,fun hc=>?_⟩<;>simp at hc
  ·obtain ⟨y,hx⟩:=get_lt hc
   rw [drop_cons hx,List.all_cons] at hr
   conv=>whnf
   repeat ((first|refine sx (by assumption) ?_|refine QCall.k0 (between _ _ _) ?_);conv=>whnf)
   rw [b97]
   refine ⟨fun hd=>?_,fun hd=>?_⟩<;>simp at hd
   ·conv=>whnf
    exact ⟨by rw [hr,hd];rfl,rfl⟩
   ·rw [hd,Bool.true_and] at hr
    conv=>whnf
    repeat (refine ⟨gP_of ⟨by omega,by omega⟩,?_⟩;conv=>whnf)
    exact ⟨_,by omega,i+1,rfl,rfl,rfl,by omega,hr⟩
  ·rw [drop_nil hc] at hr
   conv=>whnf
   exact ⟨by rw [hr];rfl,rfl⟩
theorem refSounds (s:List UInt8) (hs:s.length≤LMAX):QCall Tryz.prog 81 [.str s] [] (.bool (s.all fun y=>small y||big y)):=by
 refine fcalls (F:=Tryz.f81) c81 rfl rfl rfl mixed rfl fun X=>?_
 conv=>whnf
 unfold LMAX at hs
 refine sloop rfl mixed [0,3] [] (fun m r h=>∃ (i:Nat),r=[(0,[],.str s),(3,[],.int .i64 i)]∧h=[]∧m=s.length - i∧i≤s.length∧(s.all fun y=>small y||big y)=(s.drop i).all fun y=>small y||big y) ?_ ?_
 ·conv=>whnf
  exact ⟨_,0,rfl,rfl,rfl,by omega,rfl⟩
 ·rintro m r h ⟨i,rfl,rfl,rfl,hi,hr⟩
  conv=>whnf
  refine ⟨fun hc=>?_,fun hc=>?_⟩<;>simp at hc
  ·obtain ⟨y,hx⟩:=get_lt hc
   rw [drop_cons hx,List.all_cons] at hr
   conv=>whnf
   repeat ((first|refine sx (by assumption) ?_|refine QCall.k0 (between _ _ _) ?_|refine gcall (between _ _ _) ?_);conv=>whnf)
   rw [b97,b65]
   refine ⟨fun hd=>?_,fun hd=>?_⟩
   ·conv=>whnf
    exact ⟨by rw [hr];simp at hd;simp [hd],rfl⟩
   ·rw [show (small y||big y)=true by simp at hd;cases h:small y<;>simp [h] at hd ⊢;exact hd,Bool.true_and] at hr
    conv=>whnf
    repeat (refine ⟨gP_of ⟨by omega,by omega⟩,?_⟩;conv=>whnf)
    exact ⟨_,by omega,i+1,rfl,rfl,rfl,by omega,hr⟩
  ·rw [drop_nil hc] at hr
   conv=>whnf
   exact ⟨by rw [hr];rfl,rfl⟩
theorem refCode (s:List UInt8) (hs:s.length≤LMAX):QCall Tryz.prog 55 [.str s] [] (.bool (codeOK s)):=by
 refine fcalls (F:=Tryz.f55) c55 rfl rfl rfl mixed rfl fun X=>?_
 conv=>whnf
 unfold LMAX at hs
 repeat ((first|(refine sxg ?_ ?_;(conv=>whnf);(intro h;simp at h;show 0≤0∧0<_;omega))|refine gcall (between _ _ _) ?_);conv=>whnf)
 rw [b65]
 refine ⟨fun hc=>?_,fun hc=>?_⟩
 ·conv=>whnf
  refine ⟨congrArg AV.bool ?_,rfl⟩
  symm
  simp only [Bool.or_eq_true,decide_eq_true_eq,Bool.not_eq_true'] at hc
  unfold codeOK
  simp only [Bool.and_eq_false_iff,decide_eq_false_iff_not]
  rcases hc with (hc|hc)|hc
  ·exact .inl (.inl (.inl (by omega)))
  ·exact .inl (.inl (.inr (by omega)))
  ·exact .inl (.inr hc)
 have hpre:(decide (1≤s.length)&&decide (s.length≤8)&&big (s[0]?.getD 0))=true:=by
  simp only [Bool.or_eq_false_iff,decide_eq_false_iff_not,Bool.not_eq_false'] at hc
  simp only [Bool.and_eq_true,decide_eq_true_eq]
  exact ⟨by omega,hc.2⟩
 have hco:codeOK s=s.all alnum:=by unfold codeOK;rw [hpre];rfl
 conv=>whnf
 refine sloop rfl mixed [0,3] [] (fun m r h=>∃ (i:Nat),r=[(0,[],.str s),(3,[],.int .i64 i)]∧h=[]∧m=s.length - i∧i≤s.length∧codeOK s=(s.drop i).all alnum) ?_ ?_
 ·conv=>whnf
  exact ⟨_,0,rfl,rfl,rfl,by omega,hco⟩
 ·rintro m r h ⟨i,rfl,rfl,rfl,hi,hr⟩
  conv=>whnf
  refine ⟨fun hc=>?_,fun hc=>?_⟩<;>simp at hc
  ·obtain ⟨y,hx⟩:=get_lt hc
   rw [drop_cons hx,List.all_cons] at hr
   conv=>whnf
   repeat ((first|refine sx (by assumption) ?_|refine QCall.k0 (between _ _ _) ?_|refine gcall (between _ _ _) ?_);conv=>whnf)
   rw [b97,b65,b48]
   refine ⟨fun hd=>?_,fun hd=>?_⟩
   ·conv=>whnf
    refine ⟨congrArg AV.bool ?_,rfl⟩
    rw [hr,show alnum y=false by unfold alnum;revert hd;cases small y<;>cases big y<;>cases digit y<;>decide];rfl
   ·rw [show alnum y=true by unfold alnum;revert hd;cases small y<;>cases big y<;>cases digit y<;>decide,Bool.true_and] at hr
    conv=>whnf
    repeat (refine ⟨gP_of ⟨by omega,by omega⟩,?_⟩;conv=>whnf)
    exact ⟨_,by omega,i+1,rfl,rfl,rfl,by omega,hr⟩
  ·rw [drop_nil hc] at hr
   conv=>whnf
   exact ⟨by rw [hr];rfl,rfl⟩
theorem refRight (kind:Int) (s:List UInt8) (hs:s.length≤LMAX):QCall Tryz.prog 79 [.int .i64 kind,.str s] [] (.bool (textOK kind s)):=by
 refine fcalls (F:=Tryz.f79) c79 rfl rfl rfl mixed rfl fun X=>?_
 conv=>whnf
 refine ⟨fun hc=>?_,fun hc=>?_⟩<;>simp at hc
 ·conv=>whnf
  refine ⟨congrArg AV.bool ?_,rfl⟩
  unfold textOK
  symm
  simp only [Bool.and_eq_false_iff,decide_eq_false_iff_not]
  omega
 have hpre:(decide (1≤s.length)&&decide (s.length≤8))=true:=by
  simp only [Bool.and_eq_true,decide_eq_true_eq];omega
 conv=>whnf
 refine ⟨fun hk=>?_,fun hk=>?_⟩<;>simp at hk
 ·conv=>whnf
  repeat (refine QCall.k0 (refSmall s hs) ?_;conv=>whnf)
  refine ⟨congrArg AV.bool ?_,rfl⟩
  unfold textOK
  rw [hpre,Bool.true_and]
  congr 1
  funext y
  unfold textCh
  simp [hk]
 ·conv=>whnf
  repeat (refine QCall.k0 (refSounds s hs) ?_;conv=>whnf)
  refine ⟨congrArg AV.bool ?_,rfl⟩
  unfold textOK
  rw [hpre,Bool.true_and]
  congr 1
  funext y
  unfold textCh
  simp [hk]
end Go.Abs.Wall
namespace Go.Abs.Wall
open Go Go.Abs Go.Proofs
def c80:Cfg:=⟨[0,1,2,3,4],[],[],[],[],[]⟩
def c56:Cfg:=⟨[0,1,2,4,5,10,20],[],[],[],[],[]⟩
def c57:Cfg:=⟨[0,1,2,4,5,6,7,25,29,34,57,73,76,85],[],[6],[],[(16,[0,1,2,3,4,5,6],[])],[]⟩
def c34:Cfg:=⟨[0,1,2,3,4,8,16,21,43,53],[],[],[],[(8,[0,1,2,3,4,5,6,7,8,9,10,11,12,13,14,15,16,17,18,19],[]),(10,[0,1,2,3,4,5,6,7,8],[])],[]⟩
theorem refCollide (a b:Val):QCall Tryz.prog 80 [.agg (encVal a),.agg (encVal b)] [] (.bool (meetB b a)):=by
 refine fcalls (F:=Tryz.f80) c80 rfl rfl rfl mixed rfl fun X=>?_
 conv=>whnf
 skip
 refine ⟨congrArg AV.bool ?_,rfl⟩
 unfold meetB
 rw [Bool.eq_iff_iff]
 simp only [Bool.and_eq_true,decide_eq_true_eq]
 constructor
 ·rintro ⟨⟨⟨h1,h2⟩,h3⟩,h4⟩
  exact ⟨⟨⟨h1.symm,h2.symm,trivial⟩,h4⟩,h3⟩
 ·rintro ⟨⟨⟨h1,h2,_⟩,h4⟩,h3⟩
  exact ⟨⟨⟨h1.symm,h2.symm⟩,h3⟩,h4⟩
theorem refIndex (l:Lst) (c:List UInt8) (hl:LstFit l):QCall Tryz.prog 56 [.agg (encLst l),.str c] [] (.int .i64 (firstI (fun s:Sgn=>decide (s.code=c)) l.signs)):=by
 refine fcalls (F:=Tryz.f56) c56 rfl rfl rfl mixed rfl fun X=>?_
 conv=>whnf
 have hl1:=hl.signs
 unfold LMAX at hl1
 refine sloop rfl mixed [1,2,5] [] (fun m r h=>∃ (i:Nat),r=[(1,[],.str c),(2,[],.iptr (encLst l)),(5,[],.int .i64 i)]∧h=[]∧m=l.signs.length - i∧i≤l.signs.length∧Below (fun s:Sgn=>decide (s.code=c)) l.signs i) ?_ ?_
 ·conv=>whnf
  exact ⟨_,0,rfl,rfl,rfl,by omega,.zero⟩
 ·rintro m r h ⟨i,rfl,rfl,rfl,hi,hg⟩
  conv=>whnf
  refine ⟨fun hc=>?_,fun hc=>?_⟩<;>simp at hc
  ·obtain ⟨x,hx⟩:=get_lt hc
   conv=>whnf
   repeat (refine ix (by assumption) ?_;conv=>whnf)
   refine ⟨fun hd=>?_,fun hd=>?_⟩
   ·conv=>whnf
    exact ⟨by rw [hg.at hx hd],rfl⟩
   ·conv=>whnf
    repeat (refine ⟨gP_of ⟨by omega,by omega⟩,?_⟩;conv=>whnf)
    exact ⟨_,by omega,i+1,rfl,rfl,rfl,by omega,hg.succ hx hd⟩
  ·conv=>whnf
   exact ⟨by rw [hg.end hc],rfl⟩
theorem refSign (l:Lst) (s:Sgn) (hf:SgnFit s):QCall Tryz.prog 57 [.agg (encSgn s),.int .i64 l.periods] [] (.int .i64 (sgnErr l s)):=by
 refine fcalls (F:=Tryz.f57) c57 rfl rfl rfl mixed rfl fun X=>?_
 conv=>whnf
 have hfv:=hf.values
 unfold LMAX at hfv
 refine ⟨fun hz=>?_,fun hz=>?_⟩<;>simp at hz
 ·conv=>whnf
  exact ⟨by rw [sgnErr,if_pos (by omega)],rfl⟩
 conv=>whnf
 refine ⟨fun hy=>?_,fun hy=>?_⟩<;>simp at hy
 ·conv=>whnf
  exact ⟨by rw [sgnErr,if_neg (by omega),if_pos (by omega)],rfl⟩
 have hse:sgnErr l s=valsErr l s.values s.values 0:=by rw [sgnErr,if_neg (by omega),if_neg (by omega)]
 conv=>whnf
 refine sloop rfl mixed [1,2,5] [] (fun m r h=>∃ (i:Nat),r=[(1,[],.int .i64 l.periods),(2,[],.iptr (encSgn s)),(5,[],.int .i64 i)]∧h=[]∧m=s.values.length - i∧i≤s.values.length∧sgnErr l s=valsErr l s.values (s.values.drop i) i) ?_ ?_
 ·conv=>whnf
  exact ⟨_,0,rfl,rfl,rfl,by omega,hse⟩
 ·rintro m r h ⟨i,rfl,rfl,rfl,hi,hr⟩
  conv=>whnf
  refine ⟨fun hc=>?_,fun hc=>?_⟩<;>simp at hc
  ·obtain ⟨v,hx⟩:=get_lt hc
   have hvt:=hf.texts v (List.mem_of_getElem? hx)
   rw [drop_cons hx,valsErr] at hr
   conv=>whnf
   repeat ((first|refine ix (by assumption) ?_|refine gcall (refRight v.kind v.text hvt) ?_|refine ⟨_,_,Rem.here _,⟨Nat.le_of_ble_eq_true rfl,rfl⟩,?_⟩|intro (nb:Nat));conv=>whnf)
   refine ⟨fun hd=>?_,fun hd=>?_⟩
   ·have he:valErr l (s.values.take i) v=12:=by unfold valErr;rw [if_pos (by simpa [or_assoc] using hd)]
    rw [he,if_pos (by decide)] at hr
    conv=>whnf
    exact ⟨by rw [hr],rfl⟩
   have hd':¬ (v.kind<1∨3<v.kind∨textOK v.kind v.text=false):=by
    intro hh
    have:(decide (v.kind<1)||decide (3<v.kind)||!(textOK v.kind v.text))=true:=by simpa [or_assoc] using hh
    rw [hd] at this;cases this
   conv=>whnf
   skip
   refine ⟨fun he=>?_,fun he=>?_⟩
   ·have he:valErr l (s.values.take i) v=13:=by unfold valErr;rw [if_neg hd',if_pos (by simpa [or_assoc] using he)]
    rw [he,if_pos (by decide)] at hr
    conv=>whnf
    exact ⟨by rw [hr],rfl⟩
   have he':¬ (v.fr<1∨v.to<v.fr∨l.periods<v.to):=by
    intro hh
    have:(decide (v.fr<1)||decide (v.to<v.fr)||decide (l.periods<v.to))=true:=by simpa [or_assoc] using hh
    rw [he] at this;cases this
   have hve:valErr l (s.values.take i) v=if (s.values.take i).any (meetB v)=true then 12 else 0:=by
    unfold valErr;rw [if_neg hd',if_neg he']
   conv=>whnf
   refine sloop rfl mixed [1,2,5,6,7] [] (fun m r h=>∃ (k:Nat),r=[(1,[],.int .i64 l.periods),(2,[],.iptr (encSgn s)),(5,[],.int .i64 i),(6,[],.iptr (encVal v)),(7,[],.int .i64 k)]∧h=[]∧m=i - k∧k≤i∧Below (meetB v) (s.values.take i) k) ?_ ?_
   ·conv=>whnf
    exact ⟨_,0,rfl,rfl,rfl,by omega,.zero⟩
   ·rintro m r h ⟨k,rfl,rfl,rfl,hk,hg⟩
    conv=>whnf
    refine ⟨fun ha=>?_,fun ha=>?_⟩<;>simp at ha
    ·obtain ⟨w,hxw⟩:=get_lt (show k<s.values.length by omega)
     have hxw':(s.values.take i)[k]?=some w:=by rw [List.getElem?_take_of_lt ha];exact hxw
     conv=>whnf
     repeat ((first|refine ix (by assumption) ?_|refine gcall (refCollide w v) ?_|refine And.intro (by show drawOK (opsAt Tryz.f57 _) _=true;decide +kernel) ?_);conv=>whnf)
     refine ⟨fun hm=>?_,fun hm=>?_⟩
     ·have:(s.values.take i).any (meetB v)=true:=List.any_eq_true.2 ⟨w,List.mem_of_getElem? hxw',hm⟩
      rw [hve,if_pos this,if_pos (by decide)] at hr
      conv=>whnf
      exact ⟨by rw [hr],rfl⟩
     ·conv=>whnf
      repeat (refine ⟨gP_of ⟨by omega,by omega⟩,?_⟩;conv=>whnf)
      exact ⟨_,by omega,k+1,rfl,rfl,rfl,by omega,hg.succ hxw' hm⟩
    ·have:¬ (s.values.take i).any (meetB v)=true:=by
      intro h
      obtain ⟨y,hy,hm⟩:=List.any_eq_true.1 h
      rw [hg.all (by simp;omega) y hy] at hm
      cases hm
     rw [hve,if_neg this,if_neg (by decide)] at hr
     conv=>whnf
     repeat (refine ⟨gP_of ⟨by omega,by omega⟩,?_⟩;conv=>whnf)
     exact ⟨_,by omega,i+1,rfl,rfl,rfl,by omega,hr⟩
  ·rw [drop_nil hc] at hr
   conv=>whnf
   exact ⟨by rw [hr];rfl,rfl⟩
theorem first_lt {l:List Sgn} {i:Nat} {s:Sgn} (hx:l[i]?=some s):firstI (fun x:Sgn=>decide (x.code=s.code)) l<(i:Int)↔s.code∈(l.take i).map Sgn.code:=by
 unfold firstI
 cases h:l.findIdx? (fun x:Sgn=>decide (x.code=s.code)) with
 | none=>
   rw [List.findIdx?_eq_none_iff] at h
   have:=h s (List.mem_of_getElem? hx)
   simp at this
 | some j=>
   rw [List.findIdx?_eq_some_iff_getElem] at h
   obtain ⟨h1,h2,h3⟩:=h
   simp only [decide_eq_true_eq] at h2 h3
   constructor
   ·intro hlt
    have hlt:j<i:=by simpa using hlt
    rw [← h2]
    refine List.mem_map.2 ⟨l[j],?_,rfl⟩
    exact List.mem_iff_getElem?.2 ⟨j,by rw [List.getElem?_take_of_lt hlt];exact List.getElem?_eq_getElem h1⟩
   ·intro hm
    obtain ⟨y,hy,hc⟩:=List.mem_map.1 hm
    obtain ⟨k,hk⟩:=List.mem_iff_getElem?.1 hy
    have hki:k<i:=by
     have:=(List.getElem?_eq_some_iff.1 hk).1
     simp at this;omega
    rw [List.getElem?_take_of_lt hki] at hk
    obtain ⟨hk1,hk2⟩:=List.getElem?_eq_some_iff.1 hk
    show (j:Int)<(i:Int)
    by_cases hjk:k<j
    ·have:=h3 k hjk
     rw [hk2] at this
     exact absurd hc this
    ·omega
theorem refCheck (l:Lst) (hl:LstFit l):QCall Tryz.prog 34 [.agg (encLst l)] [] (.int .i64 (lstErr l)):=by
 have hl1:=hl.signs
 unfold LMAX at hl1
 refine fcalls (F:=Tryz.f34) c34 rfl rfl rfl mixed rfl fun X=>?_
 conv=>whnf
 refine ⟨fun hc=>?_,fun hc=>?_⟩<;>simp at hc
 ·conv=>whnf
  exact ⟨by rw [lstErr,if_pos (by omega)],rfl⟩
 conv=>whnf
 refine ⟨fun hd=>?_,fun hd=>?_⟩<;>simp at hd
 ·conv=>whnf
  exact ⟨by rw [lstErr,if_neg (by omega),if_pos (by omega)],rfl⟩
 have hgo:lstErr l=lstGo l l.signs []:=by rw [lstErr,if_neg (by omega),if_neg (by omega)]
 conv=>whnf
 refine sloop rfl mixed [1,3] [] (fun m r h=>∃ (i:Nat),r=[(1,[],.iptr (encLst l)),(3,[],.int .i64 i)]∧h=[]∧m=l.signs.length - i∧i≤l.signs.length∧lstErr l=lstGo l (l.signs.drop i) ((l.signs.take i).map Sgn.code)) ?_ ?_
 ·conv=>whnf
  exact ⟨_,0,rfl,rfl,rfl,by omega,hgo⟩
 ·rintro m r h ⟨i,rfl,rfl,rfl,hi,hr⟩
  conv=>whnf
  refine ⟨fun he=>?_,fun he=>?_⟩<;>simp at he
  ·obtain ⟨s,hx⟩:=get_lt he
   have hf:=hl.each s (List.mem_of_getElem? hx)
   have hnext:(l.signs.take i).map Sgn.code++[s.code]=(l.signs.take (i+1)).map Sgn.code:=by
    rw [List.take_add_one,hx];simp
   rw [drop_cons hx,lstGo,hnext] at hr
   simp only [← first_lt hx] at hr
   conv=>whnf
   repeat ((first|refine ix (by assumption) ?_|refine gcall (refCode s.code hf.code) ?_|refine gcall (refIndex l s.code hl) ?_|refine And.intro (by show drawOK (opsAt Tryz.f34 _) _=true;decide +kernel) ?_);conv=>whnf)
   refine ⟨fun hcc=>?_,fun hcc=>?_⟩
   ·have hcc:codeOK s.code=false∨firstI (fun x:Sgn=>decide (x.code=s.code)) l.signs<(i:Int):=by
     simpa [or_comm] using hcc
    conv=>whnf
    exact ⟨by rw [hr,if_pos hcc],rfl⟩
   have hcc:¬ (codeOK s.code=false∨firstI (fun x:Sgn=>decide (x.code=s.code)) l.signs<(i:Int)):=by
    simp at hcc ⊢;exact ⟨hcc.1,hcc.2⟩
   rw [if_neg hcc] at hr
   conv=>whnf
   repeat ((first|refine ix (by assumption) ?_|refine gcall (refSign l s hf) ?_|refine And.intro (by show drawOK (opsAt Tryz.f34 _) _=true;decide +kernel) ?_);conv=>whnf)
   refine ⟨fun hu=>?_,fun hu=>?_⟩<;>simp at hu
   ·rw [if_pos hu] at hr
    conv=>whnf
    exact ⟨by rw [hr],rfl⟩
   ·rw [if_neg (by simpa using hu)] at hr
    conv=>whnf
    repeat (refine ⟨gP_of ⟨by omega,by omega⟩,?_⟩;conv=>whnf)
    exact ⟨_,by omega,i+1,rfl,rfl,rfl,by omega,hr⟩
  ·rw [drop_nil he] at hr
   conv=>whnf
   exact ⟨by rw [hr];rfl,rfl⟩
end Go.Abs.Wall
