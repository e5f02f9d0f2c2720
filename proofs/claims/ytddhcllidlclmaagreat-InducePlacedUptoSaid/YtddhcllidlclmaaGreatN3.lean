/- What is proved: small laws for the walks of this seat, and contracts of its functions. No condition but those each theorem names. -/
import Derived.Test.YtddhcllidlclmaaGreatN2
/-
 The abstract layer,part L: calls in a wider heap,weaker arguments and results.
-/
set_option linter.unusedVariables false
set_option linter.unusedSimpArgs false
namespace Go.Abs
open Go
variable {P:Program} {n:Nat} {X:Nat→Prop} {g0:Gh} {r:Regs} {h:Heap} {a:Act} {w:World}
theorem keys_append (h1 h2:Heap):keys (h1++h2)=keys h1++keys h2:=by simp [keys]
theorem live_shift (h1 h2:Heap):live (fun k=>X k∨k∈keys h2) h1=live X (h1++h2):=by
 funext k
 simp only [live,keys_append,List.mem_append,eq_iff_iff]
 constructor
 ·rintro ((h|h)|h)
  ·exact .inl h
  ·exact .inr (.inr h)
  ·exact .inr (.inl h)
 ·rintro (h|h|h)
  ·exact .inl (.inl h)
  ·exact .inr h
  ·exact .inl (.inr h)
theorem keys_of_mem {k:Nat} {o:Ob} (hm:(k,o)∈h):k∈keys h:=by simp only [keys,List.mem_map];exact ⟨_,hm,rfl⟩
theorem ACalls.frame {f:FuncId} {args:List AV} {R:AV→Heap→Prop} (hf:ACalls P f args h R) (h2:Heap) :
  ACalls P f args (h++h2) fun v h'=>∃ h1,R v h1∧h'=h1++h2:=by
 refine ⟨fun X g w us hc hr=>?_⟩
 have hnd:=hc.nodup
 rw [keys_append,List.nodup_append] at hnd
 obtain ⟨nd1,nd2,nd3⟩:=hnd
 have hlv:=live_shift (X:=X) h h2
 have hc':CW (fun k=>X k∨k∈keys h2) g h w:=by
  refine ⟨hc.own,?_,nd1,?_,?_⟩
  ·obtain ⟨N,hN⟩:=hc.bound
   refine ⟨N,fun k hk=>hN k ?_⟩
   rw [keys_append,List.mem_append]
   rcases hk with (h|h)|h|h
   ·exact .inl h
   ·exact .inr (.inl (.inr h))
   ·exact .inr (.inl (.inl h))
   ·exact .inr (.inr h)
  ·rintro k hk (hx|hk2)
   ·exact hc.sep k (by rw [keys_append,List.mem_append];exact .inl hk) hx
   ·exact nd3 k hk k hk2 rfl
  ·intro k o hm
   rw [hlv]
   exact hc.obj k o (List.mem_append.2 (.inl hm))
 refine (hf.1 _ g w us hc' (by rw [hlv];exact hr)).mono fun e w' he=>?_
 obtain ⟨v,u,g',h1,rfl,hR,hc1,hu,hs⟩:=he
 have hlv1:=live_shift (X:=X) h1 h2
 have hst:Step X g (h++h2) w g' (h1++h2) w':=by
  refine ⟨hs.os,hs.say,hs.output,hs.size,hs.pl,fun b k s e x=>hs.xow b k s e (.inl x),fun b k s e x=>hs.xow' b k s e (.inl x),fun k x e=>hs.xpl k (.inl x) e,?_,?_,?_⟩
  ·intro b hb hno
   obtain ⟨e1,e2⟩:=hs.old b hb (fun k s e hk=>hno k s e (by rw [keys_append,List.mem_append];exact .inl hk))
   refine ⟨e1,fun k s e hk=>?_⟩
   rw [keys_append,List.mem_append] at hk
   rcases hk with hk|hk
   ·exact e2 k s e hk
   ·exact hno k s (hs.xow' b k s e (.inr hk)) (by rw [keys_append,List.mem_append];exact .inr hk)
  ·intro b k s e hk cc t f hcc
   rw [keys_append,List.mem_append] at hk
   rcases hk with hk|hk
   ·exact hs.mine b k s e hk cc t f hcc
   ·obtain ⟨e1,_⟩:=hs.old b (hc.own _ _ _ e) (fun k' s' e' hk'=>by rw [e] at e';cases e';exact nd3 k hk' k hk rfl)
    exact ⟨cc,e1.trans hcc,rfl,fun _ _=>rfl⟩
  ·intro b k s e hk k' s' e' hl
   rw [keys_append,List.mem_append] at hk
   rcases hk with hk|hk
   ·exact hs.minefree b k s e hk k' s' e' (by rw [hlv1];exact hl)
   ·have:=hs.xow b k s e (.inr hk)
    rw [this] at e';cases e';exact Nat.le_refl _
 have hc2:CW X g' (h1++h2) w':=by
  refine ⟨hc1.own,?_,?_,?_,?_⟩
  ·obtain ⟨N,hN⟩:=hc1.bound
   refine ⟨N,fun k hk=>hN k ?_⟩
   rw [keys_append,List.mem_append] at hk
   rcases hk with h|(h|h)|h
   ·exact .inl (.inl h)
   ·exact .inr (.inl h)
   ·exact .inl (.inr h)
   ·exact .inr (.inr h)
  ·rw [keys_append,List.nodup_append]
   exact ⟨hc1.nodup,nd2,fun x hx y hy e=>hc1.sep x hx (.inr (e ▸ hy))⟩
  ·intro k hk hx
   rw [keys_append,List.mem_append] at hk
   rcases hk with hk|hk
   ·exact hc1.sep k hk (.inl hx)
   ·exact hc.sep k (by rw [keys_append,List.mem_append];exact .inr hk) hx
  ·intro k o hm
   rcases List.mem_append.1 hm with hm|hm
   ·have:=hc1.obj k o hm
    rw [hlv1] at this;exact this
   ·have hk:=keys_of_mem hm
    refine ObjRep.keep (c:=⟨g,live X (h++h2),w⟩) (Step.le hst) (hc.obj k o (List.mem_append.2 (.inr hm))) ?_ (fun e=>hs.xpl k (.inr hk) e)
    intro p hp ⟨s,ho⟩
    obtain ⟨e1,_⟩:=hs.old p.block (hc.own _ _ _ ho) (fun k' s' e' hk'=>by simp only at ho;rw [ho] at e';cases e';exact nd3 k hk' k hk rfl)
    exact ⟨e1,(hs.xow _ _ _ ho (.inr hk)).trans ho.symm⟩
 exact ⟨v,u,g',h1++h2,rfl,⟨h1,hR,rfl⟩,hc2,by rw [← hlv1];exact hu,hst⟩
theorem ACalls.pre {f:FuncId} {args:List AV} {R:AV→Heap→Prop} {h':Heap} (hf:ACalls P f args h R) (hsub:∀ k o,(k,o)∈h→(k,o)∈h')
  (hnd:(keys h').Nodup→(keys h).Nodup):ACalls P f args h' R:=by
 refine ⟨fun X g w us hc hr=>?_⟩
 obtain ⟨c1,s1⟩:=hc.sub hsub (hnd hc.nodup)
 refine (hf.1 X g w us c1 (RepVs.mono (Step.le s1) _ _ hr)).mono fun e w' he=>?_
 obtain ⟨v,u,g',h1,rfl,hR,hc1,hu,hs⟩:=he
 exact ⟨v,u,g',h1,rfl,hR,hc1,hu,s1.trans hc.own hs⟩
def VLe (x y:AV):Prop:=∀ c u,Rep c x u→Rep c y u
theorem VLe.refl (x:AV):VLe x x:=fun _ _ h=>h
theorem VLe.sl {k:Nat} {t:Option Nat} {xs:List (List AV)}:VLe (.sl k t xs) (.sl k none xs):=by
 intro c u h
 simp only [Rep] at h ⊢
 obtain ⟨base,cap,hv,h1,h2,h3,h4,h5,h6,h7⟩:=h
 exact ⟨base,cap,hv,h1,h2,h3,h4,h5,h6,by simp⟩
theorem VLe.nil {k:Nat} (hk:0<k):VLe .nilS (.sl k none []):=by
 intro c u h
 simp only [Rep] at h ⊢
 exact ⟨none,0,by simpa using h,by simp,by simp,hk,by simp,by simp,by simp,by simp⟩
inductive VsLe:List AV→List AV→Prop
 | nil:VsLe [] []
 | cons {x y:AV} {xs ys:List AV}:VLe x y→VsLe xs ys→VsLe (x::xs) (y::ys)
theorem VsLe.refl:∀ xs,VsLe xs xs
 | []=>.nil
 | x::xs=>.cons (VLe.refl x) (VsLe.refl xs)
theorem VsLe.rep {c:Cx}:∀ {xs ys:List AV} {us:List Value},VsLe xs ys→RepVs c xs us→RepVs c ys us
 | _,_,us,.nil,h=>h
 | _,_,us,.cons h1 h2,h=>by
   simp only [RepVs] at h ⊢
   obtain ⟨u,r,rfl,a1,a2⟩:=h
   exact ⟨u,r,rfl,h1 _ _ a1,h2.rep a2⟩
theorem VLe.tup {xs ys:List AV} (h:VsLe xs ys):VLe (.tup xs) (.tup ys):=by
 intro c u hu
 simp only [Rep] at hu ⊢
 obtain ⟨us,hv,hr⟩:=hu
 exact ⟨us,hv,h.rep hr⟩
theorem VLe.agg {xs ys:List AV} (h:VsLe xs ys):VLe (.agg xs) (.agg ys):=by
 intro c u hu
 simp only [Rep] at hu ⊢
 obtain ⟨us,hv,h1,hr⟩:=hu
 exact ⟨us,hv,h1,h.rep hr⟩
theorem ACalls.args {f:FuncId} {args args':List AV} {R:AV→Heap→Prop} (hf:ACalls P f args' h R) (hl:VsLe args args'):ACalls P f args h R:=
 ⟨fun X g w us hc hr=>hf.1 X g w us hc (hl.rep hr)⟩
theorem ACalls.post {f:FuncId} {args:List AV} {R R':AV→Heap→Prop} (hf:ACalls P f args h R)
  (hp:∀ v h1,R v h1→∃ v' h',R' v' h'∧VLe v v'∧(∀ k o,(k,o)∈h'→(k,o)∈h1)∧((keys h1).Nodup→(keys h').Nodup)):ACalls P f args h R':=by
 refine ⟨fun X g w us hc hr=>?_⟩
 refine (hf.1 X g w us hc hr).mono fun e w' he=>?_
 obtain ⟨v,u,g',h1,rfl,hR,hc1,hu,hs⟩:=he
 obtain ⟨v',h',k1,k2,k3,k4⟩:=hp v h1 hR
 obtain ⟨d1,d2⟩:=hc1.sub k3 (k4 hc1.nodup)
 exact ⟨v',u,g',h',rfl,k1,d1,Rep.mono (Step.le d2) _ _ (k2 _ _ hu),hs.trans hc.own d2⟩
theorem QCall.wide {f:FuncId} {args:List AV} {v:AV} (hq:QCall P f args [] v) (h:Heap):QCall P f args h v:=by
 have:=ACalls.frame hq h
 refine ACalls.post (by simpa using this) ?_
 rintro v' h' ⟨h1,⟨h2,rfl⟩,rfl⟩
 exact ⟨v',_,⟨h2,rfl⟩,VLe.refl _,by simp,by simp⟩
theorem QCall.more {f:FuncId} {args:List AV} {v:AV} {x:Nat × Ob} (hq:QCall P f args h v):QCall P f args (x::h) v:=by
 have:=ACalls.frame hq [x]
 have hnd:∀ {l:Heap},(keys (x::l)).Nodup↔(keys (l++[x])).Nodup:=by
  intro l
  simp only [keys,List.map_cons,List.map_append,List.map_nil,List.nodup_cons,List.nodup_append]
  constructor
  ·rintro ⟨a,b⟩
   exact ⟨b,by simp,fun y hy z hz=>by simp at hz;subst hz;rintro rfl;exact a hy⟩
  ·rintro ⟨a,b,c⟩
   exact ⟨fun hm=>c _ hm _ (by simp) rfl,a⟩
 refine ACalls.post (ACalls.pre this (h':=x::h) ?_ hnd.1) ?_
 ·intro k o hm
  simp only [List.mem_append,List.mem_singleton,List.mem_cons,List.not_mem_nil,or_false] at hm ⊢
  exact hm.symm
 ·rintro v' h' ⟨h1,⟨rfl,rfl⟩,rfl⟩
  refine ⟨v',x::h1,⟨rfl,rfl⟩,VLe.refl _,?_,hnd.2⟩
  intro k o hm
  simp only [List.mem_append,List.mem_singleton,List.mem_cons,List.not_mem_nil,or_false] at hm ⊢
  exact hm.symm
theorem QCall.args {f:FuncId} {args args':List AV} {v:AV} (hq:QCall P f args' h v) (hl:VsLe args args'):QCall P f args h v:=ACalls.args hq hl
theorem gP_mono {g:G} {p q:Prop} (h:p→q):gP g p→gP g q:=by
 induction g with
 | nil=>exact h
 | cons e g ih=>exact fun hp he=>ih (hp he)
theorem opQ_more {g:G} {K:AV→Prop} {op:Op} {x:Nat × Ob} (hq:opQ P r g h K op):opQ P r g (x::h) K op:=by
 by_cases hf:hfree r g op=true
 ·exact opQ_free hf hq
 cases op
 case load t y=>
  simp only [opQ] at hq ⊢
  split at hq
  ·exact hq
  ·obtain ⟨cs,l,h1,h2⟩:=hq
   exact ⟨cs,l,List.mem_cons_of_mem _ h1,h2⟩
  ·exact hq
 case call cl=>
  revert hq
  unfold opQ
  simp only
  split
  ·exact fun hh=>hh
  ·exact fun hh=>hh
  ·exact fun hh=>hh
  ·exact fun hh=>hh
  ·split
   ·rintro ⟨v,h1,h2⟩;exact ⟨v,gP_mono QCall.more h1,h2⟩
   ·exact fun hh=>hh
  ·split
   ·split
    ·rintro ⟨v,h1,h2⟩;exact ⟨v,gP_mono QCall.more h1,h2⟩
    ·exact fun hh=>hh
   ·exact fun hh=>hh
  ·exact fun hh=>hh
 case lookup t x i ok=>
  revert hq
  unfold opQ
  simp only
  repeat' split
  all_goals first
   | exact fun hh=>hh
   | exact fun ⟨es,v,f,h1,h2⟩=>⟨es,v,f,List.mem_cons_of_mem _ h1,h2⟩
 all_goals exact absurd rfl hf
end Go.Abs
/-
 The abstract layer,part M: regions whose order is drawn.
-/
namespace Go.Abs
open Go
variable {P:Program} {n:Nat} {X:Nat→Prop} {g0:Gh} {r:Regs} {h:Heap} {a:Act} {w:World}
theorem opL_congr {r1 r2:Regs} {K:AV→Heap→Prop} {op:Op} (h':∀ t∈readsX op.operands.toList,lookR r1 t=lookR r2 t) (hq:opL P r1 h K op):opL P r2 h K op:=by
 have hx:∀ g,∀ x∈op.operands.toList,opnd r1 g x=opnd r2 g x:=by
  intro g x hx
  exact opnd_congr fun t ht=>h' t (mem_readsX (ht ▸ hx))
 clear h'
 cases op
 case call cl=>
  have hargs:∀ g,opnds r1 g cl.args.toList=opnds r2 g cl.args.toList:=fun g=>opnds_congr fun x hx'=>hx g x (by simp [Op.operands,Call.operands];exact .inr (by simpa using hx'))
  have hcal:∀ g t,cl.callee=.value (.tmp t)→opnd r1 g (.tmp t)=opnd r2 g (.tmp t):=fun g t ht=>hx g _ (by simp [Op.operands,Call.operands,ht])
  clear hx
  revert hq
  unfold opL
  simp only [hargs]
  split
  all_goals first|exact fun hh=>hh|skip
  rename_i t ht
  rw [hcal _ _ ht]
  exact fun hh=>hh
 case buildSlice t m ps=>
  simp only [opL] at hq ⊢
  revert hq
  split
  ·rw [← elemsOf_congr (r1:=r1) (fun x hx'=>hx [] x (by simpa [Op.operands] using hx'))]
   exact fun hh=>hh
  ·exact fun hh=>hh
 case makeMap t rr=>cases rr<;>first|exact hq|(simp [opL] at hq;done)
 case binOp op t x y yt=>
  cases op<;>try (simp [opL] at hq;done)
  simp only [opL] at hq ⊢
  rw [← hx [] x (by simp [Op.operands]),← hx [] y (by simp [Op.operands])]
  exact hq
 case box t x=>
  simp only [opL] at hq ⊢
  rw [← hx [] x (by simp [Op.operands])]
  exact hq
 case store t x y=>
  simp only [opL] at hq ⊢
  rw [← hx [] x (by simp [Op.operands]),← hx [] y (by simp [Op.operands])]
  exact hq
 case makeSlice t x y=>
  simp only [opL] at hq ⊢
  rw [← hx [] x (by simp [Op.operands]),← hx [] y (by simp [Op.operands])]
  exact hq
 case alloc t=>exact hq
 case range t x=>
  simp only [opL] at hq ⊢
  rw [← hx [] x (by simp [Op.operands])]
  exact hq
 case next x sb=>
  cases sb
  ·simp only [opL] at hq ⊢
   rw [← hx [] x (by simp [Op.operands])]
   exact hq
  ·simp only [opL] at hq ⊢
   rw [← hx [] x (by simp [Op.operands])]
   exact hq
 case entry x=>
  simp only [opL] at hq ⊢
  rw [← hx [] x (by simp [Op.operands])]
  exact hq
 case mapUpdate t m k x=>
  simp only [opL] at hq ⊢
  rw [← hx [] m (by simp [Op.operands]),← hx [] k (by simp [Op.operands]),← hx [] x (by simp [Op.operands])]
  exact hq
 all_goals (simp [opL] at hq)
theorem opL_alloc {K:AV→Heap→Prop} {op:Op} (ha:allocLike op=true) (hq:opL P r h K op):opL P r h (fun v h'=>K v h'∧∃ x,h'=x::h) op:=by
 cases op
 case alloc t=>
  simp only [opL] at hq ⊢
  revert hq
  split
  ·exact fun hh b=>⟨hh b,_,rfl⟩
  ·exact fun hh=>hh
 case box t x=>
  simp only [opL] at hq ⊢
  revert hq
  repeat' split
  all_goals first|exact fun hh=>hh.elim|exact fun hh b=>⟨hh b,_,rfl⟩
 case makeMap t rr=>
  cases rr
  ·simp only [opL] at hq ⊢;exact fun b=>⟨hq b,_,rfl⟩
  ·simp [opL] at hq
 case makeSlice t x y=>
  simp only [opL] at hq ⊢
  revert hq
  repeat' split
  all_goals first|exact fun hh=>hh.elim|exact fun hh=>⟨hh.1,fun b=>⟨hh.2 b,_,rfl⟩⟩
 case buildSlice t m ps=>
  simp only [opL] at hq ⊢
  revert hq
  repeat' split
  all_goals first|exact fun hh=>hh.elim|exact fun hh b=>⟨hh b,_,rfl⟩
 all_goals (simp [allocLike] at ha)
theorem opX_congr {r1 r2:Regs} {K:AV→Heap→Prop} {op:Op} {own own2:List Nat} {d:Option Nat} (h':∀ t∈readsX op.operands.toList,lookR r1 t=lookR r2 t) (hq:opX P own own2 d r1 h K op):opX P own own2 d r2 h K op:=by
 have hx:∀ g,∀ x∈op.operands.toList,opnd r1 g x=opnd r2 g x:=by
  intro g x hx
  exact opnd_congr fun t ht=>h' t (mem_readsX (ht ▸ hx))
 unfold opX at hq ⊢
 split at hq
 ·rename_i cl d
  split at hq
  ·skip
   have hargs:∀ g,opnds r1 g cl.args.toList=opnds r2 g cl.args.toList:=fun g=>opnds_congr fun x hx'=>hx g x (by simp [Op.operands,Call.operands];exact .inr (by simpa using hx'))
   unfold opO at hq ⊢
   simp only [hargs] at hq
   exact hq
  ·skip
   exact opL_congr h' hq
 ·rename_i t m parts d
  split at hq
  ·skip
   unfold opB at hq ⊢
   revert hq
   split
   ·rw [← elemsOf_congr (r1:=r1) (fun x hx'=>hx [] x (by simpa [Op.operands] using hx'))]
    exact fun hh=>hh
   ·exact fun hh=>hh
  ·skip
   exact opL_congr h' hq
 ·exact opL_congr h' hq
theorem opX_alloc {K:AV→Heap→Prop} {op:Op} {own own2:List Nat} {d:Option Nat} (ha:allocLike op=true) (hq:opX P own own2 d r h K op):opX P own own2 d r h (fun v h'=>K v h'∧∃ x,h'=x::h) op:=by
 unfold opX at hq ⊢
 split at hq
 ·simp [allocLike] at ha
 ·split at hq
  ·skip
   unfold opB at hq ⊢
   revert hq
   repeat' split
   all_goals first|exact fun hh=>hh.elim|exact fun hh b=>⟨hh b,_,rfl⟩
  ·skip
   exact opL_alloc ha hq
 ·exact opL_alloc ha hq
theorem entryQ_val {all:List Oper} {K:G→AV→Prop} {o:Oper} (hq:entryQ P all r h K o):∃ g v,K g v∧entryQ P all r h (fun g' v'=>g'=g∧v'=v) o:=by
 unfold entryQ at hq ⊢
 split at hq
 ·obtain ⟨v,h1,h2⟩:=opQ_val hq
  exact ⟨_,v,h1,by simpa using h2⟩
 ·split at hq<;>try contradiction
  split at hq<;>try contradiction
  split at hq<;>try contradiction
  obtain ⟨v,h1,h2⟩:=opQ_val hq
  exact ⟨_,v,h1,by simp [*]⟩
theorem opQ_mono {g:G} {K K':AV→Prop} {op:Op} (hk:∀ v,K v→K' v) (hq:opQ P r g h K op):opQ P r g h K' op:=by
 obtain ⟨v,h1,h2⟩:=opQ_val hq
 have:(fun x=>x=v)=fun x=>x=v∧K' x:=by
  funext x;simp only [eq_iff_iff];exact ⟨fun e=>⟨e,e ▸ hk v h1⟩,fun e=>e.1⟩
 rw [this] at h2
 clear this
 -- from the conjunction to its second half,by the same road
 have key:∀ {K1 K2:AV→Prop},(∀ v,K1 v→K2 v)→opQ P r g h K1 op→opQ P r g h K2 op:=by
  intro K1 K2 hk
  have har:∀ {k:IntKind} {m:Int},arith g k m K1→arith g k m K2:=by
   intro k m hh
   unfold arith at hh ⊢
   cases k<;>first|exact ⟨hh.1,hk _ hh.2⟩|exact hk _ hh
  have hld:∀ {t:TypeId} {cs:List AV},loadI P t cs K1→loadI P t cs K2:=by
   intro t cs
   unfold loadI
   repeat' split
   all_goals first|exact hk _|exact fun hh=>hh
  have hbin:∀ {t:TypeId} {op:BinOp} {x y:AV},binP P g t op x y K1→binP P g t op x y K2:=by
   intro t op x y
   unfold binP
   simp only [eqK_iff]
   repeat' split
   all_goals first
    | exact fun hh=>hh.elim
    | exact hk _
    | exact fun hh=>⟨hh.1,hk _ hh.2⟩
    | exact fun hh=>⟨hh.1,har hh.2⟩
    | exact fun hh=>⟨hh.1,hh.2.1,har hh.2.2⟩
    | exact fun hh=>⟨hh.1,hh.2.1,hk _ hh.2.2⟩
  have hlen:∀ {d:Option TypeDesc} {x:AV},lenP d x K1→lenP d x K2:=by
   intro d x
   unfold lenP
   repeat' split
   all_goals first|exact hk _|exact fun hh=>hh
  have hsl:∀ {x:AV} {lo hi:Int} {b:Bool},sliceP g x lo hi b K1→sliceP g x lo hi b K2:=by
   intro x lo hi b
   unfold sliceP
   repeat' split
   all_goals first|exact fun hh=>hh.elim|exact fun hh=>⟨hh.1,hk _ hh.2⟩
  have hru:∀ {s:TypeId} {xs:List (List AV)},runesP P s xs K1→runesP P s xs K2:=by
   intro s xs
   unfold runesP
   repeat' split
   all_goals first|exact fun hh=>hh.elim|exact fun ⟨ns,h1,hh⟩=>⟨ns,h1,hk _ hh⟩
  unfold opQ
  repeat' split
  all_goals first
   | exact fun hh=>hh.elim
   | exact hk _
   | exact hru
   | exact hld
   | exact har
   | exact hbin
   | exact hlen
   | exact hsl
   | exact fun ⟨cs,l,h1,h2,hq⟩=>⟨cs,l,h1,h2,hld hq⟩
   | exact fun ⟨j,y,h1,hq⟩=>⟨j,y,h1,hk _ hq⟩
   | exact fun ⟨es,v,f,h1,h2,hq⟩=>⟨es,v,f,h1,h2,hk _ hq⟩
   | exact fun ⟨j,l,h1,h2,hq⟩=>⟨j,l,h1,h2,hk _ hq⟩
   | exact fun ⟨h1,hq⟩=>⟨h1,hk _ hq⟩
   | exact fun ⟨j,h1,hq⟩=>⟨j,h1,hk _ hq⟩
 exact key (fun v h=>h.2) h2
theorem entryQ_heap {all:List Oper} {K:G→AV→Prop} {o:Oper} {h':Heap} (hh:∀ g K,opQ P r g h K o.op→opQ P r g h' K o.op) (hq:entryQ P all r h K o):entryQ P all r h' K o:=by
 unfold entryQ at hq ⊢
 split at hq
 ·rename_i hgd
  try simp only [hgd]
  exact hh _ _ hq
 ·rename_i j wt hgd
  split at hq<;>try contradiction
  rename_i oj h1
  split at hq<;>try contradiction
  rename_i tj h2
  split at hq<;>try contradiction
  rename_i gj b h3
  try simp only [hgd,h1,h2,h3]
  exact hh _ _ hq
theorem entryQ_free {all:List Oper} {g:G} {v:AV} {o:Oper} {h':Heap} (hf:hfree r g o.op=true) (hq:entryQ P all r h (fun g' v'=>g'=g∧v'=v) o) :
  entryQ P all r h' (fun g' v'=>g'=g∧v'=v) o:=by
 unfold entryQ at hq ⊢
 split at hq
 ·rename_i hg
  obtain ⟨_,hgg,_⟩:=opQ_some hq
  subst hgg
  exact opQ_free hf hq
 ·rename_i j wt hgd
  split at hq<;>try contradiction
  rename_i oj h1
  split at hq<;>try contradiction
  rename_i tj h2
  split at hq<;>try contradiction
  rename_i gj b h3
  try simp only [hgd,h1,h2,h3]
  obtain ⟨_,hgg,_⟩:=opQ_some hq
  subst hgg
  exact opQ_free hf hq
theorem entryQ_congr {all:List Oper} {r1 r2:Regs} {K:G→AV→Prop} {o:Oper} (h':∀ t∈readsOf all o,lookR r1 t=lookR r2 t) (hq:entryQ P all r1 h K o):entryQ P all r2 h K o:=by
 have hop:∀ t∈readsX o.op.operands.toList,lookR r1 t=lookR r2 t:=fun t ht=>h' t (by unfold readsOf;exact List.mem_append_right _ ht)
 unfold entryQ at hq ⊢
 split at hq
 ·rename_i hgd
  try simp only [hgd]
  exact opQ_congr hop hq
 ·rename_i j wt hgd
  split at hq<;>try contradiction
  rename_i oj h1
  split at hq<;>try contradiction
  rename_i tj h2
  have:=h' tj (by unfold readsOf;simp [hgd,h1,h2])
  rw [this] at hq
  split at hq<;>try contradiction
  rename_i gj b h3
  try simp only [hgd,h1,h2,h3]
  exact opQ_congr hop hq
theorem entryQ_ok {all:List Oper} {gg:G} {vv:AV} {o:Oper} {i:Nat} {K:Act→World→Prop} {Q:Exit→Act→World→Prop} (hE:entryQ P all r h (fun g v=>g=gg∧v=vv) o) (hc:Conc n X g0 r h a w)
  (hi:all.toArray[i]?=some o)
  (hn:∀ g' u w',CW X g' h w'→Step X g0 h w g' h w'→(holdsC a gg→(∀ e∈gg,e.2.1=e.2.2)∧Rep ⟨g',live X h,w'⟩ vv u)→(¬ holdsC a gg→u=undef)→K (a.put o.dst u) w') :
  wpOp P all.toArray Q i K a w:=by
 have hg0:holdsC a []:=fun e he=>by cases he
 unfold wpOp
 simp only [hi]
 unfold entryQ at hE
 split at hE
 ·rename_i hgd
  rw [if_pos (wanted_none hgd)]
  left
  obtain ⟨_,hgg,_⟩:=opQ_some hE
  subst hgg
  refine opQ_ok hE hc hg0 (by simp) ?_
  rintro v g' u w' ⟨_,rfl⟩ hcw hrep hst
  exact hn g' u w' hcw hst (fun _=>⟨by simp,hrep⟩) (fun hh=>absurd hg0 hh)
 ·rename_i j wt hgd
  split at hE<;>try contradiction
  rename_i oj hoj
  split at hE<;>try contradiction
  rename_i tj htj
  split at hE<;>try contradiction
  rename_i gj b hlk
  obtain ⟨_,hgg,_⟩:=opQ_some hE
  have hreg:=hc.regs tj gj (.bool b) hlk
  have hy:yielded all.toArray a.tmps j=match a.tmps[tj]? with|some (.bool b)=>some b|_=>none:=by
   unfold yielded
   simp [hoj,htj]
   rcases a.tmps[tj]? with _|v
   ·rfl
   ·cases v<;>rfl
  have hwant:Region.wanted o (yielded all.toArray a.tmps)=(yielded all.toArray a.tmps j == some wt):=by simp [Region.wanted,hgd]
  have hyes:holdsC a gj→Region.wanted o (yielded all.toArray a.tmps)=decide (b=wt)∧a.tmps[tj]?=some (.bool b)∧∀ e∈gj,e.2.1=e.2.2:=by
   intro hh
   obtain ⟨h1,u,h2,h3⟩:=hreg.1 hh
   rw [Rep] at h3
   subst h3
   refine ⟨?_,h2,h1⟩
   rw [hwant,hy,h2]
   simp only
   cases b<;>cases wt<;>rfl
  have hnot:¬ holdsC a gj→Region.wanted o (yielded all.toArray a.tmps)=false:=by
   intro hh
   have h1:=hreg.2 hh
   rw [hwant,hy,h1]
   rfl
  have hpath:holdsC a (gj++[(tj,b,wt)])↔(holdsC a gj∧b=wt):=by
   constructor
   ·intro hh
    have h1:holdsC a gj:=fun e he=>hh e (by simp [he])
    refine ⟨h1,?_⟩
    have h2:=hh (tj,b,wt) (by simp)
    simp only at h2
    rw [(hyes h1).2.1] at h2
    cases h2;rfl
   ·rintro ⟨h1,rfl⟩ e he
    simp only [List.mem_append,List.mem_singleton] at he
    rcases he with he|rfl
    ·exact h1 e he
    ·exact (hyes h1).2.1
  by_cases hh:holdsC a (gj++[(tj,b,wt)])
  ·obtain ⟨h1,h2⟩:=hpath.1 hh
   obtain ⟨y1,y2,y3⟩:=hyes h1
   rw [y1]
   simp only [h2,decide_true,if_true]
   left
   have he:∀ e∈gj++[(tj,b,wt)],e.2.1=e.2.2:=by
    intro e he
    simp only [List.mem_append,List.mem_singleton] at he
    rcases he with he|rfl
    ·exact y3 e he
    ·exact h2
   refine opQ_ok hE hc hh he ?_
   rintro v g' u w' ⟨_,rfl⟩ hcw hrep hst
   exact hn g' u w' hcw hst (fun _=>⟨hgg ▸ he,hrep⟩) (fun hno=>absurd (hgg ▸ hh) hno)
  ·have hw:Region.wanted o (yielded all.toArray a.tmps)=false:=by
    by_cases h1:holdsC a gj
    ·rw [(hyes h1).1]
     simp only [decide_eq_false_iff_not]
     intro hb
     exact hh (hpath.2 ⟨h1,hb⟩)
    ·exact hnot h1
   rw [hw]
   simp only [Bool.false_eq_true,if_false]
   exact hn g0 undef w hc.cw (Step.refl _ _ _ _) (fun hy=>absurd (hgg ▸ hy) hh) (fun _=>rfl)
end Go.Abs
/-
 The abstract layer,part N: whatever the order,a drawn region comes to the same abstract state.
-/
namespace Go.Abs
open Go
variable {P:Program} {n:Nat} {X:Nat→Prop} {g0:Gh} {r:Regs} {h:Heap} {a:Act} {w:World}
theorem lookR_cons {d t:Nat} {x:G × AV}:lookR ((d,x)::r) t=if d=t then some x else lookR r t:=by
 conv=>lhs;unfold lookR
 split
 ·rename_i hb;rw [if_pos (Nat.eq_of_beq_eq_true hb)]
 ·rename_i hb;rw [if_neg (fun e=>by subst e;rw [Nat.beq_refl] at hb;cases hb)]
def Cl (cl:List Nat) (i j:Nat):Prop:=(clN cl i).testBit j=true
theorem cloAt_bit {cl:List Nat} {j:Nat}:∀ {es:List Edge},(cloAt cl es).testBit j=true↔∃ e∈es,Region.binds .any e=true∧(e.on=j∨Cl cl e.on j)
 | []=>by simp [cloAt]
 | e::es=>by
   unfold cloAt
   have ih:=cloAt_bit (cl:=cl) (j:=j) (es:=es)
   split
   ·rename_i hb
    have e1:∀ a b:Nat,Nat.lor a b=a ||| b:=fun _ _=>rfl
    rw [e1,e1,Nat.testBit_or,Nat.testBit_or,Nat.testBit_two_pow]
    simp only [Bool.or_eq_true,decide_eq_true_eq,ih,List.mem_cons]
    constructor
    ·rintro ((h|h)|⟨e',h1,h2⟩)
     ·exact ⟨e,.inl rfl,hb,.inl h⟩
     ·exact ⟨e,.inl rfl,hb,.inr h⟩
     ·exact ⟨e',.inr h1,h2⟩
    ·rintro ⟨e',rfl|h1,h2,h3⟩
     ·exact .inl h3
     ·exact .inr ⟨e',h1,h2,h3⟩
   ·rename_i hb
    rw [ih]
    constructor
    ·rintro ⟨e',h1,h2⟩;exact ⟨e',by simp [h1],h2⟩
    ·rintro ⟨e',h1,h2⟩
     rcases List.mem_cons.1 h1 with rfl|h1
     ·rw [h2.1] at hb;cases hb
     ·exact ⟨e',h1,h2⟩
structure DrawS (all:List Oper) (cl:List Nat) (ord:List Nat):Prop where
 e1:∀ i o,all[i]?=some o→∀ e∈o.after.toList,Region.binds .any e=true→e.on<i
 e2:∀ i o,all[i]?=some o→clN cl i=cloAt cl o.after.toList
 p2:∀ i,i<all.length→i∈ord
 p3:ord.Nodup
 p4:∀ pre i post,ord=pre++i::post→∃ o,all[i]?=some o∧∀ e∈o.after.toList,Region.binds .any e=true→e.on∈pre
 n1:∀ (i:Nat) (o:Oper) (t:Nat),all[i]?=some o→t∈readsOf all o→∀ (j:Nat) (o':Oper),all[j]?=some o'→o'.dst=some t→Cl cl i j∨Cl cl j i
 d1:∀ (i j:Nat) (o o':Oper) (d:Nat),all[i]?=some o→all[j]?=some o'→o.dst=some d→o'.dst=some d→i=j
theorem nodupB_ok:∀ {l:List Nat},drawOK.nodupB l=true→l.Nodup
 | [],_=>List.nodup_nil
 | x::l,h=>by
   simp only [drawOK.nodupB,Bool.and_eq_true,Bool.not_eq_true',List.contains_eq_mem,decide_eq_false_iff_not] at h
   exact List.nodup_cons.2 ⟨h.1,nodupB_ok h.2⟩
theorem ordOK_ok {all:List Oper}:∀ {l pre0:List Nat},drawOK.ordOK all pre0 l=true→∀ pre i post,l=pre++i::post →
  ∃ o,all[i]?=some o∧∀ e∈o.after.toList,Region.binds .any e=true→e.on∈pre0∨e.on∈pre
 | [],_,_,pre,i,post,he=>by simp at he
 | x::l,pre0,h,pre,i,post,he=>by
   simp only [drawOK.ordOK,Bool.and_eq_true] at h
   cases pre with
   | nil=>
     simp at he
     obtain ⟨rfl,rfl⟩:=he
     have h1:=h.1
     split at h1
     ·rename_i o ho
      refine ⟨o,ho,fun e he hb=>.inl ?_⟩
      have:=List.all_eq_true.1 h1 e he
      simpa [hb] using this
     ·cases h1
   | cons y pre=>
     simp at he
     obtain ⟨rfl,he⟩:=he
     obtain ⟨o,ho,h2⟩:=ordOK_ok h.2 pre i post he
     refine ⟨o,ho,fun e he hb=>?_⟩
     rcases h2 e he hb with h3|h3
     ·rcases List.mem_cons.1 h3 with h3|h3
      ·exact .inr (by simp [h3])
      ·exact .inl h3
     ·exact .inr (by simp [h3])
theorem zip_mem {all:List Oper} {i:Nat} {o:Oper}:(i,o)∈(all.zipIdx.map fun (o,i)=>(i,o))↔all[i]?=some o:=by
 simp only [List.mem_map,Prod.exists,Prod.mk.injEq,List.mem_zipIdx_iff_getElem?]
 constructor
 ·rintro ⟨a,b,h,rfl,rfl⟩;exact h
 ·intro h;exact ⟨o,i,h,rfl,rfl⟩
theorem isDst_iff {t:Nat} {o:Oper}:isDst t o=true↔o.dst=some t:=by
 unfold isDst
 split
 ·rename_i d hd
  rw [hd]
  constructor
  ·intro h;rw [Nat.eq_of_beq_eq_true h]
  ·intro h;cases h;exact Nat.beq_refl _
 ·rename_i hd
  simp [hd]
theorem drawS {all:List Oper} {ord:List Nat} (hk:drawOK all ord=true):DrawS all (clos all []) ord:=by
 unfold drawOK at hk
 simp only [Bool.and_eq_true] at hk
 obtain ⟨⟨⟨⟨⟨⟨h1,h2⟩,h3⟩,h4⟩,h5⟩,h6⟩,h7⟩:=hk
 have h1:=List.all_eq_true.1 h1
 have h3:=List.all_eq_true.1 h3
 have h6:=List.all_eq_true.1 h6
 have h7:=List.all_eq_true.1 h7
 refine ⟨?_,?_,?_,nodupB_ok h4,?_,?_,?_⟩
 ·intro i o ho e he hb
  have:=h1 (i,o) (zip_mem.2 ho)
  simp only [Bool.and_eq_true] at this
  have:=List.all_eq_true.1 this.1 e he
  simp only [hb,Bool.not_true,Bool.false_or,Nat.blt_eq] at this
  exact this
 ·intro i o ho
  have:=h1 (i,o) (zip_mem.2 ho)
  simp only [Bool.and_eq_true] at this
  exact Nat.eq_of_beq_eq_true this.2
 ·intro i hi
  have:=h3 i (List.mem_range.2 hi)
  simpa using this
 ·intro pre i post he
  obtain ⟨o,ho,hh⟩:=ordOK_ok h5 pre i post he
  exact ⟨o,ho,fun e he hb=>(hh e he hb).resolve_left (by simp)⟩
 ·intro i o t ho ht j o' ho' hd
  have:=h6 (i,o) (zip_mem.2 ho)
  simp only at this
  have:=List.all_eq_true.1 this t ht
  unfold nearOK at this
  have:=List.all_eq_true.1 this (j,o') (zip_mem.2 ho')
  simp only [isDst_iff.2 hd,Bool.not_true,Bool.false_or,Bool.or_eq_true] at this
  exact this
 ·intro i j o o' d ho ho' hd hd'
  have:=h7 (i,o) (zip_mem.2 ho)
  simp only at this
  have:=List.all_eq_true.1 this (j,o') (zip_mem.2 ho')
  simp only [Bool.or_eq_true,hd,isDst_iff.2 hd',Bool.not_true,or_false,Bool.false_eq_true] at this
  exact Nat.eq_of_beq_eq_true this
section
variable {all:List Oper} {cl:List Nat} {ord:List Nat}
theorem clo_closed (hs:DrawS all cl ord) {S:Nat→Prop} (hS:∀ i,S i→∃ o,all[i]?=some o∧∀ e∈o.after.toList,Region.binds .any e=true→S e.on) :
  ∀ i,S i→∀ j,Cl cl i j→S j∧j<i:=by
 intro i
 induction i using Nat.strongRecOn with
 | _ i ih=>
   intro hi j hj
   obtain ⟨o,ho,hc⟩:=hS i hi
   unfold Cl at hj
   rw [hs.e2 i o ho,cloAt_bit] at hj
   obtain ⟨e,he,hb,h1⟩:=hj
   have hlt:=hs.e1 i o ho e he hb
   rcases h1 with rfl|h1
   ·exact ⟨hc e he hb,hlt⟩
   ·obtain ⟨k1,k2⟩:=ih e.on hlt (hc e he hb) j h1
    exact ⟨k1,by omega⟩
def entR (ents:List (Nat × Nat × G × AV)) (r:Regs):Regs:=ents.map (·.2)++r
theorem look_none {ents:List (Nat × Nat × G × AV)} {t:Nat} (h:∀ x∈ents,x.2.1≠t):lookR (entR ents r) t=lookR r t:=by
 induction ents with
 | nil=>rfl
 | cons x ents ih=>
   obtain ⟨i,d,g,v⟩:=x
   have hne:=h _ List.mem_cons_self
   simp only at hne
   show lookR ((d,g,v)::entR ents r) t=_
   rw [lookR_cons,if_neg hne]
   exact ih fun x hx=>h x (List.mem_cons_of_mem _ hx)
theorem look_some {ents:List (Nat × Nat × G × AV)} {t j:Nat} {g:G} {v:AV} (hm:(j,t,g,v)∈ents) (hu:∀ x∈ents,x.2.1=t→x=(j,t,g,v)) :
  lookR (entR ents r) t=some (g,v):=by
 induction ents with
 | nil=>cases hm
 | cons x ents ih=>
   by_cases hx:x.2.1=t
   ·have:=hu x List.mem_cons_self hx
    subst this
    show lookR ((t,g,v)::entR ents r) t=_
    rw [lookR_cons,if_pos rfl]
   ·have hm':(j,t,g,v)∈ents:=by
     rcases List.mem_cons.1 hm with rfl|hm
     ·exact absurd rfl hx
     ·exact hm
    obtain ⟨i,d,g',v'⟩:=x
    show lookR ((d,g',v')::entR ents r) t=_
    rw [lookR_cons,if_neg hx]
    exact ih hm' fun x hx=>hu x (List.mem_cons_of_mem _ hx)
def Look (all:List Oper) (cl:List Nat) (ents:List (Nat × Nat × G × AV)) (r:Regs) (k t:Nat) (x:Option (G × AV)):Prop:=
 (∃ j g v,Cl cl k j∧(j,t,g,v)∈ents∧x=some (g,v))∨((∀ j o,all[j]?=some o→o.dst=some t→Cl cl j k)∧x=lookR r t)
structure DInv (n:Nat) (P:Program) (all:List Oper) (cl ord:List Nat) (r:Regs) (kn rest nf:List Nat) (ents:List (Nat × Nat × G × AV)) (h:Heap) (L:Array Bool):Prop where
 split:ord=kn++rest
 lsize:L.size=all.length
 lsub:∀ i,L.getD i false=true→i∈kn
 lclosed:∀ i,L.getD i false=true→∃ o,all[i]?=some o∧∀ e∈o.after.toList,Region.binds .any e=true→L.getD e.on false=true
 ent1:∀ x∈ents,x.1∈kn∧∃ o,all[x.1]?=some o∧o.dst=some x.2.1
 ent2:∀ x∈ents,∀ y∈ents,x.1=y.1→x=y
 ent3:∀ k∈kn,∀ o d,all[k]?=some o→o.dst=some d→∃ g v,(k,d,g,v)∈ents
 path:∀ x∈ents,∀ e∈x.2.2.1,∀ j o,all[j]?=some o→o.dst=some e.1→Cl cl x.1 j
 fact:∀ k∈kn,L.getD k false=false→∃ o g v Rk,all[k]?=some o∧entryQ P all Rk h (fun g' v'=>g'=g∧v'=v) o ∧
  (∀ t∈readsOf all o,Look all cl ents r k t (lookR Rk t)) ∧
  (∀ d,o.dst=some d→(k,d,g,v)∈ents∧d<n∧(∀ e∈g,e.1≠d)∧∀ t gg v,lookR r t=some (gg,v)→∀ e∈gg,e.1≠d) ∧
  (k ∉ nf→∀ h',entryQ P all Rk h' (fun g' v'=>g'=g∧v'=v) o)
variable {kn rest nf:List Nat} {ents:List (Nat × Nat × G × AV)} {L:Array Bool}
theorem DInv.kn_closed (hi:DInv n P all cl ord r kn rest nf ents h L) (hs:DrawS all cl ord) (i:Nat) (hk:i∈kn):∃ o,all[i]?=some o∧∀ e∈o.after.toList,Region.binds .any e=true→e.on∈kn:=by
 obtain ⟨pre,post,rfl⟩:=List.append_of_mem hk
 obtain ⟨o,ho,hh⟩:=hs.p4 pre i (post++rest) (by rw [hi.split];simp)
 exact ⟨o,ho,fun e he hb=>by have:=hh e he hb;simp [this]⟩
theorem DInv.kn_clo (hi:DInv n P all cl ord r kn rest nf ents h L) (hs:DrawS all cl ord) {i j:Nat} (hk:i∈kn) (hc:Cl cl i j):j∈kn∧j<i:=
 clo_closed hs (S:=fun i=>i∈kn) (fun i hk=>hi.kn_closed hs i hk) i hk j hc
theorem look_of (hi:DInv n P all cl ord r kn rest nf ents h L) (hs:DrawS all cl ord) {k:Nat} {o:Oper} (hk:all[k]?=some o) {ents':List (Nat × Nat × G × AV)} (hsub:∀ x∈ents',x∈ents)
  (hcl:∀ j,Cl cl k j→j∈kn∧∀ x∈ents,x.1=j→x∈ents') (hno:∀ x∈ents',¬ Cl cl x.1 k) (t:Nat) (ht:t∈readsOf all o):Look all cl ents r k t (lookR (entR ents' r) t):=by
 have huniq:∀ x∈ents,∀ j o',all[j]?=some o'→o'.dst=some t→x.2.1=t→x.1=j:=by
  intro x hx j o' ho' hd' hxt
  obtain ⟨_,o2,ho2,hd2⟩:=hi.ent1 x hx
  rw [hxt] at hd2
  exact hs.d1 _ _ _ _ _ ho2 ho' hd2 hd'
 by_cases hw:∃ (j:Nat) (o':Oper),all[j]?=some o'∧o'.dst=some t
 ·obtain ⟨j,o',ho',hd'⟩:=hw
  rcases hs.n1 k o t hk ht j o' ho' hd' with hc|hc
  ·obtain ⟨hj,hin⟩:=hcl j hc
   obtain ⟨g,v,hm⟩:=hi.ent3 j hj o' t ho' hd'
   refine .inl ⟨j,g,v,hc,hm,look_some (hin _ hm rfl) ?_⟩
   intro x hx hxt
   exact hi.ent2 x (hsub x hx) _ hm (huniq x (hsub x hx) j o' ho' hd' hxt)
  ·refine .inr ⟨fun j2 o2 ho2 hd2=>by rw [hs.d1 _ _ _ _ _ ho2 ho' hd2 hd'];exact hc,look_none ?_⟩
   intro x hx hxt
   have:=huniq x (hsub x hx) j o' ho' hd' hxt
   exact hno x hx (this ▸ hc)
 ·refine .inr ⟨fun j o' ho' hd'=>absurd ⟨j,o',ho',hd'⟩ hw,look_none ?_⟩
  intro x hx hxt
  obtain ⟨_,o2,ho2,hd2⟩:=hi.ent1 x (hsub x hx)
  exact hw ⟨_,o2,ho2,hxt ▸ hd2⟩
theorem look_fun (hi:DInv n P all cl ord r kn rest nf ents h L) (hs:DrawS all cl ord) {k t:Nat} {x y:Option (G × AV)} (hx:Look all cl ents r k t x) (hy:Look all cl ents r k t y)
  (hac:∀ j,Cl cl k j→Cl cl j k→False):x=y:=by
 rcases hx with ⟨j,g,v,h1,h2,rfl⟩|⟨h1,rfl⟩<;>rcases hy with ⟨j',g',v',k1,k2,rfl⟩|⟨k1,rfl⟩
 ·obtain ⟨_,o,ho,hd⟩:=hi.ent1 _ h2
  obtain ⟨_,o',ho',hd'⟩:=hi.ent1 _ k2
  have:=hs.d1 _ _ _ _ _ ho ho' hd hd'
  have:=hi.ent2 _ h2 _ k2 this
  cases this;rfl
 ·obtain ⟨_,o,ho,hd⟩:=hi.ent1 _ h2
  exact (hac j h1 (k1 _ _ ho hd)).elim
 ·obtain ⟨_,o,ho,hd⟩:=hi.ent1 _ k2
  exact (hac j' k1 (h1 _ _ ho hd)).elim
 ·rfl
def entL (L:Array Bool) (ents:List (Nat × Nat × G × AV)):List (Nat × Nat × G × AV):=ents.filter fun x=>L.getD x.1 false
theorem mem_entL {x:Nat × Nat × G × AV}:x∈entL L ents↔x∈ents∧L.getD x.1 false=true:=by simp [entL,List.mem_filter]
theorem look_filter {p q:(Nat × Nat × G × AV)→Bool} {t:Nat}:∀ {ents:List (Nat × Nat × G × AV)},(∀ x∈ents,x.2.1=t→p x=q x)→lookR (entR (ents.filter p) r) t=lookR (entR (ents.filter q) r) t
 | [],_=>rfl
 | x::ents,h=>by
   have ih:=look_filter (p:=p) (q:=q) (t:=t) (ents:=ents) fun y hy=>h y (List.mem_cons_of_mem _ hy)
   have skip:∀ l:List (Nat × Nat × G × AV),x.2.1≠t→lookR (entR (x::l) r) t=lookR (entR l r) t:=by
    intro l hne
    obtain ⟨i,d,g,v⟩:=x
    show lookR ((d,g,v)::entR l r) t=_
    rw [lookR_cons,if_neg hne]
   have keep:∀ l l':List (Nat × Nat × G × AV),lookR (entR l r) t=lookR (entR l' r) t→lookR (entR (x::l) r) t=lookR (entR (x::l') r) t:=by
    intro l l' he
    obtain ⟨i,d,g,v⟩:=x
    show lookR ((d,g,v)::entR l r) t=lookR ((d,g,v)::entR l' r) t
    rw [lookR_cons,lookR_cons,he]
   simp only [List.filter_cons]
   by_cases hx:x.2.1=t
   ·rw [h x List.mem_cons_self hx]
    split
    ·exact keep _ _ ih
    ·exact ih
   ·split<;>split
    ·exact keep _ _ ih
    ·rw [skip _ hx];exact ih
    ·rw [skip _ hx];exact ih
    ·exact ih
theorem Conc.put' {g':Gh} {h':Heap} {w':World} (hc:Conc n X g0 r h a w) (hcw:CW X g' h' w') (hst:Step X g0 h w g' h' w') {d:Nat} (hd:d<n) {gg:G} {v:AV} {u:Value}
  (n1:∀ e∈gg,e.1≠d) (n2:∀ t gg v,lookR r t=some (gg,v)→∀ e∈gg,e.1≠d) (h1:holdsC a gg→(∀ e∈gg,e.2.1=e.2.2)∧Rep ⟨g',live X h',w'⟩ v u) (h2:¬ holdsC a gg→u=undef) :
  Conc n X g' ((d,gg,v)::r) h' (a.put (some d) u) w':=by
 have hget:(a.put (some d) u).tmps[d]?=some u:=by
  have:=hc.size
  simp [Act.put,Array.getElem?_setIfInBounds,show d<a.tmps.size from by omega]
 refine ⟨hcw,?_,hc.defers,by simpa [Act.put] using hc.size⟩
 intro t gg' v' hl
 unfold lookR at hl
 split at hl
 ·rename_i ht
  have ht:=Nat.eq_of_beq_eq_true ht
  subst ht
  cases hl
  rw [holdsC_put n1,hget]
  exact ⟨fun hh=>⟨(h1 hh).1,u,rfl,(h1 hh).2⟩,fun hh=>by rw [h2 hh]⟩
 ·rename_i ht
  have hne:t≠d:=by intro e;subst e;rw [Nat.beq_refl] at ht;cases ht
  rw [holdsC_put (n2 t gg' v' hl)]
  have hg:(a.put (some d) u).tmps[t]?=a.tmps[t]?:=by simp [Act.put,Array.getElem?_setIfInBounds_ne (Ne.symm hne)]
  rw [hg]
  exact (hc.step hcw hst).regs t gg' v' hl
theorem look_entR {ents:List (Nat × Nat × G × AV)} {t:Nat} {gg:G} {v:AV} (h:lookR (entR ents r) t=some (gg,v)):(∃ x∈ents,x.2=(t,gg,v))∨lookR r t=some (gg,v):=by
 induction ents with
 | nil=>exact .inr h
 | cons x ents ih=>
   obtain ⟨i,d,g',v'⟩:=x
   have h2:lookR ((d,g',v')::entR ents r) t=some (gg,v):=h
   clear h
   rw [lookR_cons] at h2
   split at h2
   ·rename_i hb
    subst hb
    cases h2
    exact .inl ⟨_,List.mem_cons_self,rfl⟩
   ·rcases ih h2 with ⟨x,hx,e⟩|h
    ·exact .inl ⟨x,List.mem_cons_of_mem _ hx,e⟩
    ·exact .inr h
theorem getD_set {L:Array Bool} {i j:Nat}:(L.setIfInBounds i true).getD j false=true→i=j∨L.getD j false=true:=by
 intro hh
 by_cases e:i=j
 ·exact .inl e
 ·rw [getD_set_ne false e] at hh;exact .inr hh
theorem getD_true_false {L:Array Bool} {i:Nat} (h:i<L.size):L.getD i true=L.getD i false:=by
 simp [h]
theorem conc_listed (hi:DInv n P all cl ord r kn rest nf ents h L) (hs:DrawS all cl ord) {k:Nat} {o:Oper} (hk:k∈kn) (hko:all[k]?=some o) (hkl:L.getD k false=false)
  (hlt:k<L.size) {g v} (hdst:∀ d,o.dst=some d→(k,d,g,v)∈ents) :
  ∀ t gg vv,lookR (entR (entL (L.setIfInBounds k true) ents) r) t=some (gg,vv)→lookR (match o.dst with|some d=>(d,g,v)::entR (entL L ents) r|none=>entR (entL L ents) r) t=some (gg,vv):=by
 intro t gg vv hl
 have hset:(L.setIfInBounds k true).getD k false=true:=by simp [hlt]
 cases hd:o.dst with
 | none=>
   simp only
   rw [← hl]
   refine look_filter fun x hx hxt=>?_
   have hne:k≠x.1:=by
    intro e
    obtain ⟨_,o2,ho2,hd2⟩:=hi.ent1 x hx
    rw [← e,hko] at ho2
    cases ho2
    rw [hd] at hd2;cases hd2
   simp only [getD_set_ne false hne]
 | some d=>
   simp only
   have hm:=hdst d hd
   have huniq:∀ x∈ents,x.2.1=d→x=(k,d,g,v):=by
    intro x hx hxd
    obtain ⟨_,o2,ho2,hd2⟩:=hi.ent1 x hx
    rw [hxd] at hd2
    exact hi.ent2 x hx _ hm (hs.d1 _ _ _ _ _ ho2 hko hd2 hd)
   by_cases ht:t=d
   ·subst ht
    have:lookR (entR (entL (L.setIfInBounds k true) ents) r) t=some (g,v):=
     look_some (mem_entL.2 ⟨hm,hset⟩) fun x hx hxt=>huniq x (mem_entL.1 hx).1 hxt
    rw [this] at hl
    rw [lookR_cons,if_pos rfl]
    exact hl
   ·rw [lookR_cons,if_neg (Ne.symm ht),← hl]
    refine look_filter fun x hx hxt=>?_
    have hne:k≠x.1:=by
     intro e
     obtain ⟨_,o2,ho2,hd2⟩:=hi.ent1 x hx
     rw [← e,hko] at ho2
     cases ho2
     rw [hd] at hd2
     have hd3:d=x.2.1:=by injection hd2
     exact ht (hxt.symm.trans hd3.symm)
    simp only [getD_set_ne false hne]
end
end Go.Abs
/-
 The abstract layer,part O: the law on drawn regions.
-/
namespace Go.Abs
open Go
variable {P:Program} {n:Nat} {X:Nat→Prop} {g0:Gh} {r:Regs} {h:Heap} {a:Act} {w:World}
variable {all:List Oper} {cl:List Nat} {ord:List Nat}
variable {kn rest nf:List Nat} {ents:List (Nat × Nat × G × AV)} {L:Array Bool}
theorem DInv.lt (hi:DInv n P all cl ord r kn rest nf ents h L) (hs:DrawS all cl ord) {i:Nat} (hm:i∈ord):i<L.size∧∃ o,all[i]?=some o:=by
 obtain ⟨pre,post,e⟩:=List.append_of_mem hm
 obtain ⟨o,ho,_⟩:=hs.p4 pre i post e
 exact ⟨by rw [hi.lsize];exact (List.getElem?_eq_some_iff.1 ho).1,o,ho⟩
theorem DInv.list (hi:DInv n P all cl ord r kn rest nf ents h L) {k:Nat} {o:Oper} (hk:k∈kn) (hko:all[k]?=some o)
  (he:∀ e∈o.after.toList,Region.binds .any e=true→L.getD e.on false=true):DInv n P all cl ord r kn rest nf ents h (L.setIfInBounds k true):=by
 refine ⟨hi.split,by simpa using hi.lsize,?_,?_,hi.ent1,hi.ent2,hi.ent3,hi.path,?_⟩
 ·intro i hL
  rcases getD_set hL with rfl|hL
  ·exact hk
  ·exact hi.lsub i hL
 ·intro i hL
  rcases getD_set hL with rfl|hL
  ·exact ⟨o,hko,fun e h1 h2=>getD_set_true (he e h1 h2)⟩
  ·obtain ⟨o',ho',hh⟩:=hi.lclosed i hL
   exact ⟨o',ho',fun e h1 h2=>getD_set_true (hh e h1 h2)⟩
 ·intro k' hk' hL
  refine hi.fact k' hk' ?_
  cases hb:L.getD k' false with
  | false=>rfl
  | true=>rw [getD_set_true hb] at hL;cases hL
theorem first_unlisted {p:Nat→Bool}:∀ {l:List Nat},(∃ i∈l,p i=false)→∃ pre i post,l=pre++i::post∧(∀ j∈pre,p j=true)∧p i=false
 | [],h=>by obtain ⟨i,h,_⟩:=h;cases h
 | x::l,h=>by
   cases hx:p x with
   | false=>exact ⟨[],x,l,rfl,by simp,hx⟩
   | true=>
     obtain ⟨i,hi,hp⟩:=h
     have:∃ i∈l,p i=false:=by
      rcases List.mem_cons.1 hi with rfl|hi
      ·rw [hx] at hp;cases hp
      ·exact ⟨i,hi,hp⟩
     obtain ⟨pre,i,post,rfl,h1,h2⟩:=first_unlisted this
     refine ⟨x::pre,i,post,rfl,fun j hj=>?_,h2⟩
     rcases List.mem_cons.1 hj with rfl|hj
     ·exact hx
     ·exact h1 j hj
theorem ready_none (hi:DInv n P all cl ord r kn rest nf ents h L) (hs:DrawS all cl ord) (hr:Region.ready .any all.toArray L=[]):∀ i∈ord,L.getD i false=true:=by
 intro i hm
 cases hb:L.getD i false with
 | true=>rfl
 | false=>
   obtain ⟨pre,k,post,e,h1,h2⟩:=first_unlisted (p:=fun i=>L.getD i false) ⟨i,hm,hb⟩
   obtain ⟨o,ho,hh⟩:=hs.p4 pre k post e
   have hlt:k<L.size:=by rw [hi.lsize];exact (List.getElem?_eq_some_iff.1 ho).1
   have:k∈Region.ready .any all.toArray L:=by
    rw [mem_ready]
    refine ⟨by rw [getD_true_false hlt];exact h2,o,by simpa using ho,fun e he hb=>h1 _ (hh e (by simpa using he) hb)⟩
   rw [hr] at this;cases this
def unl (N:Nat) (L:Array Bool):Nat:=((List.range N).filter fun i=>!L.getD i false).length
theorem unl_set {N k:Nat} (hk:k<N) (hN:N=L.size) (hf:L.getD k false=false):unl N (L.setIfInBounds k true)<unl N L:=by
 unfold unl
 have key:∀ l:List Nat,(l.filter fun i=>!(L.setIfInBounds k true).getD i false).length≤(l.filter fun i=>!L.getD i false).length ∧
   (k∈l→(l.filter fun i=>!(L.setIfInBounds k true).getD i false).length<(l.filter fun i=>!L.getD i false).length):=by
  intro l
  induction l with
  | nil=>simp
  | cons x l ih=>
    simp only [List.filter_cons]
    by_cases hx:k=x
    ·subst hx
     have h1:(L.setIfInBounds k true).getD k false=true:=by simp [show k<L.size from hN ▸ hk]
     rw [h1,hf]
     simp only [Bool.not_true,Bool.false_eq_true,if_false,Bool.not_false,if_true,List.length_cons]
     exact ⟨by omega,fun _=>by omega⟩
    ·rw [getD_set_ne false hx]
     split
     ·simp only [List.length_cons]
      refine ⟨by omega,fun hm=>?_⟩
      have:=ih.2 ((List.mem_cons.1 hm).resolve_left hx)
      omega
     ·refine ⟨ih.1,fun hm=>ih.2 ((List.mem_cons.1 hm).resolve_left hx)⟩
 exact (key _).2 (List.mem_range.2 hk)
theorem unl_zero {N:Nat} (h:unl N L=0):∀ i<N,L.getD i false=true:=by
 intro i hi
 unfold unl at h
 have:=List.eq_nil_of_length_eq_zero h
 rw [List.filter_eq_nil_iff] at this
 simpa using this i (List.mem_range.2 hi)
theorem pathOK_ok {i:Nat}:∀ {g:G},pathOK cl all i g=true→∀ e∈g,∀ j o,all[j]?=some o→o.dst=some e.1→Cl cl i j
 | [],_,e,he=>by cases he
 | (t,b,w)::g,h,e,he=>by
   simp only [pathOK,Bool.and_eq_true] at h
   rcases List.mem_cons.1 he with rfl|he
   ·intro j o ho hd
    have:=List.all_eq_true.1 h.1 (o,j) (by rw [List.mem_zipIdx_iff_getElem?];exact ho)
    unfold Cl
    simpa [isDst_iff.2 hd] using this
   ·exact pathOK_ok h.2 e he
theorem lateOK_ok {i:Nat}:∀ {l:List Nat},lateOK cl i l=true→∀ j∈l,Cl cl j i
 | [],_,j,hj=>by cases hj
 | x::l,h,j,hj=>by
   unfold lateOK at h
   split at h
   ·rename_i hb
    rcases List.mem_cons.1 hj with rfl|hj
    ·exact hb
    ·exact lateOK_ok h j hj
   ·cases h
theorem nfOK_ok {i:Nat}:∀ {l:List Nat},nfOK cl i l=true→∀ j∈l,Cl cl i j
 | [],_,j,hj=>by cases hj
 | x::l,h,j,hj=>by
   unfold nfOK at h
   split at h
   ·rename_i hb
    rcases List.mem_cons.1 hj with rfl|hj
    ·exact hb
    ·exact nfOK_ok h j hj
   ·cases h
theorem Look.more {ents':List (Nat × Nat × G × AV)} (hsub:∀ x∈ents,x∈ents') {k t:Nat} {x:Option (G × AV)} (h:Look all cl ents r k t x):Look all cl ents' r k t x:=by
 rcases h with ⟨j,g,v,h1,h2,h3⟩|h
 ·exact .inl ⟨j,g,v,h1,hsub _ h2,h3⟩
 ·exact .inr h
theorem notIn_entR {d:Nat}:∀ {ents:List (Nat × Nat × G × AV)},notIn (entR ents r) d=true→notIn r d=true
 | [],h=>h
 | (i,t,g,v)::ents,h=>by
   have h:notIn ((t,g,v)::entR ents r) d=true:=h
   exact notIn_entR (notIn_cons h).2
theorem DInv.enter {k:Nat} (hi:DInv n P all cl ord r kn (k::rest) nf ents h L) (hs:DrawS all cl ord) {o:Oper} (hko:all[k]?=some o) {ents':List (Nat × Nat × G × AV)} {nf':List Nat} {h':Heap} {g:G} {v:AV}
  (hents:ents'=match o.dst with|some d=>(k,d,g,v)::ents|none=>ents) (hpath:∀ e∈g,∀ j o,all[j]?=some o→o.dst=some e.1→Cl cl k j)
  {L':Array Bool} (hL:L'=L∨L'=L.setIfInBounds k true∧∀ e∈o.after.toList,Region.binds .any e=true→L.getD e.on false=true)
  (hfact:∀ k'∈kn,L'.getD k' false=false→∃ o g v Rk,all[k']?=some o∧entryQ P all Rk h' (fun g' v'=>g'=g∧v'=v) o ∧
    (∀ t∈readsOf all o,Look all cl ents r k' t (lookR Rk t)) ∧
    (∀ d,o.dst=some d→(k',d,g,v)∈ents∧d<n∧(∀ e∈g,e.1≠d)∧∀ t gg v,lookR r t=some (gg,v)→∀ e∈gg,e.1≠d) ∧
    (k' ∉ nf'→∀ h',entryQ P all Rk h' (fun g' v'=>g'=g∧v'=v) o))
  (hown:L'.getD k false=false→∃ o g v Rk,all[k]?=some o∧entryQ P all Rk h' (fun g' v'=>g'=g∧v'=v) o ∧
    (∀ t∈readsOf all o,Look all cl ents' r k t (lookR Rk t)) ∧
    (∀ d,o.dst=some d→(k,d,g,v)∈ents'∧d<n∧(∀ e∈g,e.1≠d)∧∀ t gg v,lookR r t=some (gg,v)→∀ e∈gg,e.1≠d) ∧
    (k ∉ nf'→∀ h',entryQ P all Rk h' (fun g' v'=>g'=g∧v'=v) o)) :
  DInv n P all cl ord r (kn++[k]) rest nf' ents' h' L':=by
 have hnk:k ∉ kn:=by
  have:=hs.p3
  rw [hi.split,List.nodup_append] at this
  exact fun hm=>this.2.2 k hm k (by simp) rfl
 have hsub:∀ x∈ents,x∈ents':=by
  intro x hx
  rw [hents]
  split
  ·exact List.mem_cons_of_mem _ hx
  ·exact hx
 have hin:∀ x∈ents',x∈ents∨(∃ d,o.dst=some d∧x=(k,d,g,v)):=by
  intro x hx
  rw [hents] at hx
  split at hx
  ·rename_i d hd
   rcases List.mem_cons.1 hx with rfl|hx
   ·exact .inr ⟨d,hd,rfl⟩
   ·exact .inl hx
  ·exact .inl hx
 refine ⟨by rw [hi.split];simp,?_,?_,?_,?_,?_,?_,?_,?_⟩
 ·rcases hL with rfl|⟨rfl,_⟩
  ·exact hi.lsize
  ·simpa using hi.lsize
 ·intro i hli
  rcases hL with rfl|⟨rfl,_⟩
  ·exact List.mem_append_left _ (hi.lsub i hli)
  ·rcases getD_set hli with rfl|hli
   ·simp
   ·exact List.mem_append_left _ (hi.lsub i hli)
 ·intro i hli
  rcases hL with rfl|⟨rfl,he⟩
  ·exact hi.lclosed i hli
  ·rcases getD_set hli with rfl|hli
   ·exact ⟨o,hko,fun e h1 h2=>getD_set_true (he e h1 h2)⟩
   ·obtain ⟨o',ho',hh⟩:=hi.lclosed i hli
    exact ⟨o',ho',fun e h1 h2=>getD_set_true (hh e h1 h2)⟩
 ·intro x hx
  rcases hin x hx with hx|⟨d,hd,rfl⟩
  ·obtain ⟨h1,h2⟩:=hi.ent1 x hx
   exact ⟨List.mem_append_left _ h1,h2⟩
  ·exact ⟨by simp,o,hko,hd⟩
 ·intro x hx y hy e
  rcases hin x hx with hx|⟨d,hd,rfl⟩<;>rcases hin y hy with hy|⟨d',hd',rfl⟩
  ·exact hi.ent2 x hx y hy e
  ·exact absurd (show k∈kn from (show x.1=k from e) ▸ (hi.ent1 x hx).1) hnk
  ·exact absurd (show k∈kn from (show y.1=k from e.symm) ▸ (hi.ent1 y hy).1) hnk
  ·rw [hd] at hd';cases hd';rfl
 ·intro k' hk' o' d ho' hd
  rcases List.mem_append.1 hk' with hk'|hk'
  ·obtain ⟨g',v',hm⟩:=hi.ent3 k' hk' o' d ho' hd
   exact ⟨g',v',hsub _ hm⟩
  ·simp at hk'
   subst hk'
   rw [hko] at ho';cases ho'
   refine ⟨g,v,?_⟩
   rw [hents,hd]
   exact List.mem_cons_self
 ·intro x hx e he j o' ho' hd'
  rcases hin x hx with hx|⟨d,hd,rfl⟩
  ·exact hi.path x hx e he j o' ho' hd'
  ·exact hpath e he j o' ho' hd'
 ·intro k' hk' hl
  rcases List.mem_append.1 hk' with hk'|hk'
  ·obtain ⟨o',g',v',Rk,h1,h2,h3,h4,h5⟩:=hfact k' hk' hl
   exact ⟨o',g',v',Rk,h1,h2,fun t ht=>(h3 t ht).more hsub,fun d hd=>⟨hsub _ (h4 d hd).1,(h4 d hd).2⟩,h5⟩
  ·simp at hk'
   subst hk'
   exact hown hl
end Go.Abs
/-
 The abstract layer,part P: appending behind a token leaves every own object but tokens as it was.
-/
namespace Go.Abs
open Go
variable {P:Program} {r:Regs} {h h':Heap}
def Kept (h h':Heap):Prop:=∀ b o,(b,o)∈h→o≠.tok→(b,o)∈h'
theorem Kept.cons (x:Nat × Ob):Kept h (x::h):=fun b o hm _=>List.mem_cons_of_mem _ hm
theorem Kept.upd {q q':Nat} (hu:Upd q .tok q' .tok h h'):Kept h h':=by
 induction hu with
 | here h=>
   intro b o hm hne
   rcases List.mem_cons.1 hm with e|hm
   ·cases e;exact absurd rfl hne
   ·exact List.mem_cons_of_mem _ hm
 | there hu ih=>
   intro b o hm hne
   rcases List.mem_cons.1 hm with e|hm
   ·subst e;exact List.mem_cons_self
   ·exact List.mem_cons_of_mem _ (ih b o hm hne)
theorem opQ_kept {g:G} {K:AV→Prop} {op:Op} (ho:reads op=true) (hk:Kept h h') (hq:opQ P r g h K op):opQ P r g h' K op:=by
 cases op<;>try (simp [reads] at ho;done)
 case load t y=>
  simp only [opQ] at hq ⊢
  split at hq
  ·exact hq
  ·obtain ⟨cs,l,h1,h2⟩:=hq
   exact ⟨cs,l,hk _ _ h1 (by simp),h2⟩
  ·exact hq
 case lookup t x i ok=>
  revert hq
  unfold opQ
  simp only
  repeat' split
  all_goals first
   | exact fun hh=>hh
   | exact fun ⟨es,v,f,h1,h2⟩=>⟨es,v,f,hk _ _ h1 (by simp),h2⟩
theorem nfOKc_ok {all:List Oper} {cl:List Nat} {i:Nat}:∀ {nf:List Nat},nfOKc cl all i nf=true→∀ j∈nf,Nat.testBit (clN cl i) j=true∨∃ o,all[j]?=some o∧reads o.op=true
 | [],_,j,hj=>by cases hj
 | k::nf,h,j,hj=>by
   unfold nfOKc at h
   split at h
   ·rename_i h1
    rcases List.mem_cons.1 hj with rfl|hj
    ·exact .inl h1
    ·exact nfOKc_ok h j hj
   ·split at h<;>try contradiction
    rename_i o ho
    split at h<;>try contradiction
    rename_i hr
    rcases List.mem_cons.1 hj with rfl|hj
    ·exact .inr ⟨o,ho,hr⟩
    ·exact nfOKc_ok h j hj
theorem opL_calm {K:AV→Heap→Prop} {op:Op} (ha:calm r op=true) (hq:opL P r h K op):opL P r h (fun v h'=>K v h'∧Kept h h') op:=by
 unfold calm at ha
 split at ha<;>try contradiction
 rename_i cl
 split at ha<;>try contradiction
 rename_i hcal
 simp only [opL,hcal] at hq ⊢
 split at hq<;>try contradiction
 split at hq<;>try contradiction
 split at hq<;>try contradiction
 split at hq<;>try contradiction
 split at hq<;>try contradiction
 split at hq<;>try contradiction
 split at hq
 ·split at hq<;>try contradiction
  obtain ⟨cs2,ys,h1,h2,h3,h4⟩:=hq
  exact ⟨cs2,ys,h1,h2,h3,fun q=>⟨h4 q,.cons _⟩⟩
 ·rename_i e;rw [e] at ha;simp at ha
 ·split at hq<;>try contradiction
  exact ⟨hq.1,fun q=>⟨hq.2 q,.cons _⟩⟩
 ·rename_i e;rw [e] at ha;simp at ha
 ·rename_i e;rw [e] at ha;simp at ha
 ·split at hq<;>try contradiction
  obtain ⟨cs,ys,h1,h2,h3,h4⟩:=hq
  exact ⟨cs,ys,h1,h2,h3,fun q'=>let ⟨h',a,b⟩:=h4 q';⟨h',a,b,.upd a⟩⟩
 ·split at hq<;>try contradiction
  split at hq<;>try contradiction
  exact ⟨hq.1,fun q'=>let ⟨h',a,b⟩:=hq.2 q';⟨h',a,b,.upd a⟩⟩
 ·exact hq.elim
 ·split at hq<;>try contradiction
  split at hq<;>try contradiction
  split at hq<;>try contradiction
  split at hq<;>try contradiction
  split at hq<;>try contradiction
  split at hq<;>try contradiction
  rename_i e
  rw [e] at ha;simp at ha
theorem opX_calm {K:AV→Heap→Prop} {op:Op} {own own2:List Nat} {d:Option Nat} (ha:calm r op=true) (hq:opX P own own2 d r h K op):opX P own own2 d r h (fun v h'=>K v h'∧Kept h h') op:=by
 unfold opX at hq ⊢
 split at hq
 ·rename_i cl d
  split at hq
  ·skip
   unfold opO at hq ⊢
   revert hq
   repeat' split
   all_goals first|exact fun hh=>hh.elim|exact fun hh=>⟨hh.1,fun b=>⟨hh.2 b,.cons _⟩⟩
  ·skip
   exact opL_calm ha hq
 ·simp [calm] at ha
 ·exact opL_calm ha hq
end Go.Abs
/-
 The abstract layer,part Q: the law on drawn regions,its end.
-/
namespace Go.Abs
open Go
variable {P:Program} {n:Nat} {X:Nat→Prop} {g0:Gh} {r:Regs} {h:Heap} {a:Act} {w:World}
variable {all:List Oper} {cl:List Nat} {ord:List Nat}
variable {kn rest nf:List Nat} {ents:List (Nat × Nat × G × AV)} {L:Array Bool}
theorem ACalls.mono {f:FuncId} {args:List AV} {R R':AV→Heap→Prop} (hk:∀ v h',R v h'→R' v h') (hf:ACalls P f args h R):ACalls P f args h R':=
 hf.post fun v h1 hR=>⟨v,h1,hk v h1 hR,VLe.refl _,fun _ _ hm=>hm,fun hn=>hn⟩
theorem opL_mono {K K':AV→Heap→Prop} {op:Op} (hk:∀ v h',K v h'→K' v h') (hq:opL P r h K op):opL P r h K' op:=by
 revert hq
 unfold opL
 repeat' split
 all_goals first
  | exact fun hh=>hh.elim
  | exact fun hh=>hk _ _ hh
  | exact fun hh b=>hk _ _ (hh b)
  | exact ACalls.mono hk
  | exact fun ⟨cs,h',h1,h2,h3⟩=>⟨cs,h',h1,h2,hk _ _ h3⟩
  | exact fun ⟨es,h1,h2⟩=>⟨es,h1,fun bs cl hb=>let ⟨h',a,b⟩:=h2 bs cl hb;⟨h',a,fun it=>hk _ _ (b it)⟩⟩
  | exact fun ⟨m,cl,seen,es,bs,h1,h2,h3,h4⟩=>⟨m,cl,seen,es,bs,h1,h2,fun hb=>hk _ _ (h3 hb),fun i b e a1 a2 a3=>let ⟨h',a,b⟩:=h4 i b e a1 a2 a3;⟨h',a,hk _ _ b⟩⟩
  | exact fun ⟨m,cl,seen,es,bs,h1,h2,i,b,e,s0,a1,a2,a3,a4⟩=>⟨m,cl,seen,es,bs,h1,h2,i,b,e,s0,a1,a2,a3,hk _ _ a4⟩
  | exact fun ⟨cs2,ys,h1,h2,cs,h',a1,a2,a3⟩=>⟨cs2,ys,h1,h2,cs,h',a1,a2,hk _ _ a3⟩
  | exact fun ⟨cs,ys,h1,h2,h3,h4⟩=>⟨cs,ys,h1,h2,h3,fun q'=>let ⟨h',a,b⟩:=h4 q';⟨h',a,hk _ _ b⟩⟩
  | exact fun ⟨s,pos,h1,h2,h3⟩=>⟨s,pos,h1,fun hb=>hk _ _ (h2 hb),fun hb=>let ⟨h',a,b⟩:=h3 hb;⟨h',a,hk _ _ b⟩⟩
  | exact fun hh=>⟨hh.1,fun b=>hk _ _ (hh.2 b)⟩
  | exact fun ⟨cs2,ys,h1,h2,h3,h4⟩=>⟨cs2,ys,h1,h2,h3,fun b=>hk _ _ (h4 b)⟩
  | exact fun ⟨cs,h1,h2,h3⟩=>⟨cs,h1,h2,fun b=>hk _ _ (h3 b)⟩
  | exact fun ⟨cs2,ys,h1,h2,h3,cs,h4,h5⟩=>⟨cs2,ys,h1,h2,h3,cs,h4,h5.elim (fun ⟨a,b,h',c,d⟩=>.inl ⟨a,b,h',c,hk _ _ d⟩) (fun ⟨a,b,c⟩=>.inr ⟨a,b,fun q=>hk _ _ (c q)⟩)⟩
  | exact fun ⟨cs,h1,h2,h3⟩=>⟨cs,h1,h2,fun b'=>let ⟨h',a,b⟩:=h3 b';⟨h',a,hk _ _ b⟩⟩
  | exact fun hh=>⟨hh.1,fun q'=>let ⟨h',h1,h2⟩:=hh.2 q';⟨h',h1,hk _ _ h2⟩⟩
theorem opO_mono {K K':AV→Heap→Prop} {cl:Call} (hk:∀ v h',K v h'→K' v h') (hq:opO P r h K cl):opO P r h K' cl:=by
 revert hq
 unfold opO
 repeat' split
 all_goals first
  | exact fun hh=>hh.elim
  | exact fun hh=>⟨hh.1,fun b=>hk _ _ (hh.2 b)⟩
theorem opB_mono {K K':AV→Heap→Prop} {t:TypeId} {m:Nat} {parts:Array (Nat × Operand)} (hk:∀ v h',K v h'→K' v h') (hq:opB P r h K t m parts):opB P r h K' t m parts:=by
 revert hq
 unfold opB
 repeat' split
 all_goals first
  | exact fun hh=>hh.elim
  | exact fun hh b=>hk _ _ (hh b)
theorem opX_mono {K K':AV→Heap→Prop} {own own2:List Nat} {d:Option Nat} {op:Op} (hk:∀ v h',K v h'→K' v h') (hq:opX P own own2 d r h K op):opX P own own2 d r h K' op:=by
 revert hq
 unfold opX
 split
 ·split
  ·exact opO_mono hk
  ·exact opL_mono hk
 ·split
  ·exact opB_mono hk
  ·exact opL_mono hk
 ·exact opL_mono hk
theorem filter_true {ents:List (Nat × Nat × G × AV)} (h:∀ x∈ents,L.getD x.1 false=true):entL L ents=ents:=by
 unfold entL
 rw [List.filter_eq_self]
 exact h
theorem run_quiet {k:Nat} {Q:Exit→Act→World→Prop} {next:Act→World→Prop} (hi:DInv n P all cl ord r kn rest nf ents h L) (hs:DrawS all cl ord) (hk:k∈kn) (hkl:L.getD k false=false)
  (he:∀ o,all[k]?=some o→∀ e∈o.after.toList,Region.binds .any e=true→L.getD e.on false=true) (hc:Conc n X g0 (entR (entL L ents) r) h a w)
  (hn:∀ g' a' w',Conc n X g' (entR (entL (L.setIfInBounds k true) ents) r) h a' w'→Step X g0 h w g' h w'→next a' w'):wpOp P all.toArray Q k next a w:=by
 obtain ⟨o,g,v,Rk,h1,h2,h3,h4,h5⟩:=hi.fact k hk hkl
 have hlt:k<L.size:=by rw [hi.lsize];exact (List.getElem?_eq_some_iff.1 h1).1
 have hclo:∀ j,Cl cl k j→L.getD j false=true:=by
  intro j hj
  have:=(clo_closed hs (S:=fun i=>L.getD i false=true∨i=k) (fun i hS=>by
   rcases hS with hS|rfl
   ·obtain ⟨o',ho',hh⟩:=hi.lclosed i hS
    exact ⟨o',ho',fun e a b=>.inl (hh e a b)⟩
   ·exact ⟨o,h1,fun e a b=>.inl (he o h1 e a b)⟩) k (.inr rfl) j hj)
  rcases this.1 with h|rfl
  ·exact h
  ·exact absurd this.2 (Nat.lt_irrefl _)
 have hac:∀ j,Cl cl k j→Cl cl j k→False:=fun j a b=>by
  have:=(hi.kn_clo hs hk a).2
  have:=(hi.kn_clo hs (hi.kn_clo hs hk a).1 b).2
  omega
 have hlook:∀ t∈readsOf all o,lookR Rk t=lookR (entR (entL L ents) r) t:=by
  intro t ht
  refine look_fun hi hs (h3 t ht) (look_of hi hs h1 (fun x hx=>(mem_entL.1 hx).1) ?_ ?_ t ht) hac
  ·intro j hj
   exact ⟨hi.lsub j (hclo j hj),fun x hx hxj=>mem_entL.2 ⟨hx,by rw [hxj];exact hclo j hj⟩⟩
  ·intro x hx hcx
   have hlx:=(mem_entL.1 hx).2
   have:=(clo_closed hs (S:=fun i=>L.getD i false=true) (fun i hS=>hi.lclosed i hS) x.1 hlx k hcx).1
   rw [hkl] at this;cases this
 refine entryQ_ok (entryQ_congr hlook h2) hc (by simpa using h1) ?_
 intro g' u w' hcw hst hh1 hh2
 have hless:=conc_listed (r:=r) hi hs hk h1 hkl hlt (g:=g) (v:=v) (fun d hd=>(h4 d hd).1)
 cases hd:o.dst with
 | none=>
   rw [hd] at hless
   refine hn g' _ w' (Conc.less ?_ hless) hst
   simpa [Act.put] using hc.step hcw hst
 | some d=>
   rw [hd] at hless
   obtain ⟨q1,q2,q3,q4⟩:=h4 d hd
   refine hn g' _ w' (Conc.less ?_ hless) hst
   refine hc.put' hcw hst q2 q3 ?_ hh1 hh2
   intro t gg vv hl e hee hed
   rcases look_entR hl with ⟨x,hx,ex⟩|hl
   ·obtain ⟨hx,hlx⟩:=mem_entL.1 hx
    have hcx:=hi.path x hx e (by rw [ex];exact hee) k o h1 (hed ▸ hd)
    have:=(clo_closed hs (S:=fun i=>L.getD i false=true) (fun i hS=>hi.lclosed i hS) x.1 hlx k hcx).1
    rw [hkl] at this;cases this
   ·exact q4 t gg vv hl e hee hed
theorem draw_game {c:Cfg} {K:Regs→Heap→Prop} {Q:Exit→Act→World→Prop} (hs:DrawS all cl ord):∀ (fuel:Nat) (rest kn nf:List Nat) (ents:List (Nat × Nat × G × AV)) (h:Heap) (L:Array Bool) (g0:Gh) (a:Act) (w:World),
  DInv n P all cl ord r kn rest nf ents h L→regD P c n all cl K rest nf (entR ents r) h→Conc n X g0 (entR (entL L ents) r) h a w→unl all.length L≤fuel →
  (∀ r' h' g' a' w',K r' h'→Conc n X g' r' h' a' w'→Step X g0 h w g' h' w'→Q .normal a' w')→wpAny P .any all.toArray Q fuel L a w:=by
 intro fuel
 induction fuel with
 | zero=>
   intro rest kn nf ents h L g0 a w hi hr hc hu hf
   have hall:=unl_zero (Nat.le_zero.1 hu)
   have hrest:rest=[]:=by
    cases rest with
    | nil=>rfl
    | cons x rest=>
      have hx:x∈ord:=by rw [hi.split];simp
      obtain ⟨hlt,_⟩:=hi.lt hs hx
      have h1:=hi.lsub x (hall x (by rw [← hi.lsize];exact hlt))
      have:=hs.p3
      rw [hi.split,List.nodup_append] at this
      exact absurd rfl (this.2.2 x h1 x (by simp))
   subst hrest
   have hE:entL L ents=ents:=filter_true fun x hx=>hall x.1 (by
    have hm:x.1∈ord:=by rw [hi.split];exact List.mem_append_left _ (hi.ent1 x hx).1
    rw [← hi.lsize];exact (hi.lt hs hm).1)
   refine ⟨?_,?_⟩
   ·apply List.eq_nil_iff_forall_not_mem.2
    intro i hm
    rw [mem_ready] at hm
    obtain ⟨h1,o,ho,_⟩:=hm
    have hlt:i<all.length:=by
     have:=(Array.getElem?_eq_some_iff.1 ho).1
     simpa using this
    have:=hall i hlt
    rw [getD_true_false (by rw [hi.lsize];exact hlt),this] at h1;cases h1
   ·rw [hE] at hc
    exact hf _ h g0 a w hr hc (Step.refl _ _ _ _)
 | succ fuel IH=>
   intro rest
   induction rest with
   | nil=>
     intro kn nf ents h L g0 a w hi hr hc hu hf
     refine ⟨fun hre=>?_,fun i hm=>?_⟩
     ·have hall:=ready_none hi hs hre
      have hE:entL L ents=ents:=filter_true fun x hx=>hall x.1 (by rw [hi.split];exact List.mem_append_left _ (hi.ent1 x hx).1)
      rw [hE] at hc
      exact hf _ h g0 a w hr hc (Step.refl _ _ _ _)
     ·obtain ⟨m1,o,ho,m2⟩:=mem_ready.1 hm
      have ho':all[i]?=some o:=by simpa using ho
      have hlt:i<all.length:=(List.getElem?_eq_some_iff.1 ho').1
      have hik:i∈kn:=by have:=hs.p2 i hlt;rw [hi.split] at this;simpa using this
      have hil:L.getD i false=false:=by rw [← getD_true_false (by rw [hi.lsize];exact hlt)];exact m1
      have he:∀ e∈o.after.toList,Region.binds .any e=true→L.getD e.on false=true:=fun e he hb=>m2 e (by simpa using he) hb
      refine run_quiet hi hs hik hil (fun o2 ho2=>by rw [ho'] at ho2;cases ho2;exact he) hc ?_
      intro g' a' w' hc' hst
      exact IH [] kn nf ents h _ g' a' w' (hi.list hik ho' he) hr hc' (by have:=unl_set hlt hi.lsize.symm hil;omega)
       (fun r2 h2 g2 a2 w2 hK hc2 hst2=>hf r2 h2 g2 a2 w2 hK hc2 (hst.trans hc.cw.own hst2))
   | cons k rest ihr=>
     intro kn nf ents h L g0 a w hi hr hc hu hf
     have hr0:=hr
     have hko:k∈ord:=by rw [hi.split];simp
     have hnk:k ∉ kn:=by
      have:=hs.p3
      rw [hi.split,List.nodup_append] at this
      exact fun hm=>this.2.2 k hm k (by simp) rfl
     obtain ⟨hlt,o,ho⟩:=hi.lt hs hko
     have hkl:L.getD k false=false:=by
      cases hb:L.getD k false with
      | false=>rfl
      | true=>exact absurd (hi.lsub k hb) hnk
     -- what k reads,in the registers of all that were gone through
     have hedge:∀ e∈o.after.toList,Region.binds .any e=true→e.on∈kn:=by
      obtain ⟨o2,ho2,hh⟩:=hs.p4 kn k rest hi.split
      rw [ho] at ho2;cases ho2;exact hh
     have hclk:∀ j,Cl cl k j→j∈kn:=by
      intro j hj
      have:=(clo_closed hs (S:=fun i=>i∈kn∨i=k) (fun i hS=>by
       rcases hS with hS|rfl
       ·obtain ⟨o',ho',hh⟩:=hi.kn_closed hs i hS
        exact ⟨o',ho',fun e a b=>.inl (hh e a b)⟩
       ·exact ⟨o,ho,fun e a b=>.inl (hedge e a b)⟩) k (.inr rfl) j hj)
      rcases this.1 with h|rfl
      ·exact h
      ·exact absurd this.2 (Nat.lt_irrefl _)
     have hlook:∀ t∈readsOf all o,Look all cl ents r k t (lookR (entR ents r) t):=by
      intro t ht
      refine look_of hi hs ho (fun x hx=>hx) (fun j hj=>⟨hclk j hj,fun x hx _=>hx⟩) ?_ t ht
      intro x hx hcx
      exact hnk (hi.kn_clo hs (hi.ent1 x hx).1 hcx).1
     unfold regD at hr
     rw [ho] at hr
     simp only at hr
     split at hr
     · -- a loud one
      split at hr<;>try contradiction
      rename_i hgd
      split at hr<;>try contradiction
      rename_i hlate
      split at hr<;>try contradiction
      rename_i hsafe
      have hlate:=lateOK_ok hlate
      refine ⟨fun hre=>?_,fun i hm=>?_⟩
      ·have:=ready_none hi hs hre k hko
       rw [hkl] at this;cases this
      ·obtain ⟨m1,oi,hoi,m2⟩:=mem_ready.1 hm
       have hoi':all[i]?=some oi:=by simpa using hoi
       have hlti:i<all.length:=(List.getElem?_eq_some_iff.1 hoi').1
       have hil:L.getD i false=false:=by rw [← getD_true_false (by rw [hi.lsize];exact hlti)];exact m1
       have he:∀ e∈oi.after.toList,Region.binds .any e=true→L.getD e.on false=true:=fun e he hb=>m2 e (by simpa using he) hb
       have hclo:∀ j,Cl cl i j→L.getD j false=true:=by
        intro j hj
        have:=(clo_closed hs (S:=fun x=>L.getD x false=true∨x=i) (fun x hS=>by
         rcases hS with hS|rfl
         ·obtain ⟨o',ho',hh⟩:=hi.lclosed x hS
          exact ⟨o',ho',fun e a b=>.inl (hh e a b)⟩
         ·exact ⟨oi,hoi',fun e a b=>.inl (he e a b)⟩) i (.inr rfl) j hj)
        rcases this.1 with h|rfl
        ·exact h
        ·exact absurd this.2 (Nat.lt_irrefl _)
       have hin:i∈kn∨i=k∨i∈rest:=by
        have:=hs.p2 i hlti
        rw [hi.split] at this
        simpa using this
       rcases hin with hik|rfl|hir
       ·refine run_quiet hi hs hik hil (fun o2 ho2=>by rw [hoi'] at ho2;cases ho2;exact he) hc ?_
        intro g' a' w' hc' hst
        exact IH (k::rest) kn nf ents h _ g' a' w' (hi.list hik hoi' he) hr0 hc' (by have:=unl_set hlti hi.lsize.symm hil;omega)
         (fun r2 h2 g2 a2 w2 hK hc2 hst2=>hf r2 h2 g2 a2 w2 hK hc2 (hst.trans hc.cw.own hst2))
       ·rw [ho] at hoi';cases hoi'
        unfold wpOp
        simp only [hoi,wanted_none hgd,if_true]
        left
        have hac:∀ j,Cl cl i j→Cl cl j i→False:=fun j a b=>hnk (hi.kn_clo hs (hclk j a) b).1
        have hlookL:∀ t∈readsX o.op.operands.toList,lookR (entR ents r) t=lookR (entR (entL L ents) r) t:=by
         intro t ht
         have ht':t∈readsOf all o:=by unfold readsOf;exact List.mem_append_right _ ht
         refine look_fun hi hs (hlook t ht') (look_of hi hs ho (fun x hx=>(mem_entL.1 hx).1) ?_ ?_ t ht') hac
         ·intro j hj
          exact ⟨hclk j hj,fun x hx hxj=>mem_entL.2 ⟨hx,by rw [hxj];exact hclo j hj⟩⟩
         ·intro x hx hcx
          exact hnk (hi.kn_clo hs (hi.ent1 x (mem_entL.1 hx).1).1 hcx).1
        -- the heap behind it
        have hr2:opX P c.own c.lc o.dst (entR (entL L ents) r) h (fun v h'=>(setP n o.dst [] v (entR ents r) fun r'=>regD P c n all cl K rest nf r' h')∧(allocLike o.op=true→∃ x,h'=x::h)∧(calm (entR ents r) o.op=true→Kept h h')) o.op:=by
         have hr0:opX P c.own c.lc o.dst (entR ents r) h (fun v h'=>(setP n o.dst [] v (entR ents r) fun r'=>regD P c n all cl K rest nf r' h')∧(calm (entR ents r) o.op=true→Kept h h')) o.op:=by
          by_cases hcm:calm (entR ents r) o.op=true
          ·exact opX_mono (fun v h' hh=>⟨hh.1,fun _=>hh.2⟩) (opX_calm hcm hr)
          ·exact opX_mono (fun v h' hh=>⟨hh,fun hy=>absurd hy hcm⟩) hr
         have hr1:=opX_congr hlookL hr0
         by_cases hal:allocLike o.op=true
         ·have:=opX_alloc hal hr1
          exact opX_mono (fun v h' hh=>⟨hh.1.1,fun _=>hh.2,hh.1.2⟩) this
         ·exact opX_mono (fun v h' hh=>⟨hh.1,fun hy=>absurd hy hal,hh.2⟩) hr1
        refine opX_ok hr2 hc ?_
        rintro v h' g' u w' ⟨hset,hx,hkp⟩ hcw hrep hst
        have hstab:∀ k'∈kn,(L.setIfInBounds i true).getD k' false=false→∃ o g v Rk,all[k']?=some o∧entryQ P all Rk h' (fun g' v'=>g'=g∧v'=v) o ∧
          (∀ t∈readsOf all o,Look all cl ents r k' t (lookR Rk t)) ∧
          (∀ d,o.dst=some d→(k',d,g,v)∈ents∧d<n∧(∀ e∈g,e.1≠d)∧∀ t gg v,lookR r t=some (gg,v)→∀ e∈gg,e.1≠d) ∧
          (k' ∉ nf→∀ h',entryQ P all Rk h' (fun g' v'=>g'=g∧v'=v) o):=by
         intro k' hk' hl'
         have hl:L.getD k' false=false:=by
          cases hb:L.getD k' false with
          | false=>rfl
          | true=>rw [getD_set_true hb] at hl';cases hl'
         obtain ⟨o',g2,v2,Rk,q1,q2,q3,q4,q5⟩:=hi.fact k' hk' hl
         refine ⟨o',g2,v2,Rk,q1,?_,q3,q4,q5⟩
         by_cases hal:allocLike o.op=true
         ·obtain ⟨x,rfl⟩:=hx hal
          exact entryQ_heap (fun g K hh=>opQ_more hh) q2
         ·simp only [hal] at hsafe
          by_cases hcm:calm (entR ents r) o.op=true
          ·simp only [hcm] at hsafe
           by_cases hnf:k'∈nf
           ·rcases nfOKc_ok hsafe k' hnf with h1|⟨o2,h1,h2⟩
            ·have:=hclo k' h1
             rw [hl] at this;cases this
            ·rw [q1] at h1
             cases h1
             exact entryQ_heap (fun g K hh=>opQ_kept h2 (hkp hcm) hh) q2
           ·exact q5 hnf h'
          simp only [hcm] at hsafe
          by_cases hnf:k'∈nf
          ·have:=hclo k' (nfOK_ok hsafe k' hnf)
           rw [hl] at this;cases this
          ·exact q5 hnf h'
        have hown0:∀ {p:Prop},(L.setIfInBounds i true).getD i false=false→p:=by
         intro p hh
         have:(L.setIfInBounds i true).getD i false=true:=by simp [hlt]
         rw [this] at hh;cases hh
        have hf':∀ r2 h2 g2 a2 w2,K r2 h2→Conc n X g2 r2 h2 a2 w2→Step X g' h' w' g2 h2 w2→Q .normal a2 w2:=
         fun r2 h2 g2 a2 w2 hK hc2 hst2=>hf r2 h2 g2 a2 w2 hK hc2 (hst.trans hc.cw.own hst2)
        have hun:unl all.length (L.setIfInBounds i true)≤fuel:=by have:=unl_set hlti hi.lsize.symm hil;omega
        cases hd:o.dst with
        | none=>
          rw [hd] at hset
          have hi':=hi.enter (n:=n) (P:=P) (g:=[]) (v:=v) (ents':=ents) (nf':=nf) (h':=h') (L':=L.setIfInBounds i true) hs ho (by rw [hd]) (by simp) (.inr ⟨rfl,he⟩) hstab hown0
          refine IH rest _ nf ents h' _ g' _ w' hi' hset ?_ hun hf'
          have hE:entL (L.setIfInBounds i true) ents=entL L ents:=by
           unfold entL
           refine List.filter_congr fun x hx=>?_
           exact getD_set_ne false (fun e=>hnk (e ▸ (hi.ent1 x hx).1))
          rw [hE]
          simpa [Act.put] using hc.step hcw hst
        | some d=>
          rw [hd] at hset
          unfold setP at hset
          simp only at hset
          split at hset<;>try contradiction
          rename_i hdn
          rw [Nat.blt_eq] at hdn
          split at hset<;>try contradiction
          rename_i hni
          have hnr:=notIn_entR (notIn_cons hni).2
          have hi':=hi.enter (n:=n) (P:=P) (g:=[]) (v:=v) (ents':=(i,d,[],v)::ents) (nf':=nf) (h':=h') (L':=L.setIfInBounds i true) hs ho (by rw [hd]) (by simp) (.inr ⟨rfl,he⟩) hstab hown0
          refine IH rest _ nf ((i,d,[],v)::ents) h' _ g' _ w' hi' hset ?_ hun hf'
          have hE:entL (L.setIfInBounds i true) ((i,d,[],v)::ents)=(i,d,[],v)::entL L ents:=by
           unfold entL
           have h1:(L.setIfInBounds i true).getD i false=true:=by simp [hlt]
           rw [List.filter_cons,if_pos h1]
           congr 1
           refine List.filter_congr fun x hx=>?_
           exact getD_set_ne false (fun e=>hnk (e ▸ (hi.ent1 x hx).1))
          rw [hE]
          show Conc n X g' ((d,[],v)::entR (entL L ents) r) h' (a.put (some d) u) w'
          refine hc.put' hcw hst hdn (by simp) ?_ (fun _=>⟨by simp,hrep⟩) (fun hh=>absurd (fun e he=>by cases he) hh)
          intro t gg vv hl e hee hed
          rcases look_entR hl with ⟨x,hx,ex⟩|hl
          ·obtain ⟨hx,hlx⟩:=mem_entL.1 hx
           have hcx:=hi.path x hx e (by rw [ex];exact hee) i o ho (hed ▸ hd)
           exact hnk (hi.kn_clo hs (hi.ent1 x hx).1 hcx).1
          ·exact notIn_look hnr hl e hee hed
       ·have:=hclo k (hlate i hir)
        rw [hkl] at this;cases this
     · -- a quiet one: gone through,not yet carried out
      obtain ⟨g,v,hKv,hE⟩:=entryQ_val hr
      split at hKv<;>try contradiction
      rename_i hpath
      have hpath:=pathOK_ok hpath
      obtain ⟨nf2,hnf2⟩:∃ nf2,nf2=(match hfree (entR ents r) g o.op with|true=>nf|false=>k::nf):=⟨_,rfl⟩
      have hfr0:k ∉ nf2→∀ h',entryQ P all (entR ents r) h' (fun g' v'=>g'=g∧v'=v) o:=by
       intro hk' h'
       rw [hnf2] at hk'
       split at hk'
       ·rename_i hfr;exact entryQ_free hfr hE
       ·simp at hk'
      have hinc:∀ x∈nf,x∈nf2:=by
       intro x hx
       rw [hnf2]
       split
       ·exact hx
       ·exact List.mem_cons_of_mem _ hx
      have hold:∀ k'∈kn,L.getD k' false=false→∃ o g v Rk,all[k']?=some o∧entryQ P all Rk h (fun g' v'=>g'=g∧v'=v) o ∧
          (∀ t∈readsOf all o,Look all cl ents r k' t (lookR Rk t)) ∧
          (∀ d,o.dst=some d→(k',d,g,v)∈ents∧d<n∧(∀ e∈g,e.1≠d)∧∀ t gg v,lookR r t=some (gg,v)→∀ e∈gg,e.1≠d) ∧
          (k' ∉ nf2→∀ h',entryQ P all Rk h' (fun g' v'=>g'=g∧v'=v) o):=by
       intro k' hk' hl'
       obtain ⟨o',g2,v2,Rk,q1,q2,q3,q4,q5⟩:=hi.fact k' hk' hl'
       exact ⟨o',g2,v2,Rk,q1,q2,q3,q4,fun hh=>q5 fun hm=>hh (hinc _ hm)⟩
      cases hd:o.dst with
      | none=>
        rw [hd] at hKv
        have hi':=hi.enter (n:=n) (P:=P) (g:=g) (v:=v) (ents':=ents) (nf':=nf2) (h':=h) (L':=L) hs ho (by rw [hd]) hpath (.inl rfl) hold
         (fun _=>⟨o,g,v,entR ents r,ho,hE,hlook,fun d hd'=>(by rw [hd] at hd';cases hd'),hfr0⟩)
        exact ihr _ _ ents h L g0 a w hi' (by rw [hnf2];exact hKv) hc hu hf
      | some d=>
        rw [hd] at hKv
        unfold setP at hKv
        simp only at hKv
        split at hKv<;>try contradiction
        rename_i hdn
        rw [Nat.blt_eq] at hdn
        split at hKv<;>try contradiction
        rename_i hni
        obtain ⟨hn1,hn2⟩:=notIn_cons hni
        have hnr:=notIn_entR hn2
        have hi':=hi.enter (n:=n) (P:=P) (g:=g) (v:=v) (ents':=(k,d,g,v)::ents) (nf':=nf2) (h':=h) (L':=L) hs ho (by rw [hd]) hpath (.inl rfl) hold
         (fun _=>⟨o,g,v,entR ents r,ho,hE,fun t ht=>(hlook t ht).more (fun x hx=>List.mem_cons_of_mem _ hx),
           fun d' hd'=>(by rw [hd] at hd';cases hd';exact ⟨List.mem_cons_self,hdn,hn1,fun t gg vv hl=>notIn_look hnr hl⟩),hfr0⟩)
        refine ihr _ _ ((k,d,g,v)::ents) h L g0 a w hi' (by rw [hnf2];exact hKv) ?_ hu hf
        have hE:entL L ((k,d,g,v)::ents)=entL L ents:=by
         unfold entL
         rw [List.filter_cons,if_neg (by simp only [hkl];exact Bool.false_ne_true)]
        rw [hE]
        exact hc
end Go.Abs
/-
 The abstract layer,part R: the evaluator says what the code does;loops;functions.
-/
namespace Go.Abs
open Go
variable {P:Program} {n:Nat} {X:Nat→Prop} {g0:Gh} {r:Regs} {h:Heap} {a:Act} {w:World}
theorem frz_one {l1 l2:Heap} {b d:Nat} {cs:List AV} (hc:Conc n X g0 r (l1++(b,.vec cs)::l2) a w) (hl:lookR r d=some ([],.optr b 0)) :
  Conc n X g0 ((d,[],.iptr cs)::r) (l1++l2) a w∧Step X g0 (l1++(b,.vec cs)::l2) w g0 (l1++l2) w:=by
 have hg0:holdsC a []:=fun e he=>by cases he
 obtain ⟨s1,s2⟩:=hc.cw.sub (h':=l1++l2) (by
   intro k o hm
   simp only [List.mem_append,List.mem_cons] at hm ⊢
   rcases hm with h|h
   ·exact .inl h
   ·exact .inr (.inr h)) (by
   have:=hc.cw.nodup
   rw [keys_app] at this
   simp only [keys,List.map_append,List.nodup_append,List.nodup_cons,List.mem_cons] at this ⊢
   exact ⟨this.1,this.2.1.2,fun x hx y hy=>this.2.2 x hx y (.inr hy)⟩)
 refine ⟨⟨s1,?_,hc.defers,hc.size⟩,s2⟩
 have hc2:=hc.step s1 s2
 have hnm:=hc.cw.notmem
 have hsep:=hc.cw.sep b (by rw [keys_mem];exact .inl rfl)
 have hob:=hc.cw.obj b (.vec cs) (by simp)
 intro t gg v' hl'
 rw [lookR_cons] at hl'
 split at hl'
 ·rename_i ht
  subst ht
  cases hl'
  refine ⟨fun _=>⟨by simp,?_⟩,fun hh=>absurd hg0 hh⟩
  obtain ⟨_,u,hu1,hu2⟩:=(hc.regs _ _ _ hl).1 hg0
  rw [Rep] at hu2
  obtain ⟨p,q1,q2,q3⟩:=hu2
  refine ⟨u,hu1,?_⟩
  rw [Rep]
  refine ⟨p.block,p.off+0,q3,?_⟩
  obtain ⟨pp,cc2,t2,h1,h2,h3,h4,h5,h6⟩:=hob
  simp only at h1 h3 h4 q1
  rw [q1] at h1;cases h1
  have key:∀ (l':List AV) (o:Nat),(∀ i x,l'[i]?=some x→∃ u,cc2[p.off+(o+i)]?=some u∧u.oneCell'=true∧Rep ⟨g0,live X (l1++(b,.vec cs)::l2),w⟩ x u) →
    RepCs ⟨g0,live X (l1++l2),w⟩ l' p.block (p.off+o):=by
   intro l'
   induction l' with
   | nil=>intro o _;simp [RepCs]
   | cons x l' ih=>
     intro o hh
     simp only [RepCs]
     obtain ⟨u,e1,e2,e3⟩:=hh 0 x (by simp)
     refine ⟨⟨u,?_,e2,?_,Rep.mono (Step.le s2) _ _ e3⟩,?_⟩
     ·rw [cell_of_row _ p.block _ cc2 t2 _ h4];simpa using e1
     ·intro k s hk hlv
      simp only at hk
      rw [h3] at hk;cases hk
      rcases hlv with hx|hk
      ·exact absurd hx hsep
      ·exact absurd hk hnm
     ·rw [show p.off+o+1=p.off+(o+1) from rfl]
      refine ih (o+1) (fun i x hx=>?_)
      have:=hh (i+1) x (by simpa using hx)
      rwa [show o+(i+1)=o+1+i from by omega] at this
  exact key cs 0 (fun i x hx=>by simpa using h6 i x hx)
 ·exact hc2.regs t gg v' hl'
theorem frzP_ok {K:Regs→Heap→Prop}:∀ {ds:List Nat} {r:Regs} {h:Heap} {w:World},frzP K ds r h→Conc n X g0 r h a w→∃ r' h',K r' h'∧Conc n X g0 r' h' a w∧Step X g0 h w g0 h' w
 | [],r,h,w,hk,hc=>⟨r,h,hk,hc,Step.refl _ _ _ _⟩
 | d::ds,r,h,w,hk,hc=>by
   unfold frzP at hk
   split at hk<;>try contradiction
   rename_i b hl
   obtain ⟨cs,h',hu,hk⟩:=hk
   obtain ⟨l1,l2,rfl,rfl⟩:=Rem.split hu
   obtain ⟨c1,s1⟩:=frz_one hc hl
   obtain ⟨r2,h2,k1,k2,k3⟩:=frzP_ok hk c1
   exact ⟨r2,h2,k1,k2,s1.trans hc.cw.own k3⟩
theorem cw_ok {c:Cfg} (hm:P.follows .mixedOrders=true):∀ (code:Code) {Q:Ex→Regs→Heap→Prop} {r:Regs} {h:Heap},cw P c n X code Q r h→Holds P n X code Q r h:=by
 intro code
 induction code with
 | skip=>intro Q r h hh;refine ⟨fun g a w hc=>?_⟩;exact wp_skip ⟨.normal,g,r,h,rfl,hh,hc,Step.refl _ _ _ _⟩
 | region id ops draw=>
   intro Q r h hh
   cases draw with
   | true=>
     have hh:(match findOrd c.ords id with
      | some (ord,fz)=>drawOK ops.toList ord=true ∧
         regD P c n ops.toList (clos ops.toList []) (fun r' h'=>frzP (fun r'' h''=>normK r'' (fun r3=>Q .normal r3 h'') c.keep) fz r' h') ord [] r h
      | none=>Holds P n X (.region id ops true) Q r h):=hh
     split at hh
     ·rename_i ord fz hfo
      obtain ⟨hok,hreg⟩:=hh
      refine ⟨fun g a w hc=>?_⟩
      refine wp_region_any hm ?_
      obtain ⟨dc,ds⟩:=hc.cw.drew
      have hs:=drawS hok
      have hc':Conc n X g r h a w.drew:=hc.step dc ds
      have hi:DInv n P ops.toList (clos ops.toList []) ord r [] ord [] [] h (Array.replicate ops.size false):=by
       have hrep:∀ i,(Array.replicate ops.size false).getD i false=false:=by
        intro i
        by_cases hi:i<ops.size<;>simp [hi]
       refine ⟨rfl,by simp,?_,?_,by simp,by simp,by simp,by simp,by simp⟩
       ·intro i hL;rw [hrep i] at hL;cases hL
       ·intro i hL;rw [hrep i] at hL;cases hL
      have:=draw_game (n:=n) (X:=X) (r:=r) (c:=c) (Q:=fun e a' w'=>∃ ex g' r' h',e=Ex.toExit ex∧Q ex r' h'∧Conc n X g' r' h' a' w'∧Step X g h w g' h' w') hs ops.size ord [] [] [] h
       (Array.replicate ops.size false) g a w.drew hi hreg hc' (by unfold unl;exact Nat.le_trans (List.length_filter_le _ _) (by simp)) (by
         intro r' h' g' a' w' hK hc2 hst
         obtain ⟨r2,h2,hK,hc3,hst3⟩:=frzP_ok hK hc2
         obtain ⟨r3,hK,hl⟩:=normK_ok (k:=fun r3=>Q .normal r3 h2) hK
         exact ⟨.normal,g',r3,h2,rfl,hK,hc3.less hl,ds.trans hc.cw.own (hst.trans hc'.cw.own hst3)⟩)
      exact this
     ·exact hh
   | false=>
     refine ⟨fun g a w hc=>?_⟩
     have hh:regP P c n ops.toList (Q .normal) ops.toList r h:=hh
     refine wp_region ?_
     have:=regP_ok (Q:=fun e a' w'=>∃ ex g' r' h',e=Ex.toExit ex∧Q ex r' h'∧Conc n X g' r' h' a' w'∧Step X g h w g' h' w') ops.toList 0 r h g a w (fun j=>by simp) hh hc
      (fun r' h' g' a' w' hK hc' hst=>⟨.normal,g',r',h',rfl,hK,hc',hst⟩)
     simpa [List.range_eq_range'] using this
 | seq x y ihx ihy=>
   intro Q r h hh
   refine ⟨fun g a w hc=>?_⟩
   refine wp_seq (wp_mono ((ihx hh).holds g a w hc) ?_)
   rintro e a' w' ⟨ex,g',r',h',rfl,hQ,hc',hst⟩
   cases ex with
   | normal=>
     refine wp_mono ((ihy hQ).holds g' a' w' hc') ?_
     rintro e a2 w2 ⟨ex,g2,r2,h2,rfl,hQ,hc2,hst2⟩
     exact ⟨ex,g2,r2,h2,rfl,hQ,hc2,hst.trans hc.cw.own hst2⟩
   | exit i=>exact ⟨.exit i,g',r',h',rfl,hQ,hc',hst⟩
   | ret=>exact ⟨.ret,g',r',h',rfl,hQ,hc',hst⟩
 | cond x t f iht ihf=>
   intro Q r h hh
   refine ⟨fun g a w hc=>?_⟩
   simp only [cw] at hh
   split at hh<;>try contradiction
   rename_i b hx
   have hr:=hc.opnd (g:=[]) (fun e he=>by cases he) hx
   rw [Rep] at hr
   refine wp_cond_split hr (fun hb=>(iht (hh.1 hb)).holds g a w hc) (fun hb=>(ihf (hh.2 hb)).holds g a w hc)
 | block id x ih=>
   intro Q r h hh
   refine ⟨fun g a w hc=>?_⟩
   refine wp_block (wp_mono ((ih hh).holds g a w hc) ?_)
   rintro e a' w' ⟨ex,g',r',h',rfl,hQ,hc',hst⟩
   cases ex with
   | normal=>exact ⟨.normal,g',r',h',rfl,hQ,hc',hst⟩
   | exit i=>
     simp only at hQ
     simp only [Ex.toExit,Exit.inBlock]
     split at hQ
     ·rename_i hi
      rw [if_pos (Nat.eq_of_beq_eq_true hi)]
      exact ⟨.normal,g',r',h',rfl,hQ,hc',hst⟩
     ·rename_i hi
      rw [if_neg (fun e=>by subst e;rw [Nat.beq_refl] at hi;cases hi)]
      exact ⟨.exit i,g',r',h',rfl,hQ,hc',hst⟩
   | ret=>exact ⟨.ret,g',r',h',rfl,hQ,hc',hst⟩
 | loop x ih=>intro Q r h hh;exact hh
 | exit i=>intro Q r h hh;refine ⟨fun g a w hc=>?_⟩;exact wp_exit ⟨.exit i,g,r,h,rfl,hh,hc,Step.refl _ _ _ _⟩
 | ret=>intro Q r h hh;refine ⟨fun g a w hc=>?_⟩;exact wp_ret ⟨.ret,g,r,h,rfl,hh,hc,Step.refl _ _ _ _⟩
 | _=>intro Q r h hh;exact hh.elim
def retok:List (Nat × Nat)→Regs→Heap→(Regs→Heap→Prop)→Prop
 | [],r,h,K=>K r h
 | (t,k)::l,r,h,K=>match lookR r t with
   | some ([],.nilS)=>0<k∧∀ q,retok l ((t,[],.sl k (some q) [])::r) ((q,.tok)::h) K
   | _=>retok l r h K
theorem retok_ok {K:Regs→Heap→Prop}:∀ {l:List (Nat × Nat)} {r:Regs} {h:Heap} {w:World},retok l r h K→Conc n X g0 r h a w→∃ r' h',K r' h'∧Conc n X g0 r' h' a w∧Step X g0 h w g0 h' w
 | [],r,h,w,hk,hc=>⟨r,h,hk,hc,Step.refl _ _ _ _⟩
 | (t,k)::l,r,h,w,hk,hc=>by
   have hg0:holdsC a []:=fun e he=>by cases he
   unfold retok at hk
   split at hk
   ·rename_i hl
    obtain ⟨hk0,hk⟩:=hk
    obtain ⟨q,c1,s1⟩:=hc.cw.newKey
    have hc1:=hc.step c1 s1
    have hc2:Conc n X g0 ((t,[],.sl k (some q) [])::r) ((q,.tok)::h) a w:=by
     refine ⟨c1,fun t' gg v' hl'=>?_,hc.defers,hc.size⟩
     rw [lookR_cons] at hl'
     split at hl'
     ·rename_i ht
      subst ht
      cases hl'
      refine ⟨fun _=>⟨by simp,?_⟩,fun hh=>absurd hg0 hh⟩
      obtain ⟨_,u,hu1,hu2⟩:=(hc.regs _ _ _ hl).1 hg0
      refine ⟨u,hu1,?_⟩
      rw [Rep] at hu2
      subst hu2
      simp only [Rep]
      exact ⟨none,0,by simp,by simp,by simp,hk0,by simp,by simp,by simp,fun _ _=>.inl rfl⟩
     ·exact hc1.regs t' gg v' hl'
    obtain ⟨r2,h2,k1,k2,k3⟩:=retok_ok (hk q) hc2
    exact ⟨r2,h2,k1,k2,s1.trans hc.cw.own k3⟩
   ·exact retok_ok hk hc
def atHead (ks:List Nat) (ts:List (Nat × Nat)) (J:Regs→Heap→Prop) (r:Regs) (h:Heap):Prop:=
 retok ts r h fun r' h'=>normK r' (fun r''=>J r'' h') ks
theorem atHead_ok {ks:List Nat} {ts:List (Nat × Nat)} {J:Regs→Heap→Prop} (hh:atHead ks ts J r h) (hc:Conc n X g0 r h a w) :
  ∃ r' h',J r' h'∧Conc n X g0 r' h' a w∧Step X g0 h w g0 h' w:=by
 obtain ⟨r1,h1,k1,c1,s1⟩:=retok_ok hh hc
 obtain ⟨r2,k2,hl⟩:=normK_ok (k:=fun r''=>J r'' h1) k1
 exact ⟨r2,h1,k2,c1.less hl,s1⟩
theorem least_of {S:Nat→Prop} (h:∃ m,S m):∃ m,S m∧∀ k,S k→m≤k:=by
 obtain ⟨m,hm⟩:=h
 induction m using Nat.strongRecOn with
 | _ m ih=>
   by_cases hk:∃ k,k<m∧S k
   ·obtain ⟨k,hlt,hS⟩:=hk
    exact ih k hlt hS
   ·exact ⟨m,hm,fun k hS=>Nat.le_of_not_lt fun hlt=>hk ⟨k,hlt,hS⟩⟩
theorem holds_loop (ks:List Nat) (ts:List (Nat × Nat)) (J:Nat→Regs→Heap→Prop) {body:Code} {Q:Ex→Regs→Heap→Prop} (h0:atHead ks ts (fun r h=>∃ m,J m r h) r h)
  (hb:∀ m r h,J m r h→Holds P n X body (fun e r' h'=>match e with
    | .normal=>atHead ks ts (fun r h=>∃ m',m'<m∧J m' r h) r' h'
    | e=>Q e r' h') r h):Holds P n X (.loop body) Q r h:=by
 refine ⟨fun g a w hc=>?_⟩
 classical
 let S:Nat→Act→World→Prop:=fun m a' w'=>∃ g' r' h',J m r' h'∧Conc n X g' r' h' a' w'∧Step X g h w g' h' w'
 let I:Act→World→Prop:=fun a' w'=>∃ m,S m a' w'
 let μ:Act→World→Nat:=fun a' w'=>if hI:∃ m,S m a' w' then Classical.choose (least_of hI) else 0
 have hI0:I a w:=by
  obtain ⟨r',h',⟨m,hJ⟩,hc',hst⟩:=atHead_ok h0 hc
  exact ⟨m,g,r',h',hJ,hc',hst⟩
 refine wp_loop I μ hI0 ?_
 intro a1 w1 hI1
 have hμ:μ a1 w1=Classical.choose (least_of hI1):=by simp only [μ];rw [dif_pos hI1]
 obtain ⟨g1,r1,h1,hJ,hc1,hst1⟩:=(Classical.choose_spec (least_of hI1)).1
 rw [← hμ] at hJ
 refine wp_mono ((hb _ r1 h1 hJ).holds g1 a1 w1 hc1) ?_
 rintro e a2 w2 ⟨ex,g2,r2,h2,rfl,hQ,hc2,hst2⟩
 have hst12:=hst1.trans hc.cw.own hst2
 cases ex with
 | normal=>
   obtain ⟨r3,h3,⟨m',hlt,hJ'⟩,hc3,hst3⟩:=atHead_ok hQ hc2
   have hS:S m' a2 w2:=⟨g2,r3,h3,hJ',hc3,hst12.trans hc.cw.own hst3⟩
   refine ⟨⟨m',hS⟩,?_⟩
   have hI2:∃ m,S m a2 w2:=⟨m',hS⟩
   have:μ a2 w2≤m':=by simp only [μ];rw [dif_pos hI2];exact (Classical.choose_spec (least_of hI2)).2 m' hS
   omega
 | exit i=>exact ⟨.exit i,g2,r2,h2,rfl,hQ,hc2,hst12⟩
 | ret=>exact ⟨.ret,g2,r2,h2,rfl,hQ,hc2,hst12⟩
def argRegs:Nat→List AV→Regs
 | _,[]=>[]
 | i,x::xs=>(i,[],x)::argRegs (i+1) xs
def resK (P:Program) (r:Regs) (h:Heap):List ResultVar→(List AV→Prop)→Prop
 | [],K=>K []
 | .tmp t::l,K=>match opnd r [] (.tmp t) with
   | some v=>resK P r h l fun vs=>K (v::vs)
   | none=>False
 | .cell b t::l,K=>match opnd r [] (.tmp b) with
   | some (.iptr cs)=>loadI P t cs fun v=>resK P r h l fun vs=>K (v::vs)
   | some (.optr b o)=>∃ cs l',(b,Ob.vec cs)∈h∧dropN o cs=some l'∧loadI P t l' fun v=>resK P r h l fun vs=>K (v::vs)
   | _=>False
def resV (R:AV→Heap→Prop) (h:Heap):List AV→Prop
 | [v]=>R v h
 | vs=>R (.tup vs) h
def resP (P:Program) (fn:Func) (r:Regs) (h:Heap) (R:AV→Heap→Prop):Prop:=resK P r h fn.results.toList (resV R h)
end Go.Abs
/-
 The abstract layer,part S: functions.
-/
namespace Go.Abs
open Go
variable {P:Program} {n:Nat} {X:Nat→Prop} {g0:Gh} {r:Regs} {h:Heap} {a:Act} {w:World}
theorem resK_ok (hc:Conc n X g0 r h a w):∀ {l:List ResultVar} {K:List AV→Prop},resK P r h l K →
  ∃ (vs:List AV) (us:List Value),K vs∧(l.mapM (m:=Sem) fun|.tmp t=>pure (a.tmps.getD t undef)|.cell b t=>do loadVar t (← asAddr (a.tmps.getD b undef))).run P w=.ok us w∧RepVs ⟨g0,live X h,w⟩ vs us
 | [],K,hr=>⟨[],[],hr,by simp,by simp [RepVs]⟩
 | .tmp t::l,K,hr=>by
   unfold resK at hr
   split at hr<;>try contradiction
   rename_i v hv
   obtain ⟨vs,us,hK,h1,h2⟩:=resK_ok hc hr
   have hrep:=hc.opnd (g:=[]) (fun e he=>by cases he) hv
   refine ⟨v::vs,a.tmps.getD t undef::us,hK,?_,?_⟩
   ·simp only [List.mapM_cons,Sem.run_bind,Sem.run_pure,Result.andThen,h1]
   ·simp only [RepVs]
    exact ⟨_,_,rfl,by simpa [Act.eval] using hrep,h2⟩
 | .cell b t::l,K,hr=>by
   unfold resK at hr
   split at hr<;>try contradiction
   all_goals
    rename_i hb
    have hrep:=hc.opnd (g:=[]) (fun e he=>by cases he) hb
    obtain ⟨z,s,hz,h2,h3⟩:=load_ok (t:=t) hc.cw hrep hr
    obtain ⟨vs,us,hK,h1,h4⟩:=resK_ok hc hz
    have hp:∃ ad,a.eval (.tmp b)=.pointer (some ad):=by
     rw [Rep] at hrep
     first
      | (obtain ⟨x,y,e,_⟩:=hrep;exact ⟨_,e⟩)
      | (obtain ⟨x,_,_,e⟩:=hrep;exact ⟨_,e⟩)
    obtain ⟨ad,hp⟩:=hp
    rw [hp] at h3
    have hp':a.tmps.getD b undef=.pointer (some ad):=by simpa [Act.eval] using hp
    have has:(asAddr (.pointer (some ad))).run P w=.ok ad w:=by simp [asAddr]
    have h3':(loadVar t ad).run P w=.ok s w:=by simpa [Instr.loadAt,Instr.sureAddr] using h3
    refine ⟨z::vs,s::us,hK,?_,?_⟩
    ·simp only [List.mapM_cons,Sem.run_bind,Sem.run_pure,hp',has,Result.andThen,h3',h1]
    ·simp only [RepVs]
     exact ⟨_,_,rfl,h2,h4⟩
theorem resP_ok {fn:Func} {R:AV→Heap→Prop} (hc:Conc n X g0 r h a w) (hr:resP P fn r h R):∃ v u,R v h∧(results fn a.tmps).run P w=.ok u w∧Rep ⟨g0,live X h,w⟩ v u:=by
 obtain ⟨vs,us,hK,h1,h2⟩:=resK_ok (P:=P) hc hr
 have key:(results fn a.tmps).run P w=.ok (if h:us.length=1 then us[0] else .tuple us.toArray) w:=by
  unfold results
  rw [Array.mapM_eq_mapM_toList]
  simp only [Sem.run_bind,Sem.run_pure,Sem.run_map,map_eq_pure_bind,Result.andThen]
  erw [h1]
  simp
 rw [key]
 have hl:=h2.length
 unfold resV at hK
 split at hK
 ·rename_i v
  simp only [RepVs] at h2
  obtain ⟨u,rr,rfl,h3,rfl⟩:=h2
  exact ⟨v,u,hK,by simp,h3⟩
 ·rename_i hne
  have:us.length≠1:=by
   intro e
   rw [e] at hl
   match vs,hl,hne with
   | [v],_,hne=>exact hne v rfl
  rw [dif_neg this]
  exact ⟨.tup vs,.tuple us.toArray,hK,rfl,by simp only [Rep];exact ⟨_,rfl,by simpa using h2⟩⟩
theorem argRegs_look {t:Nat} {gg:G} {v:AV}:∀ {xs:List AV} {i:Nat},lookR (argRegs i xs) t=some (gg,v)→gg=[]∧i≤t∧xs[t - i]?=some v
 | [],i,h=>by cases h
 | x::xs,i,h=>by
   unfold argRegs at h
   unfold lookR at h
   split at h
   ·rename_i hb
    have hb:=Nat.eq_of_beq_eq_true hb
    subst hb
    cases h
    exact ⟨rfl,Nat.le_refl _,by simp⟩
   ·obtain ⟨h1,h2,h3⟩:=argRegs_look h
    refine ⟨h1,by omega,?_⟩
    rw [show t - i=(t - (i+1))+1 from by omega]
    simpa using h3
def endP (P:Program) (fn:Func) (R:AV→Heap→Prop):Ex→Regs→Heap→Prop
 | .normal,r,h=>resP P fn r h R
 | .ret,r,h=>resP P fn r h R
 | .exit _,_,_=>False
theorem acalls {f:FuncId} {fn:Func} {c:Cfg} {code:Code} {args:List AV} {R:AV→Heap→Prop} (hf:P.funcs[f]?=some fn) (hb:fn.body=some code) (hname:(fn.name == "runtime.NumGoroutine")=false)
  (hm:P.follows .mixedOrders=true) (hn:args.length≤fn.ntmps) (hcw:∀ X,cw P c fn.ntmps X code (endP P fn R) (argRegs 0 args) h):ACalls P f args h R:=by
 refine ⟨fun X g w us hc hr=>.inl ⟨⟨fn,code,hf,hb,hname⟩,?_⟩⟩
 have hlen:=hr.length
 simp at hlen
 refine calls_of_wp hf hb (wp_mono ((cw_ok (n:=fn.ntmps) hm code (hcw X)).holds g _ w ⟨hc,?_,rfl,by simp;omega⟩) ?_)
 ·intro t gg v hl
  obtain ⟨rfl,_,hx⟩:=argRegs_look hl
  obtain ⟨u,hu,hrep⟩:=hr.get t v (by simpa using hx)
  refine ⟨fun _=>⟨by simp,u,?_,hrep⟩,fun hh=>absurd (fun e he=>by cases he) hh⟩
  have hu':us[t]?=some u:=by simpa using hu
  have:=(Array.getElem?_eq_some_iff.1 hu').1
  rw [Array.getElem?_append_left this]
  exact hu'
 ·rintro e a' w' ⟨ex,g',r',h',rfl,hQ,hc',hst⟩
  cases ex with
  | normal=>
    obtain ⟨v,u,h1,h2,h3⟩:=resP_ok (P:=P) hc' hQ
    exact ⟨hc'.defers,u,h2,v,u,g',h',rfl,h1,hc'.cw,h3,hst⟩
  | ret=>
    obtain ⟨v,u,h1,h2,h3⟩:=resP_ok (P:=P) hc' hQ
    exact ⟨hc'.defers,u,h2,v,u,g',h',rfl,h1,hc'.cw,h3,hst⟩
  | exit i=>exact hQ.elim
theorem QCall.k {f:FuncId} {vs:List AV} {v:AV} {K:AV→Heap→Prop} (hq:QCall P f vs h v) (hk:K v h):ACalls P f vs h K:=
 ACalls.mono (by rintro v' h' ⟨rfl,rfl⟩;exact hk) hq
theorem QCall.k0 {f:FuncId} {vs:List AV} {v:AV} {K:AV→Heap→Prop} (hq:QCall P f vs [] v) (hk:K v h):ACalls P f vs h K:=(hq.wide h).k hk
theorem loop_ok {c:Cfg} (hm:P.follows .mixedOrders=true) (ks:List Nat) (ts:List (Nat × Nat)) (J:Nat→Regs→Heap→Prop) {body:Code} {Q:Ex→Regs→Heap→Prop} (h0:atHead ks ts (fun r h=>∃ m,J m r h) r h)
  (hb:∀ m r h,J m r h→cw P c n X body (fun e r' h'=>match e with
    | .normal=>atHead ks ts (fun r h=>∃ m',m'<m∧J m' r h) r' h'
    | e=>Q e r' h') r h):Holds P n X (.loop body) Q r h:=
 holds_loop ks ts J h0 fun m r h hJ=>cw_ok hm _ (hb m r h hJ)
def ints (l:List Int):List (List AV):=l.map fun x=>[AV.int .i64 x]
@[simp] theorem ints_length (l:List Int):(ints l).length=l.length:=by simp [ints]
theorem ints_get {l:List Int} {j:Nat} {x:Int} (h:l[j]?=some x):(ints l)[j]?=some [AV.int .i64 x]:=by simp [ints,h]
end Go.Abs
/-
 The abstract layer,part T: the evaluator again,over places in a function's code instead of the code itself,so that a goal stays small.
-/
namespace Go.Abs
open Go
def child:Bool→Code→Code
 | false,.seq a _=>a
 | true,.seq _ b=>b
 | false,.cond _ a _=>a
 | true,.cond _ _ b=>b
 | _,.block _ a=>a
 | _,.loop a=>a
 | _,_=>.skip
def bodyOf (F:Func):Code:=match F.body with|some c=>c|none=>.skip
def cat (F:Func):List Bool→Code
 | []=>bodyOf F
 | b::p=>child b (cat F p)
def opsAt (F:Func) (p:List Bool):List Oper:=match cat F p with|.region _ ops _=>ops.toList|_=>[]
theorem setP_mono {n:Nat} {d:Option Nat} {g:G} {v:AV} {r:Regs} {K K':Regs→Prop} (hk:∀ r,K r→K' r) (h:setP n d g v r K):setP n d g v r K':=by
 cases d with
 | none=>exact hk _ h
 | some d=>
   unfold setP at h ⊢
   simp only at h ⊢
   cases h1:Nat.blt d n with
   | false=>rw [h1] at h;exact h.elim
   | true=>
     rw [h1] at h
     simp only at h ⊢
     cases h2:notIn ((d,g,v)::r) d with
     | false=>rw [h2] at h;exact h.elim
     | true=>rw [h2] at h;exact hk _ h
theorem storeF_mono {P:Program} {r:Regs} {h:Heap} {t:TypeId} {d:Nat} {y:Operand} {K K':Regs→Heap→Prop} (hk:∀ r h,K r h→K' r h) (hs:storeF P r h t d y K):storeF P r h t d y K':=by
 unfold storeF at hs ⊢
 split at hs<;>try contradiction
 split at hs<;>try contradiction
 split at hs<;>try contradiction
 split at hs<;>try contradiction
 obtain ⟨cs,h',a,b,e⟩:=hs
 exact ⟨cs,h',a,b,hk _ _ e⟩
theorem normK_mono {r:Regs} {k k':Regs→Prop} (hk:∀ r,k r→k' r):∀ {ts:List Nat},normK r k ts→normK r k' ts
 | [],h=>hk _ h
 | t::ts,h=>by
   unfold normK at h ⊢
   split at h
   ·exact normK_mono (fun l hl=>hk _ hl) h
   ·exact normK_mono hk h
theorem frzP_mono {K K':Regs→Heap→Prop} (hk:∀ r h,K r h→K' r h):∀ {ds:List Nat} {r:Regs} {h:Heap},frzP K ds r h→frzP K' ds r h
 | [],r,h,hh=>hk _ _ hh
 | d::ds,r,h,hh=>by
   unfold frzP at hh ⊢
   split at hh<;>try contradiction
   obtain ⟨cs,h',a,b⟩:=hh
   exact ⟨cs,h',a,frzP_mono hk b⟩
theorem entryQ_mono {P:Program} {all:List Oper} {r:Regs} {h:Heap} {K K':G→AV→Prop} {o:Oper} (hk:∀ g v,K g v→K' g v) (hh:entryQ P all r h K o):entryQ P all r h K' o:=by
 unfold entryQ at hh ⊢
 split at hh
 ·exact opQ_mono (hk _) hh
 ·split at hh<;>try contradiction
  split at hh<;>try contradiction
  split at hh<;>try contradiction
  exact opQ_mono (hk _) hh
def aft (R:Regs→Heap→Prop) (n:Nat) (d:Option Nat) (g:G) (r:Regs) (h:Heap) (v:AV):Prop:=setP n d g v r fun r'=>R r' h
def aftL (R:Regs→Heap→Prop) (n:Nat) (d:Option Nat) (r:Regs) (v:AV) (h:Heap):Prop:=setP n d [] v r fun r'=>R r' h
def aftD (R:List Nat→Regs→Heap→Prop) (all:List Oper) (i n:Nat) (o:Oper) (nf:List Nat) (r:Regs) (h:Heap) (g:G) (v:AV):Prop:=
 match pathOK (clos all []) all i g with
 | true=>setP n o.dst g v r fun r'=>R (match hfree r g o.op with|true=>nf|false=>i::nf) r' h
 | false=>False
def rdraw (P:Program) (c:Cfg) (n:Nat) (all:List Oper) (K:Regs→Heap→Prop):List Nat→List Nat→Regs→Heap→Prop
 | [],_,r,h=>K r h
 | i::rest,nf,r,h=>match all[i]? with
   | none=>False
   | some o=>match loudD c o with
     | true=>(match o.guard with
       | none=>(match lateOK (clos all []) i rest with
         | true=>(match (match allocLike o.op with|true=>true|false=>(match calm r o.op with|true=>nfOKc (clos all []) all i nf|false=>nfOK (clos all []) i nf)) with
           | true=>opX P c.own c.lc o.dst r h (aftL (rdraw P c n all K rest nf) n o.dst r) o.op
           | false=>False)
         | false=>False)
       | some _=>False)
     | false=>entryQ P all r h (aftD (rdraw P c n all K rest) all i n o nf r h) o
theorem rdraw_ok {P:Program} {c:Cfg} {n:Nat} {all:List Oper} {K K':Regs→Heap→Prop} (hk:∀ r h,K r h→K' r h):∀ {l nf:List Nat} {r:Regs} {h:Heap},rdraw P c n all K l nf r h→regD P c n all (clos all []) K' l nf r h
 | [],nf,r,h,hh=>hk _ _ hh
 | i::l,nf,r,h,hh=>by
   unfold rdraw at hh
   unfold regD
   split at hh<;>try contradiction
   rename_i o ho
   split at hh
   ·split at hh<;>try contradiction
    split at hh<;>try contradiction
    split at hh<;>try contradiction
    rename_i h1 _ h2 _ h3 _ h4
    simp only [ho,h1,h2,h3]
    cases ha:allocLike o.op with
    | true=>exact opX_mono (fun v h'=>setP_mono fun _=>rdraw_ok hk) hh
    | false=>
      cases hcm:calm r o.op with
      | true=>
        simp only [ha,hcm] at h4 ⊢
        rw [h4]
        exact opX_mono (fun v h'=>setP_mono fun _=>rdraw_ok hk) hh
      | false=>
        simp only [ha,hcm] at h4 ⊢
        rw [h4]
        exact opX_mono (fun v h'=>setP_mono fun _=>rdraw_ok hk) hh
   ·rename_i h1
    simp only [ho,h1]
    refine entryQ_mono (fun g v hv=>?_) hh
    unfold aftD at hv
    split at hv<;>try contradiction
    rename_i h2
    simp only [h2]
    exact setP_mono (fun _=>rdraw_ok hk) hv
theorem rdraw_mono {P:Program} {c:Cfg} {n:Nat} {all:List Oper} {K K':Regs→Heap→Prop} (hk:∀ r h,K r h→K' r h):∀ {l nf:List Nat} {r:Regs} {h:Heap},rdraw P c n all K l nf r h→rdraw P c n all K' l nf r h
 | [],nf,r,h,hh=>hk _ _ hh
 | i::l,nf,r,h,hh=>by
   unfold rdraw at hh ⊢
   split at hh<;>try contradiction
   rename_i o ho
   split at hh
   ·split at hh<;>try contradiction
    split at hh<;>try contradiction
    split at hh<;>try contradiction
    exact opX_mono (fun v h'=>setP_mono fun _=>rdraw_mono hk) hh
   ·refine entryQ_mono (fun g v hv=>?_) hh
    unfold aftD at hv ⊢
    split at hv<;>try contradiction
    exact setP_mono (fun _=>rdraw_mono hk) hv
inductive Fr where
 | seq (p:List Bool)
 | blk (id:Nat)
 | head (J:Regs→Heap→Prop)
inductive Mode where
 | go (p:List Bool)
 | op (p:List Bool) (i:Nat)
 | ex (e:Ex)
structure En where
 n:Nat
 X:Nat→Prop
 Q:Ex→Regs→Heap→Prop
def run (P:Program) (c:Cfg) (F:Func) (E:En):Nat→Mode→List Fr→Regs→Heap→Prop
 | 0,_,_,_,_=>False
 | k+1,.ex e,[],r,h=>E.Q e r h
 | k+1,.ex e,.seq p::S,r,h=>(match e with
   | .normal=>run P c F E k (.go p) S r h
   | _=>run P c F E k (.ex e) S r h)
 | k+1,.ex e,.blk id::S,r,h=>(match e with
   | .exit i=>(match Nat.beq i id with
     | true=>run P c F E k (.ex .normal) S r h
     | false=>run P c F E k (.ex (.exit i)) S r h)
   | _=>run P c F E k (.ex e) S r h)
 | k+1,.ex e,.head J::S,r,h=>(match e with
   | .normal=>J r h
   | _=>run P c F E k (.ex e) S r h)
 | k+1,.op p i,S,r,h=>(match (opsAt F p)[i]? with
   | none=>normK r (fun r'=>run P c F E k (.ex .normal) S r' h) c.keep
   | some o=>match o.guard with
     | none=>(match loud c o.dst o.op with
       | true=>(match o.op,o.dst with
         | .store t (.tmp d) y,none=>(match memN c.frz d with
           | true=>storeF P r h t d y (run P c F E k (.op p (i+1)) S)
           | false=>opL P r h (aftL (run P c F E k (.op p (i+1)) S) E.n o.dst r) o.op)
         | _,_=>opX P c.own c.lc o.dst r h (aftL (run P c F E k (.op p (i+1)) S) E.n o.dst r) o.op)
       | false=>opQ P r [] h (aft (run P c F E k (.op p (i+1)) S) E.n o.dst [] r h) o.op)
     | some (j,w)=>match (opsAt F p)[j]? with
       | some oj=>(match oj.dst with
         | some tj=>(match lookR r tj with
           | some (gj,.bool b)=>(match isCallV o.op,(match o.dst with|some d=>memN c.spl d|none=>false) with
             | true,true=>(match gj with
               | []=>(b=w→opL P (ung tj w r) h (aftL (run P c F E k (.op p (i+1)) S) E.n o.dst (ung tj w r)) o.op) ∧
                  (b≠w→aft (run P c F E k (.op p (i+1)) S) E.n o.dst [(tj,b,w)] r h (.bool false))
               | _=>False)
             | _,_=>(match (match isCallV o.op with|true=>false|false=>loud c o.dst o.op) with
               | true=>False
               | false=>opQ P r (gj++[(tj,b,w)]) h (aft (run P c F E k (.op p (i+1)) S) E.n o.dst (gj++[(tj,b,w)]) r h) o.op))
           | _=>False)
         | none=>False)
       | none=>False)
 | k+1,.go p,S,r,h=>(match cat F p with
   | .skip=>run P c F E k (.ex .normal) S r h
   | .region id _ draw=>(match draw with
     | false=>(match findOrd c.ords id with
       | none=>run P c F E k (.op p 0) S r h
       | some _=>Holds P E.n E.X (cat F p) (fun e r h=>run P c F E k (.ex e) S r h) r h)
     | true=>(match findOrd c.ords id with
       | some (ord,fz)=>drawOK (opsAt F p) ord=true ∧
          rdraw P c E.n (opsAt F p) (fun r' h'=>frzP (fun r'' h''=>normK r'' (fun r3=>run P c F E k (.ex .normal) S r3 h'') c.keep) fz r' h') ord [] r h
       | none=>Holds P E.n E.X (cat F p) (fun e r h=>run P c F E k (.ex e) S r h) r h))
   | .seq _ _=>run P c F E k (.go (false::p)) (.seq (true::p)::S) r h
   | .cond x _ _=>(match opnd r [] x with
     | some (.bool t)=>(t=true→run P c F E k (.go (false::p)) S r h)∧(t=false→run P c F E k (.go (true::p)) S r h)
     | _=>False)
   | .block id _=>run P c F E k (.go (false::p)) (.blk id::S) r h
   | .loop _=>Holds P E.n E.X (cat F p) (fun e r h=>run P c F E k (.ex e) S r h) r h
   | .exit i=>run P c F E k (.ex (.exit i)) S r h
   | .ret=>run P c F E k (.ex .ret) S r h
   | _=>False)
theorem aft_mono {R:Regs→Heap→Prop} {K:Regs→Heap→Prop} {n:Nat} {d:Option Nat} {g:G} {r:Regs} {h:Heap} {v:AV} (hk:∀ r h,R r h→K r h) (hh:aft R n d g r h v):setP n d g v r fun r'=>K r' h:=
 setP_mono (fun r=>hk r h) hh
theorem aftL_mono {R:Regs→Heap→Prop} {K:Regs→Heap→Prop} {n:Nat} {d:Option Nat} {r:Regs} {h:Heap} {v:AV} (hk:∀ r h,R r h→K r h) (hh:aftL R n d r v h):setP n d [] v r fun r'=>K r' h:=
 setP_mono (fun r=>hk r h) hh
theorem holds_mono {P:Program} {n:Nat} {X:Nat→Prop} {c:Code} {Q Q':Ex→Regs→Heap→Prop} (hq:∀ e r h,Q e r h→Q' e r h) {r:Regs} {h:Heap} (hh:Holds P n X c Q r h):Holds P n X c Q' r h:=by
 refine ⟨fun g a w hc=>wp_mono (hh.holds g a w hc) ?_⟩
 rintro e a' w' ⟨ex,g',r',h',rfl,hQ,hc',hst⟩
 exact ⟨ex,g',r',h',rfl,hq _ _ _ hQ,hc',hst⟩
theorem aft_m {R R':Regs→Heap→Prop} {n:Nat} {d:Option Nat} {g:G} {r:Regs} {h:Heap} {v:AV} (hk:∀ {r h},R r h→R' r h) (hh:aft R n d g r h v):aft R' n d g r h v:=
 setP_mono (fun r=>hk) hh
theorem aftL_m {R R':Regs→Heap→Prop} {n:Nat} {d:Option Nat} {r:Regs} {h:Heap} {v:AV} (hk:∀ {r h},R r h→R' r h) (hh:aftL R n d r v h):aftL R' n d r v h:=
 setP_mono (fun r=>hk) hh
theorem run_mono {P:Program} {c:Cfg} {F:Func} {E:En}:∀ (k k':Nat) (m:Mode) (S:List Fr) {r:Regs} {h:Heap},k≤k'→run P c F E k m S r h→run P c F E k' m S r h
 | 0,k',m,S,r,h,hB,hh=>hh.elim
 | k+1,0,m,S,r,h,hB,hh=>absurd hB (by omega)
 | k+1,k'+1,m,S,r,h,hB,hh=>by
   have ih:∀ {m:Mode} {S:List Fr} {r:Regs} {h:Heap},run P c F E k m S r h→run P c F E k' m S r h:=run_mono k k' _ _ (by omega)
   cases m with
   | ex e=>
     cases S with
     | nil=>exact hh
     | cons f S=>
       cases f with
       | seq p=>unfold run at hh ⊢;cases e<;>exact ih hh
       | blk id=>
         unfold run at hh ⊢
         cases e with
         | exit i=>
           simp only at hh ⊢
           cases hb:Nat.beq i id<;>simp only [hb] at hh ⊢<;>exact ih hh
         | _=>exact ih hh
       | head J=>unfold run at hh ⊢;cases e<;>first|exact hh|exact ih hh
   | go p=>
     unfold run at hh ⊢
     cases hcat:cat F p with
     | skip=>rw [hcat] at hh;exact ih hh
     | region id ops draw=>
       rw [hcat] at hh
       cases draw with
       | false=>
         simp only at hh ⊢
         split at hh
         ·exact ih hh
         ·exact holds_mono (fun e r h=>ih) hh
       | true=>
         simp only at hh ⊢
         split at hh
         ·exact ⟨hh.1,rdraw_mono (fun r h=>frzP_mono fun r h=>normK_mono fun r' hr=>ih hr) hh.2⟩
         ·exact holds_mono (fun e r h=>ih) hh
     | seq x y=>rw [hcat] at hh;exact ih hh
     | cond x t f=>
       rw [hcat] at hh
       simp only at hh ⊢
       split at hh<;>try contradiction
       exact ⟨fun hb=>ih (hh.1 hb),fun hb=>ih (hh.2 hb)⟩
     | block id x=>rw [hcat] at hh;exact ih hh
     | loop x=>rw [hcat] at hh;exact holds_mono (fun e r h=>ih) hh
     | exit i=>rw [hcat] at hh;exact ih hh
     | ret=>rw [hcat] at hh;exact ih hh
     | _=>rw [hcat] at hh;exact hh.elim
   | op p i=>
     unfold run at hh ⊢
     cases ho:(opsAt F p)[i]? with
     | none=>rw [ho] at hh;exact normK_mono (fun r' hr=>ih hr) hh
     | some o=>
       rw [ho] at hh
       simp only at hh ⊢
       cases hg:o.guard with
       | none=>
         simp only [hg] at hh ⊢
         cases hl:loud c o.dst o.op with
         | true=>
           simp only [hl] at hh ⊢
           split at hh
           ·rename_i t d y e1 e2
            cases hm:memN c.frz d with
            | true=>simp only [hm] at hh ⊢;exact storeF_mono (fun _ _=>ih) hh
            | false=>simp only [hm] at hh ⊢;exact opL_mono (fun v h'=>aftL_m ih) hh
           ·exact opX_mono (fun v h'=>aftL_m ih) hh
         | false=>simp only [hl] at hh ⊢;exact opQ_mono (fun v=>aft_m ih) hh
       | some jw=>
         obtain ⟨j,w⟩:=jw
         simp only [hg] at hh ⊢
         split at hh<;>try contradiction
         split at hh<;>try contradiction
         split at hh<;>try contradiction
         cases hcv:isCallV o.op with
         | false=>
           simp only [hcv] at hh ⊢
           split at hh<;>try contradiction
           exact opQ_mono (fun v=>aft_m ih) hh
         | true=>
           simp only [hcv] at hh ⊢
           split at hh
           ·split at hh<;>try contradiction
            exact ⟨fun hb=>opL_mono (fun v h'=>aftL_m ih) (hh.1 hb),fun hb=>aft_m ih (hh.2 hb)⟩
           ·exact opQ_mono (fun v=>aft_m ih) hh
theorem op_ok {P:Program} {c:Cfg} {F:Func} {E:En} {p:List Bool} {S:List Fr} (B:Nat):∀ (k i:Nat) {r:Regs} {h:Heap},k≤B→run P c F E k (.op p i) S r h→regP P c E.n (opsAt F p) (run P c F E B (.ex .normal) S) ((opsAt F p).drop i) r h
 | 0,i,r,h,hB,hh=>hh.elim
 | k+1,i,r,h,hB,hh=>by
   have ih:∀ {r:Regs} {h:Heap},run P c F E k (.op p (i+1)) S r h→regP P c E.n (opsAt F p) (run P c F E B (.ex .normal) S) ((opsAt F p).drop (i+1)) r h:=op_ok B k (i+1) (by omega)
   unfold run at hh
   cases ho:(opsAt F p)[i]? with
   | none=>
     rw [ho] at hh
     rw [List.drop_of_length_le (by simpa using ho)]
     unfold regP
     exact normK_mono (fun r' hr=>run_mono k B _ _ (by omega) hr) hh
   | some o=>
     rw [ho] at hh
     obtain ⟨hlt,he⟩:=List.getElem?_eq_some_iff.1 ho
     rw [List.drop_eq_getElem_cons hlt,he]
     unfold regP
     simp only at hh ⊢
     split
     ·rename_i hg
      rw [hg] at hh
      simp only at hh
      split
      ·rename_i hl
       rw [hl] at hh
       simp only at hh
       split
       ·rename_i t d y e1 e2
        rw [e1,e2] at hh
        simp only at hh
        split
        ·rename_i hm
         rw [hm] at hh
         exact storeF_mono (fun _ _=>ih) hh
        ·rename_i hm
         rw [hm] at hh
         simp only at hh
         rw [e1,e2]
         exact opL_mono (fun v h'=>aftL_mono fun _ _=>ih) hh
       ·rename_i hne
        refine opX_mono (K:=aftL (run P c F E k (.op p (i+1)) S) E.n o.dst r) (fun v h'=>aftL_mono fun _ _=>ih) ?_
        split at hh
        ·rename_i t d y e1 e2
         exact absurd e2 (hne t d y e1)
        ·exact hh
      ·rename_i hl
       rw [hl] at hh
       exact opQ_mono (fun v=>aft_mono fun _ _=>ih) hh
     ·rename_i j w hg
      rw [hg] at hh
      simp only at hh
      split at hh<;>try contradiction
      rename_i oj hoj
      split at hh<;>try contradiction
      rename_i tj htj
      split at hh<;>try contradiction
      rename_i gj b hlk
      simp only [hoj,htj,hlk]
      cases hcv:isCallV o.op with
      | false=>
        simp only [hcv] at hh ⊢
        split at hh<;>try contradiction
        rename_i e4
        simp only [e4]
        exact opQ_mono (fun v=>aft_mono fun _ _=>ih) hh
      | true=>
        simp only [hcv] at hh ⊢
        cases hd:o.dst with
        | none=>
          simp only [hd] at hh ⊢
          exact opQ_mono (fun v=>aft_mono fun _ _=>ih) hh
        | some d=>
          simp only [hd] at hh ⊢
          cases hm:memN c.spl d with
          | false=>
            simp only [hm] at hh ⊢
            exact opQ_mono (fun v=>aft_mono fun _ _=>ih) hh
          | true=>
            simp only [hm] at hh ⊢
            cases gj with
            | nil=>exact ⟨fun hb=>opL_mono (fun v h'=>aftL_mono fun _ _=>ih) (hh.1 hb),fun hb=>aft_mono (fun _ _=>ih) (hh.2 hb)⟩
            | cons _ _=>exact hh.elim
theorem opsAt_eq {F:Func} {p:List Bool} {id:Nat} {ops:Array Oper} {dr:Bool} (h:cat F p=.region id ops dr):opsAt F p=ops.toList:=by
 unfold opsAt;rw [h]
abbrev Post (P:Program) (c:Cfg) (F:Func) (E:En) (k:Nat) (S:List Fr):Ex→Regs→Heap→Prop:=fun e r h=>run P c F E k (.ex e) S r h
theorem run_ok {P:Program} {c:Cfg} {F:Func} {E:En} (hm:P.follows .mixedOrders=true):∀ (k:Nat) (p:List Bool) (S:List Fr) {r:Regs} {h:Heap},
  run P c F E k (.go p) S r h→Holds P E.n E.X (cat F p) (Post P c F E k S) r h
 | 0,p,S,r,h,hh=>hh.elim
 | k+1,p,S,r,h,hh=>by
   have ih:∀ (p:List Bool) (S:List Fr) {r:Regs} {h:Heap},run P c F E k (.go p) S r h→Holds P E.n E.X (cat F p) (Post P c F E k S) r h:=run_ok hm k
   have step:∀ {e:Ex} {S:List Fr} {r:Regs} {h:Heap},run P c F E k (.ex e) S r h→run P c F E (k+1) (.ex e) S r h:=run_mono k (k+1) _ _ (by omega)
   have up:∀ {S:List Fr} {cc:Code} {r:Regs} {h:Heap},Holds P E.n E.X cc (Post P c F E k S) r h→Holds P E.n E.X cc (Post P c F E (k+1) S) r h:=holds_mono fun _ _ _=>step
   have ihf:∀ {S:List Fr} {r:Regs} {h:Heap},run P c F E k (.go (false::p)) S r h→Holds P E.n E.X (child false (cat F p)) (Post P c F E k S) r h:=ih (false::p) _
   have iht:∀ {S:List Fr} {r:Regs} {h:Heap},run P c F E k (.go (true::p)) S r h→Holds P E.n E.X (child true (cat F p)) (Post P c F E k S) r h:=ih (true::p) _
   unfold run at hh
   cases hcat:cat F p with
   | skip=>
     rw [hcat] at hh
     exact up (cw_ok (c:=c) hm .skip (Q:=Post P c F E k S) hh)
   | region id ops draw=>
     have ho:=opsAt_eq hcat
     rw [hcat] at hh
     simp only at hh
     split at hh
     ·split at hh
      ·refine up (cw_ok (c:=c) hm (.region id ops false) (?_:regP P c E.n ops.toList (Post P c F E k S .normal) ops.toList r h))
       rw [← ho]
       simpa using op_ok k k 0 (Nat.le_refl _) hh
      ·exact up hh
     ·refine up (cw_ok (c:=c) hm (.region id ops true) ?_)
      unfold cw
      simp only
      split at hh
      ·rename_i ord fz hf
       simp only [hf]
       rw [← ho]
       exact ⟨hh.1,rdraw_ok (fun _ _ h=>h) hh.2⟩
      ·rename_i hf
       simp only [hf]
       exact hh
   | seq x y=>
     rw [hcat] at hh ihf iht
     simp only [child] at hh ihf iht
     refine ⟨fun g a w hc=>?_⟩
     refine wp_seq (wp_mono ((ihf hh).holds g a w hc) ?_)
     rintro e a' w' ⟨ex,g',r',h',rfl,hQ,hc',hst⟩
     cases k with
     | zero=>exact hQ.elim
     | succ k=>
       cases ex with
       | normal=>
         simp only [Post] at hQ
         unfold run at hQ
         refine wp_mono ((iht (run_mono k (k+1) _ _ (by omega) hQ)).holds g' a' w' hc') ?_
         rintro e a2 w2 ⟨ex,g2,r2,h2,rfl,hQ,hc2,hst2⟩
         exact ⟨ex,g2,r2,h2,rfl,step hQ,hc2,hst.trans hc.cw.own hst2⟩
       | exit i=>simp only [Post] at hQ;unfold run at hQ;exact ⟨.exit i,g',r',h',rfl,run_mono k _ _ _ (by omega) hQ,hc',hst⟩
       | ret=>simp only [Post] at hQ;unfold run at hQ;exact ⟨.ret,g',r',h',rfl,run_mono k _ _ _ (by omega) hQ,hc',hst⟩
   | cond x t f=>
     rw [hcat] at hh ihf iht
     simp only [child] at hh ihf iht
     split at hh<;>try contradiction
     rename_i b hx
     refine up ⟨fun g a w hc=>?_⟩
     have hr:=hc.opnd (g:=[]) (fun e he=>by cases he) hx
     rw [Rep] at hr
     refine wp_cond_split hr (fun hb=>(ihf (hh.1 hb)).holds g a w hc) (fun hb=>(iht (hh.2 hb)).holds g a w hc)
   | block id x=>
     rw [hcat] at hh ihf
     simp only [child] at hh ihf
     refine ⟨fun g a w hc=>?_⟩
     refine wp_block (wp_mono ((ihf hh).holds g a w hc) ?_)
     rintro e a' w' ⟨ex,g',r',h',rfl,hQ,hc',hst⟩
     cases k with
     | zero=>exact hQ.elim
     | succ k=>
       simp only [Post] at hQ
       unfold run at hQ
       cases ex with
       | normal=>exact ⟨.normal,g',r',h',rfl,run_mono k _ _ _ (by omega) hQ,hc',hst⟩
       | exit i=>
         simp only at hQ
         simp only [Ex.toExit,Exit.inBlock]
         split at hQ
         ·rename_i hi
          rw [if_pos (Nat.eq_of_beq_eq_true hi)]
          exact ⟨.normal,g',r',h',rfl,run_mono k _ _ _ (by omega) hQ,hc',hst⟩
         ·rename_i hi
          rw [if_neg (fun e=>by subst e;rw [Nat.beq_refl] at hi;cases hi)]
          exact ⟨.exit i,g',r',h',rfl,run_mono k _ _ _ (by omega) hQ,hc',hst⟩
       | ret=>exact ⟨.ret,g',r',h',rfl,run_mono k _ _ _ (by omega) hQ,hc',hst⟩
   | loop x=>rw [hcat] at hh;exact up hh
   | exit i=>rw [hcat] at hh;exact up (cw_ok (c:=c) hm (.exit i) (Q:=Post P c F E k S) hh)
   | ret=>rw [hcat] at hh;exact up (cw_ok (c:=c) hm .ret (Q:=Post P c F E k S) hh)
   | _=>rw [hcat] at hh;exact hh.elim
theorem fcalls {P:Program} {f:FuncId} {F:Func} (c:Cfg) {args:List AV} {R:AV→Heap→Prop} {h:Heap} (hf:P.funcs[f]?=some F) (hb:F.body.isSome=true) (hname:(F.name == "runtime.NumGoroutine")=false)
  (hm:P.follows .mixedOrders=true) (hn:Nat.ble args.length F.ntmps=true) (hst:∀ X,run P c F ⟨F.ntmps,X,endP P F R⟩ 4000 (.go []) [] (argRegs 0 args) h):ACalls P f args h R:=by
 obtain ⟨code,hb'⟩:=Option.isSome_iff_exists.1 hb
 have hcode:bodyOf F=code:=by unfold bodyOf;rw [hb']
 refine ⟨fun X g w us hc hr=>.inl ⟨⟨F,code,hf,hb',hname⟩,?_⟩⟩
 have hlen:=hr.length
 simp at hlen
 have hn:=Nat.le_of_ble_eq_true hn
 have hH:Holds P F.ntmps X code (endP P F R) (argRegs 0 args) h:=by
  have:=run_ok (c:=c) (F:=F) (E:=⟨F.ntmps,X,endP P F R⟩) hm 4000 [] [] (hst X)
  simp only [cat,hcode] at this
  exact this
 refine calls_of_wp hf hb' (wp_mono (hH.holds g _ w ⟨hc,?_,rfl,by simp;omega⟩) ?_)
 ·intro t gg v hl
  obtain ⟨rfl,_,hx⟩:=argRegs_look hl
  obtain ⟨u,hu,hrep⟩:=hr.get t v (by simpa using hx)
  refine ⟨fun _=>⟨by simp,u,?_,hrep⟩,fun hh=>absurd (fun e he=>by cases he) hh⟩
  have hu':us[t]?=some u:=by simpa using hu
  have:=(Array.getElem?_eq_some_iff.1 hu').1
  rw [Array.getElem?_append_left this]
  exact hu'
 ·rintro e a' w' ⟨ex,g',r',h',rfl,hQ,hc',hst⟩
  cases ex with
  | normal=>
    obtain ⟨v,u,h1,h2,h3⟩:=resP_ok (P:=P) hc' hQ
    exact ⟨hc'.defers,u,h2,v,u,g',h',rfl,h1,hc'.cw,h3,hst⟩
  | ret=>
    obtain ⟨v,u,h1,h2,h3⟩:=resP_ok (P:=P) hc' hQ
    exact ⟨hc'.defers,u,h2,v,u,g',h',rfl,h1,hc'.cw,h3,hst⟩
  | exit i=>exact hQ.elim
theorem sloop {P:Program} {c:Cfg} {F:Func} {E:En} {p:List Bool} {S:List Fr} {k:Nat} {body:Code} {r:Regs} {h:Heap} (hcat:cat F p=.loop body) (hm:P.follows .mixedOrders=true) (ks:List Nat) (ts:List (Nat × Nat)) (J:Nat→Regs→Heap→Prop)
  (h0:atHead ks ts (fun r h=>∃ m,J m r h) r h)
  (hb:∀ m r h,J m r h→run P c F E k (.go (false::p)) (.head (atHead ks ts (fun r h=>∃ m',m'<m∧J m' r h))::S) r h) :
  Holds P E.n E.X (cat F p) (fun e r h=>run P c F E k (.ex e) S r h) r h:=by
 rw [hcat]
 refine holds_loop ks ts J h0 fun m r h hJ=>?_
 have:=run_ok hm k (false::p) _ (hb m r h hJ)
 have e:cat F (false::p)=body:=by simp [cat,hcat,child]
 rw [e] at this
 refine holds_mono (fun e r h hQ=>?_) this
 cases k with
 | zero=>exact hQ.elim
 | succ k=>
   simp only [Post] at hQ
   unfold run at hQ
   cases e with
   | normal=>exact hQ
   | exit i=>exact run_mono k _ _ _ (by omega) hQ
   | ret=>exact run_mono k _ _ _ (by omega) hQ
end Go.Abs
/-
 The abstract layer,part U: small laws for the steps of a walk.
-/
namespace Go.Abs
open Go
theorem leOK {a b c d:Nat} (h1:Nat.ble a b=true:=by rfl) (h2:Nat.ble c d=true:=by rfl):a≤b∧c≤d:=⟨Nat.le_of_ble_eq_true h1,Nat.le_of_ble_eq_true h2⟩
theorem gP_of {p:Prop}:∀ {g:G},p→gP g p
 | [],h=>h
 | (_,_,_)::g,h=>fun _=>gP_of (g:=g) h
theorem ix {α:Type} {enc:α→List AV} {l:List α} {x:α} {i:Nat} {g:G} {K:AV→Prop} (hx:l[i]?=some x) (hk:K (.iptr (enc x))) :
  ∃ (j:Nat) (y:List AV),gP g ((i:Int)=(j:Int)∧(l.map enc)[j]?=some y)∧K (.iptr y):=
 ⟨i,enc x,gP_of ⟨rfl,by simp [hx]⟩,hk⟩
theorem ixg {α:Type} {enc:α→List AV} {l:List α} {g:G} (d:α) {n:Int} {K:AV→Prop} (h:gP g (0≤n∧n<l.length)) (hk:K (.iptr (enc (l.getD n.toNat d)))) :
  ∃ (j:Nat) (y:List AV),gP g (n=(j:Int)∧(l.map enc)[j]?=some y)∧K (.iptr y):=by
 refine ⟨n.toNat,_,gP_mono ?_ h,hk⟩
 rintro ⟨h1,h2⟩
 have:n.toNat<l.length:=by omega
 exact ⟨by omega,by simp [List.getD,List.getElem?_eq_getElem this]⟩
theorem get_lt {α:Type} {l:List α} {i:Nat} (h:i<l.length):∃ x,l[i]?=some x:=⟨_,List.getElem?_eq_getElem h⟩
theorem drop_cons {α:Type} {l:List α} {i:Nat} {x:α} (h:l[i]?=some x):l.drop i=x::l.drop (i+1):=by
 obtain ⟨h1,h2⟩:=List.getElem?_eq_some_iff.1 h
 rw [List.drop_eq_getElem_cons h1,h2]
theorem drop_nil {α:Type} {l:List α} {i:Nat} (h:l.length≤i):l.drop i=[]:=List.drop_eq_nil_of_le h
theorem gcall {P:Program} {g:G} {f:FuncId} {vs:List AV} {v:AV} {h:Heap} {K:AV→Prop} (hq:QCall P f vs [] v) (hk:K v):∃ v,gP g (QCall P f vs h v)∧K v:=
 ⟨v,gP_of (hq.wide h),hk⟩
theorem QCall.of {P:Program} {f:FuncId} {args:List AV} {v:AV} (hq:ACalls P f args [] (fun v' _=>VLe v' v)):QCall P f args [] v:=
 ACalls.post hq fun v' h1 hv=>⟨v,[],⟨rfl,rfl⟩,hv,by simp,by simp [keys]⟩
theorem QCall.of' {P:Program} {f:FuncId} {args:List AV} {v:AV} (hq:ACalls P f args [] (fun v' _=>v'=v)):QCall P f args [] v:=
 QCall.of (ACalls.mono (by rintro v' h rfl;exact VLe.refl _) hq)
theorem ACalls.nilOr {P:Program} {f:FuncId} {k:Nat} {as:List AV} {h:Heap} {R:AV→Heap→Prop} (h1:ACalls P f (.nilS::as) h R) (h2:ACalls P f (.slz k::as) h R):ACalls P f (.sl k none []::as) h R:=by
 refine ⟨fun X g w us hc hr=>?_⟩
 simp only [RepVs] at hr
 obtain ⟨u,r,hu,hx,hr⟩:=hr
 simp only [Rep] at hx
 obtain ⟨base,cap,rfl,_,_,hk,hn,_⟩:=hx
 cases base with
 | none=>
   refine h1.1 X g w us hc ?_
   simp only [RepVs]
   exact ⟨_,r,hu,by simp [Rep,hn rfl],hr⟩
 | some a=>
   refine h2.1 X g w us hc ?_
   simp only [RepVs]
   exact ⟨_,r,hu,by simp [Rep,hk],hr⟩
section
variable {κ ν:Type} [DecidableEq κ]
def lookA (k:κ):List (κ × ν)→Option ν
 | []=>none
 | (x,v)::es=>if k=x then some v else lookA k es
def setA (k:κ) (v:ν):List (κ × ν)→List (κ × ν)
 | []=>[(k,v)]
 | (x,u)::es=>if k=x then (k,v)::es else (x,u)::setA k v es
def encA (ek:κ→AV) (ev:ν→AV) (es:List (κ × ν)):List (AV × AV):=es.map fun p=>(ek p.1,ev p.2)
variable {P:Program} {t:TypeId} {ek:κ→AV} {ev:ν→AV}
theorem mget_encA (heq:∀ a b,eqV P t (ek a) (ek b)=some (decide (a=b))) (k:κ):∀ es:List (κ × ν),mget P t (ek k) (encA ek ev es)=some ((lookA k es).map ev)
 | []=>rfl
 | (x,v)::es=>by
   have ih:=mget_encA heq k es
   unfold encA at ih ⊢
   rw [List.map_cons,mget]
   simp only [heq,lookA]
   by_cases h:k=x
   ·simp [h]
   ·simp [h,ih]
theorem mset_encA (heq:∀ a b,eqV P t (ek a) (ek b)=some (decide (a=b))) (k:κ) (v:ν):∀ es:List (κ × ν),mset P t (ek k) (ev v) (encA ek ev es)=encA ek ev (setA k v es)
 | []=>rfl
 | (x,u)::es=>by
   have ih:=mset_encA heq k v es
   unfold encA at ih ⊢
   rw [List.map_cons,mset]
   simp only [heq,setA]
   by_cases h:k=x
   ·simp [h]
   ·simp [h,ih]
theorem mlook_encA (heq:∀ a b,eqV P t (ek a) (ek b)=some (decide (a=b))) (k:κ) (es:List (κ × ν)) (z:AV) :
  mlook P t (ek k) (encA ek ev es) z=some (((lookA k es).map ev).getD z,(lookA k es).isSome):=by
 unfold mlook
 rw [mget_encA heq]
 cases lookA k es<;>rfl
theorem keyFits_of (heq:∀ a b,eqV P t (ek a) (ek b)=some (decide (a=b))) (hp:plainT P t=true) (k:κ):keyFits P t (ek k):=⟨hp,by rw [heq];simp⟩
theorem lkI {es:List (κ × Int)} {k:κ} {b:Nat} {h:Heap} {g:G} {ok:Bool} {K:AV→Prop} (hm:(b,Ob.map (encA ek (AV.int .i64) es))∈h) (heq:∀ a b,eqV P t (ek a) (ek b)=some (decide (a=b))) (hp:plainT P t=true)
  (hk:K (okTup ok (.int .i64 ((lookA k es).getD 0)) (lookA k es).isSome)) :
  ∃ es v f,(b,Ob.map es)∈h∧gP g (keyFits P t (ek k)∧mlook P t (ek k) es (.int .i64 0)=some (v,f))∧K (okTup ok v f):=by
 refine ⟨_,_,_,hm,gP_of ⟨keyFits_of heq hp k,mlook_encA heq k es _⟩,?_⟩
 have:((lookA k es).map (AV.int .i64)).getD (.int .i64 0)=.int .i64 ((lookA k es).getD 0):=by cases lookA k es<;>rfl
 rw [this]
 exact hk
theorem upA {es:List (κ × ν)} {k:κ} {v:ν} {b:Nat} {h h':Heap} {K:AV→Heap→Prop} (heq:∀ a b,eqV P t (ek a) (ek b)=some (decide (a=b))) (hp:plainT P t=true)
  (hu:Upd b (.map (encA ek ev es)) b (.map (encA ek ev (setA k v es))) h h') (hk:K .unit h') :
  ∃ es h',Upd b (.map es) b (.map (mset P t (ek k) (ev v) es)) h h'∧(keyFits P t (ek k)∧mget P t (ek k) es≠none)∧K .unit h':=
 ⟨encA ek ev es,h',by rw [mset_encA heq];exact hu,⟨keyFits_of heq hp k,by rw [mget_encA heq];simp⟩,hk⟩
end
end Go.Abs
/-
 The abstract layer,part V: steps of the ghost state alone: a value said less exactly,an object left behind,a row of one's own that nobody writes any more.
-/
namespace Go.Abs
open Go
variable {P:Program} {n:Nat} {X:Nat→Prop} {g0:Gh} {r:Regs} {h:Heap} {a:Act} {w:World}
mutual
inductive FzV (b:Nat) (cs:List AV):AV→AV→Prop
 | refl (x:AV):FzV b cs x x
 | le {x y:AV}:VLe x y→FzV b cs x y
 | row {off len k:Nat} {xs pre post:List (List AV)} {xs':List (List AV)} (e:cs=pre.flatten++xs.flatten++post.flatten) (ho:pre.flatten.length=off) (hl:xs.length=len) (hk:∀ x∈xs,x.length=k):FzV b cs (.osl b off len k) (.sl k none xs)
 | ptr {off:Nat} {l:List AV} (e:cs.drop off=l):FzV b cs (.optr b off) (.iptr l)
 | tup {xs ys:List AV}:FzVs b cs xs ys→FzV b cs (.tup xs) (.tup ys)
 | agg {xs ys:List AV}:FzVs b cs xs ys→FzV b cs (.agg xs) (.agg ys)
inductive FzVs (b:Nat) (cs:List AV):List AV→List AV→Prop
 | nil:FzVs b cs [] []
 | cons {x y:AV} {xs ys:List AV}:FzV b cs x y→FzVs b cs xs ys→FzVs b cs (x::xs) (y::ys)
end
inductive FzR (b:Nat) (cs:List AV):Regs→Regs→Prop
 | nil:FzR b cs [] []
 | cons {t:Nat} {g:G} {x y:AV} {r r':Regs}:FzV b cs x y→FzR b cs r r'→FzR b cs ((t,g,x)::r) ((t,g,y)::r')
inductive FzH (b:Nat) (cs:List AV):Heap→Heap→Prop
 | nil:FzH b cs [] []
 | same {k:Nat} {o:Ob} {h h':Heap}:FzH b cs h h'→FzH b cs ((k,o)::h) ((k,o)::h')
 | vec {k:Nat} {xs ys:List AV} {h h':Heap}:FzVs b cs xs ys→FzH b cs h h'→FzH b cs ((k,.vec xs)::h) ((k,.vec ys)::h')
theorem FzVs.refl {b:Nat} {cs:List AV}:∀ xs,FzVs b cs xs xs
 | []=>.nil
 | x::xs=>.cons (.refl x) (FzVs.refl xs)
theorem FzR.refl {b:Nat} {cs:List AV}:∀ r,FzR b cs r r
 | []=>.nil
 | (t,g,x)::r=>.cons (.refl x) (FzR.refl r)
theorem FzH.refl {b:Nat} {cs:List AV}:∀ h,FzH b cs h h
 | []=>.nil
 | (k,o)::h=>.same (FzH.refl h)
theorem FzVs.get {b:Nat} {cs:List AV}:∀ {xs ys:List AV},FzVs b cs xs ys→xs.length=ys.length∧∀ (i:Nat) y,ys[i]?=some y→∃ x,xs[i]?=some x∧FzV b cs x y
 | _,_,.nil=>⟨rfl,fun i y h=>by cases h⟩
 | _,_,.cons h1 h2=>by
   have ih:=h2.get
   refine ⟨by simp [ih.1],fun i y hi=>?_⟩
   cases i with
   | zero=>cases hi;exact ⟨_,rfl,h1⟩
   | succ i=>exact ih.2 i y (by simpa using hi)
mutual
theorem FzV.rep {c c':Cx} {b:Nat} {cs:List AV} (h0:∀ x u,Rep c x u→Rep c' x u)
  (hrow:∀ (off k:Nat) (xs pre post:List (List AV)),cs=pre.flatten++xs.flatten++post.flatten→pre.flatten.length=off→(∀ x∈xs,x.length=k)→∀ u,Rep c (.osl b off xs.length k) u→Rep c' (.sl k none xs) u)
  (hptr:∀ (off:Nat) (l:List AV),cs.drop off=l→∀ u,Rep c (.optr b off) u→Rep c' (.iptr l) u):∀ {x y:AV},FzV b cs x y→∀ u,Rep c x u→Rep c' y u
 | _,_,.refl x,u,h=>h0 x u h
 | _,_,.le hle,u,h=>h0 _ _ (hle _ _ h)
 | _,_,.row e ho hl hk,u,h=>by subst hl;exact hrow _ _ _ _ _ e ho hk u h
 | _,_,.ptr e,u,h=>hptr _ _ e u h
 | _,_,.tup hs,u,h=>by
   simp only [Rep] at h ⊢
   obtain ⟨us,hv,hr⟩:=h
   exact ⟨us,hv,FzVs.rep h0 hrow hptr hs _ hr⟩
 | _,_,.agg hs,u,h=>by
   simp only [Rep] at h ⊢
   obtain ⟨us,hv,h1,hr⟩:=h
   exact ⟨us,hv,h1,FzVs.rep h0 hrow hptr hs _ hr⟩
theorem FzVs.rep {c c':Cx} {b:Nat} {cs:List AV} (h0:∀ x u,Rep c x u→Rep c' x u)
  (hrow:∀ (off k:Nat) (xs pre post:List (List AV)),cs=pre.flatten++xs.flatten++post.flatten→pre.flatten.length=off→(∀ x∈xs,x.length=k)→∀ u,Rep c (.osl b off xs.length k) u→Rep c' (.sl k none xs) u)
  (hptr:∀ (off:Nat) (l:List AV),cs.drop off=l→∀ u,Rep c (.optr b off) u→Rep c' (.iptr l) u):∀ {xs ys:List AV},FzVs b cs xs ys→∀ us,RepVs c xs us→RepVs c' ys us
 | _,_,.nil,us,h=>by simpa [RepVs] using h
 | _,_,.cons h1 h2,us,h=>by
   simp only [RepVs] at h ⊢
   obtain ⟨u,r,rfl,a,d⟩:=h
   exact ⟨u,r,rfl,FzV.rep h0 hrow hptr h1 u a,FzVs.rep h0 hrow hptr h2 r d⟩
end
theorem FzH.keys {b:Nat} {cs:List AV} {h h':Heap} (hz:FzH b cs h h'):Abs.keys h'=Abs.keys h:=by
 induction hz with
 | nil=>rfl
 | same _ ih=>simp only [Abs.keys,List.map_cons] at ih ⊢;rw [ih]
 | vec _ _ ih=>simp only [Abs.keys,List.map_cons] at ih ⊢;rw [ih]
theorem FzH.get {b:Nat} {cs:List AV} {h h':Heap} (hz:FzH b cs h h'):∀ k o,(k,o)∈h'→(k,o)∈h∨∃ xs ys,o=.vec ys∧(k,Ob.vec xs)∈h∧FzVs b cs xs ys:=by
 induction hz with
 | nil=>intro k o hm;cases hm
 | same _ ih=>
   intro k o hm
   cases List.mem_cons.1 hm with
   | inl e=>cases e;exact .inl (by simp)
   | inr e=>
     rcases ih k o e with h1|⟨xs,ys,e1,e2,e3⟩
     ·exact .inl (by simp [h1])
     ·exact .inr ⟨xs,ys,e1,by simp [e2],e3⟩
 | vec hv _ ih=>
   intro k o hm
   cases List.mem_cons.1 hm with
   | inl e=>cases e;exact .inr ⟨_,_,rfl,by simp,hv⟩
   | inr e=>
     rcases ih k o e with h1|⟨xs,ys,e1,e2,e3⟩
     ·exact .inl (by simp [h1])
     ·exact .inr ⟨xs,ys,e1,by simp [e2],e3⟩
theorem FzR.look {b:Nat} {cs:List AV} {r r':Regs} (hz:FzR b cs r r'):∀ t gg y,lookR r' t=some (gg,y)→∃ x,lookR r t=some (gg,x)∧FzV b cs x y:=by
 induction hz with
 | nil=>intro t gg y h;cases h
 | cons h1 _ ih=>
   intro t gg y h
   rw [lookR_cons] at h ⊢
   split at h
   ·rename_i e;cases h;subst e;exact ⟨_,by simp,h1⟩
   ·rename_i e;rw [if_neg e];exact ih t gg y h
theorem CW.objs {h':Heap} (hc:CW X g0 h w) (hk:keys h'=keys h) (ho:∀ k o',(k,o')∈h'→ObjRep ⟨g0,live X h,w⟩ k o'):CW X g0 h' w∧Step X g0 h w g0 h' w:=by
 have hlive:live X h'=live X h:=by unfold live;rw [hk]
 refine ⟨⟨hc.own,?_,by rw [hk];exact hc.nodup,fun k hm=>hc.sep k (by rw [← hk];exact hm),fun k o hm=>by rw [hlive];exact ho k o hm⟩,?_⟩
 ·obtain ⟨N,hN⟩:=hc.bound
  exact ⟨N,fun k hh=>hN k (by rw [hk] at hh;exact hh)⟩
 ·have:=Step.refl X g0 h w
  exact ⟨this.os,this.say,this.output,this.size,this.pl,this.xow,this.xow',this.xpl,fun b hb hn=>⟨rfl,fun k s e=>by rw [hk];exact hn k s e⟩,this.mine,fun b k s e hm k' s' e' hl=>this.minefree b k s e hm k' s' e' (by rw [hlive] at hl;exact hl)⟩
theorem rep_row {c:Cx} {k:Nat} {b:Nat}:∀ {xs:List (List AV)} {o:Nat},(∀ x∈xs,x.length=k)→RepCs c xs.flatten b o→RepEs c k xs b o
 | [],o,_,_=>by simp [RepEs]
 | x::xs,o,hk,h=>by
   simp only [List.flatten_cons] at h
   have hx:=hk x (by simp)
   have h1:=RepCs.take x.length h
   have h2:=RepCs.drop x.length (by simp) h
   simp only [List.take_left,List.drop_left] at h1 h2
   simp only [RepEs]
   exact ⟨⟨hx,h1⟩,rep_row (fun y hy=>hk y (by simp [hy])) (by rw [← hx];exact h2)⟩
theorem freeze {b:Nat} {cs:List AV} {h1:Heap} (hr:Rem b (.vec cs) h h1) (hc:CW X g0 h w) :
  CW X g0 h1 w∧Step X g0 h w g0 h1 w∧∀ x y,FzV b cs x y→∀ u,Rep ⟨g0,live X h,w⟩ x u→Rep ⟨g0,live X h1,w⟩ y u:=by
 obtain ⟨l1,l2,rfl,rfl⟩:=Rem.split hr
 obtain ⟨s1,s2⟩:=hc.sub (h':=l1++l2) (by
   intro k o hm
   simp only [List.mem_append,List.mem_cons] at hm ⊢
   rcases hm with h|h
   ·exact .inl h
   ·exact .inr (.inr h)) (by
   have:=hc.nodup
   rw [keys_app] at this
   simp only [keys,List.map_append,List.nodup_append,List.nodup_cons,List.mem_cons] at this ⊢
   exact ⟨this.1,this.2.1.2,fun x hx y hy=>this.2.2 x hx y (.inr hy)⟩)
 refine ⟨s1,s2,?_⟩
 have hnm:=hc.notmem
 have hsep:=hc.sep b (by rw [keys_mem];exact .inl rfl)
 have hob:=hc.obj b (.vec cs) (by simp)
 obtain ⟨p,cc,t,q1,q2,q3,q4,q5,q6⟩:=hob
 have hcs:RepCs ⟨g0,live X (l1++l2),w⟩ cs p.block p.off:=by
  have key:∀ (xs:List AV) (o:Nat),(∀ (i:Nat) x,xs[i]?=some x→∃ u,cc[p.off+(o+i)]?=some u∧u.oneCell'=true∧Rep ⟨g0,live X (l1++(b,.vec cs)::l2),w⟩ x u)→RepCs ⟨g0,live X (l1++l2),w⟩ xs p.block (p.off+o):=by
   intro xs
   induction xs with
   | nil=>intro o _;simp [RepCs]
   | cons x xs ih=>
     intro o hh
     simp only [RepCs]
     obtain ⟨u,h1,h2,h3⟩:=hh 0 x (by simp)
     refine ⟨⟨u,?_,h2,?_,Rep.mono (Step.le s2) _ _ h3⟩,?_⟩
     ·have q4':w.heap[p.block]?=some (.cells cc t (0,0)):=q4
      show w.cell? _=_
      simpa [World.cell?,q4'] using h1
     ·intro k s ho hlv
      rw [q3] at ho
      cases ho
      rcases hlv with hx|hk
      ·exact absurd hx hsep
      ·exact absurd hk hnm
     ·rw [show p.off+o+1=p.off+(o+1) from rfl]
      refine ih (o+1) (fun i x hx=>?_)
      have:=hh (i+1) x (by simpa using hx)
      rwa [show o+(i+1)=o+1+i from by omega] at this
  exact key cs 0 (fun i x hx=>by simpa using q6 i x hx)
 intro x y hxy u hu
 refine FzV.rep (c:=⟨g0,live X (l1++(b,.vec cs)::l2),w⟩) (fun x u h=>Rep.mono (Step.le s2) _ _ h) ?_ ?_ hxy u hu
 ·intro off k xs pre post e ho hk u hu
  simp only [Rep] at hu ⊢
  obtain ⟨p',cap,o',e1,e2,rfl,e3,e4,e5,e6,e7,e8⟩:=hu
  rw [q1] at e1
  cases e1
  refine ⟨_,cap,rfl,by omega,by omega,e5,by simp,by simp,?_,by simp⟩
  rintro ad ⟨⟩
  by_cases hx0:xs=[]
  ·subst hx0;simp [RepEs]
  rw [e7 (by have:=List.length_pos_iff.2 hx0;omega)]
  have hd:=RepCs.drop off (by rw [e,List.length_append,List.length_append,ho];omega) hcs
  have hd2:=RepCs.take xs.flatten.length hd
  rw [e,List.append_assoc,← ho,List.drop_left,List.take_left] at hd2
  rw [ho] at hd2
  exact rep_row hk hd2
 ·intro off l e u hu
  simp only [Rep] at hu ⊢
  obtain ⟨p',e1,e2,rfl⟩:=hu
  rw [q1] at e1
  cases e1
  refine ⟨_,_,rfl,?_⟩
  subst e
  by_cases ho:off≤cs.length
  ·exact RepCs.drop off ho hcs
  ·rw [List.drop_eq_nil_of_le (by omega)];simp [RepCs]
def Turn (r:Regs) (h:Heap) (r':Regs) (h':Heap):Prop:=∀ n X g a w,Conc n X g r h a w→∃ g',Conc n X g' r' h' a w∧Step X g h w g' h' w
theorem Turn.refl (r:Regs) (h:Heap):Turn r h r h:=fun n X g a w hc=>⟨g,hc,Step.refl _ _ _ _⟩
theorem Turn.trans {r1 r2 r3:Regs} {h1 h2 h3:Heap} (a:Turn r1 h1 r2 h2) (b:Turn r2 h2 r3 h3):Turn r1 h1 r3 h3:=by
 intro n X g ac w hc
 obtain ⟨g1,c1,s1⟩:=a n X g ac w hc
 obtain ⟨g2,c2,s2⟩:=b n X g1 ac w c1
 exact ⟨g2,c2,s1.trans hc.cw.own s2⟩
theorem Turn.freeze {r r':Regs} {h h1 h':Heap} {b:Nat} {cs:List AV} (hr:Rem b (.vec cs) h h1) (hh:FzH b cs h1 h') (hz:FzR b cs r r'):Turn r h r' h':=by
 intro n X g a w hc
 obtain ⟨c1,s1,hv⟩:=Abs.freeze hr hc.cw
 have hsub:∀ k o,(k,o)∈h1→(k,o)∈h:=by
  obtain ⟨l1,l2,rfl,rfl⟩:=Rem.split hr
  intro k o hm
  simp only [List.mem_append,List.mem_cons] at hm ⊢
  rcases hm with h|h
  ·exact .inl h
  ·exact .inr (.inr h)
 obtain ⟨c2,s2⟩:=c1.objs hh.keys (fun k o' hm=>by
  rcases hh.get k o' hm with h1|⟨xs,ys,rfl,h2,h3⟩
  ·exact c1.obj k o' h1
  ·obtain ⟨p,cc,t,q1,q2,q3,q4,q5,q6⟩:=hc.cw.obj k (.vec xs) (hsub _ _ h2)
   obtain ⟨l,hg⟩:=h3.get
   refine ⟨p,cc,t,q1,q2,q3,q4,by rw [← l];exact q5,fun i y hy=>?_⟩
   obtain ⟨x,hx,hxy⟩:=hg i y hy
   obtain ⟨u,u1,u2,u3⟩:=q6 i x hx
   exact ⟨u,u1,u2,hv x y hxy u u3⟩)
 refine ⟨g,⟨c2,fun t gg y hl=>?_,hc.defers,hc.size⟩,s1.trans hc.cw.own s2⟩
 obtain ⟨x,hx,hxy⟩:=hz.look t gg y hl
 obtain ⟨k1,k2⟩:=hc.regs t gg x hx
 refine ⟨fun hh=>?_,k2⟩
 obtain ⟨m1,u,m2,m3⟩:=k1 hh
 exact ⟨m1,u,m2,Rep.mono (Step.le s2) _ _ (hv x y hxy u m3)⟩
inductive RLe:Regs→Regs→Prop
 | nil:RLe [] []
 | cons {t:Nat} {g:G} {x y:AV} {r r':Regs}:VLe x y→RLe r r'→RLe ((t,g,x)::r) ((t,g,y)::r')
theorem RLe.refl:∀ r,RLe r r
 | []=>.nil
 | (t,g,x)::r=>.cons (VLe.refl x) (RLe.refl r)
theorem RLe.look {r r':Regs} (hz:RLe r r'):∀ t gg y,lookR r' t=some (gg,y)→∃ x,lookR r t=some (gg,x)∧VLe x y:=by
 induction hz with
 | nil=>intro t gg y h;cases h
 | cons h1 _ ih=>
   intro t gg y h
   rw [lookR_cons] at h ⊢
   split at h
   ·rename_i e;cases h;subst e;exact ⟨_,by simp,h1⟩
   ·rename_i e;rw [if_neg e];exact ih t gg y h
theorem Turn.weak {r r':Regs} {h:Heap} (hz:RLe r r'):Turn r h r' h:=by
 intro n X g a w hc
 refine ⟨g,⟨hc.cw,fun t gg y hl=>?_,hc.defers,hc.size⟩,Step.refl _ _ _ _⟩
 obtain ⟨x,hx,hxy⟩:=hz.look t gg y hl
 obtain ⟨k1,k2⟩:=hc.regs t gg x hx
 refine ⟨fun hh=>?_,k2⟩
 obtain ⟨m1,u,m2,m3⟩:=k1 hh
 exact ⟨m1,u,m2,hxy _ u m3⟩
theorem Turn.cells {r:Regs} {h h':Heap} {b:Nat} {xs ys:List AV} (hu:Upd b (.vec xs) b (.vec ys) h h') (hv:VsLe xs ys):Turn r h r h':=by
 intro n X g a w hc
 have hkeys:keys h'=keys h:=by
  clear hc
  induction hu with
  | here l=>rfl
  | there _ ih=>simp only [keys,List.map_cons] at ih ⊢;rw [ih]
 have hget:∀ k o',(k,o')∈h'→(k,o')∈h∨(k=b∧o'=.vec ys∧(b,Ob.vec xs)∈h):=by
  clear hc hkeys
  induction hu with
  | here l=>intro k o' hm;cases List.mem_cons.1 hm with
    | inl e=>cases e;exact .inr ⟨rfl,rfl,by simp⟩
    | inr e=>exact .inl (by simp [e])
  | there _ ih=>intro k o' hm;cases List.mem_cons.1 hm with
    | inl e=>subst e;exact .inl (by simp)
    | inr e=>
      rcases ih k o' e with h1|⟨h1,h2,h3⟩
      ·exact .inl (by simp [h1])
      ·exact .inr ⟨h1,h2,by simp [h3]⟩
 have hlen:∀ {xs ys:List AV},VsLe xs ys→xs.length=ys.length∧∀ (i:Nat) y,ys[i]?=some y→∃ x,xs[i]?=some x∧VLe x y:=by
  intro xs ys hv
  induction hv with
  | nil=>exact ⟨rfl,fun i y h=>by cases h⟩
  | cons h1 _ ih=>
    refine ⟨by simp [ih.1],fun i y hi=>?_⟩
    cases i with
    | zero=>cases hi;exact ⟨_,rfl,h1⟩
    | succ i=>exact ih.2 i y (by simpa using hi)
 obtain ⟨c2,s2⟩:=hc.cw.objs hkeys (fun k o' hm=>by
  rcases hget k o' hm with h1|⟨rfl,rfl,h2⟩
  ·exact hc.cw.obj k o' h1
  ·obtain ⟨p,cc,t,q1,q2,q3,q4,q5,q6⟩:=hc.cw.obj k (.vec xs) h2
   obtain ⟨l,hg⟩:=hlen hv
   refine ⟨p,cc,t,q1,q2,q3,q4,by rw [← l];exact q5,fun i y hy=>?_⟩
   obtain ⟨x,hx,hxy⟩:=hg i y hy
   obtain ⟨u,u1,u2,u3⟩:=q6 i x hx
   exact ⟨u,u1,u2,hxy _ _ u3⟩)
 exact ⟨g,hc.step c2 s2,s2⟩
theorem Turn.cut {r:Regs} {h h':Heap} {b:Nat} {xs ys:List AV} (hu:Upd b (.vec (xs++ys)) b (.vec xs) h h'):Turn r h r h':=by
 intro n X g a w hc
 have hkeys:keys h'=keys h:=by
  clear hc
  induction hu with
  | here l=>rfl
  | there _ ih=>simp only [keys,List.map_cons] at ih ⊢;rw [ih]
 have hget:∀ k o',(k,o')∈h'→(k,o')∈h∨(k=b∧o'=.vec xs∧(b,Ob.vec (xs++ys))∈h):=by
  clear hc hkeys
  induction hu with
  | here l=>intro k o' hm;cases List.mem_cons.1 hm with
    | inl e=>cases e;exact .inr ⟨rfl,rfl,by simp⟩
    | inr e=>exact .inl (by simp [e])
  | there _ ih=>intro k o' hm;cases List.mem_cons.1 hm with
    | inl e=>subst e;exact .inl (by simp)
    | inr e=>
      rcases ih k o' e with h1|⟨h1,h2,h3⟩
      ·exact .inl (by simp [h1])
      ·exact .inr ⟨h1,h2,by simp [h3]⟩
 obtain ⟨c2,s2⟩:=hc.cw.objs hkeys (fun k o' hm=>by
  rcases hget k o' hm with h1|⟨rfl,rfl,h2⟩
  ·exact hc.cw.obj k o' h1
  ·obtain ⟨p,cc,t,q1,q2,q3,q4,q5,q6⟩:=hc.cw.obj k (.vec (xs++ys)) h2
   simp only [List.length_append] at q5
   exact ⟨p,cc,t,q1,q2,q3,q4,by omega,fun i y hy=>q6 i y (by rw [List.getElem?_append_left (List.getElem?_eq_some_iff.1 hy).1];exact hy)⟩)
 exact ⟨g,hc.step c2 s2,s2⟩
theorem Turn.sub {r:Regs} {h h':Heap} (hsub:∀ k o,(k,o)∈h'→(k,o)∈h) (hnd:(keys h).Nodup→(keys h').Nodup):Turn r h r h':=by
 intro n X g a w hc
 obtain ⟨c1,s1⟩:=hc.cw.sub hsub (hnd hc.cw.nodup)
 exact ⟨g,hc.step c1 s1,s1⟩
theorem Turn.drop {r:Regs} {h h':Heap} {b:Nat} {o:Ob} (hr:Rem b o h h'):Turn r h r h':=by
 obtain ⟨l1,l2,rfl,rfl⟩:=Rem.split hr
 refine Turn.sub ?_ ?_
 ·intro k o hm
  simp only [List.mem_append,List.mem_cons] at hm ⊢
  rcases hm with h|h
  ·exact .inl h
  ·exact .inr (.inr h)
 ·intro this
  rw [keys_app] at this
  simp only [keys,List.map_append,List.nodup_append,List.nodup_cons,List.mem_cons] at this ⊢
  exact ⟨this.1,this.2.1.2,fun x hx y hy=>this.2.2 x hx y (.inr hy)⟩
theorem holds_turn {c:Code} {Q:Ex→Regs→Heap→Prop} {r r':Regs} {h h':Heap} (ht:Turn r h r' h') (hh:Holds P n X c Q r' h'):Holds P n X c Q r h:=by
 refine ⟨fun g a w hc=>?_⟩
 obtain ⟨g',c1,s1⟩:=ht n X g a w hc
 refine wp_mono (hh.holds g' a w c1) ?_
 rintro e a' w' ⟨ex,g2,r2,h2,rfl,hQ,hc2,hst⟩
 exact ⟨ex,g2,r2,h2,rfl,hQ,hc2,s1.trans hc.cw.own hst⟩
def TurnTo (J:Regs→Heap→Prop) (r:Regs) (h:Heap):Prop:=∃ r' h',Turn r h r' h'∧J r' h'
theorem tloop {P:Program} {c:Cfg} {F:Func} {E:En} {p:List Bool} {S:List Fr} {k:Nat} {body:Code} {r:Regs} {h:Heap} (hcat:cat F p=.loop body) (hm:P.follows .mixedOrders=true) (ks:List Nat) (ts:List (Nat × Nat)) (J:Nat→Regs→Heap→Prop)
  (h0:atHead ks ts (TurnTo fun r h=>∃ m,J m r h) r h)
  (hb:∀ m r h,J m r h→run P c F E k (.go (false::p)) (.head (atHead ks ts (TurnTo fun r h=>∃ m',m'<m∧J m' r h))::S) r h) :
  Holds P E.n E.X (cat F p) (fun e r h=>run P c F E k (.ex e) S r h) r h:=by
 rw [hcat]
 have hat:∀ {J J':Regs→Heap→Prop} {r:Regs} {h:Heap},(∀ r h,J r h→J' r h)→atHead ks ts J r h→atHead ks ts J' r h:=by
  intro J J' r h hj
  unfold atHead
  have:∀ {l:List (Nat × Nat)} {K K':Regs→Heap→Prop},(∀ r h,K r h→K' r h)→∀ {r:Regs} {h:Heap},retok l r h K→retok l r h K':=by
   intro l
   induction l with
   | nil=>intro K K' hk r h hr;exact hk _ _ hr
   | cons x l ih=>
     obtain ⟨t,k⟩:=x
     intro K K' hk r h hr
     unfold retok at hr ⊢
     split at hr
     ·exact ⟨hr.1,fun q=>ih hk (hr.2 q)⟩
     ·exact ih hk hr
  exact this fun r h=>normK_mono fun r'=>hj r' h
 refine holds_loop ks ts (fun m=>TurnTo (J m)) (hat ?_ h0) fun m r h hJ=>?_
 ·rintro r h ⟨r',h',ht,m,hj⟩;exact ⟨m,r',h',ht,hj⟩
 obtain ⟨r1,h1,ht,hJ⟩:=hJ
 refine holds_turn ht ?_
 have:=run_ok hm k (false::p) _ (hb m r1 h1 hJ)
 have e:cat F (false::p)=body:=by simp [cat,hcat,child]
 rw [e] at this
 refine holds_mono (fun e r h hQ=>?_) this
 cases k with
 | zero=>exact hQ.elim
 | succ k=>
   simp only [Post] at hQ
   unfold run at hQ
   cases e with
   | normal=>
     refine hat ?_ hQ
     rintro r h ⟨r',h',ht,m',hlt,hj⟩
     exact ⟨m',hlt,r',h',ht,hj⟩
   | exit i=>exact run_mono k _ _ _ (by omega) hQ
   | ret=>exact run_mono k _ _ _ (by omega) hQ
theorem ACalls.frz {f:FuncId} {args:List AV} {R R':AV→Heap→Prop} {h:Heap} (hf:ACalls P f args h R)
  (hp:∀ v h1,R v h1→∃ b cs h2 h3 v',Rem b (.vec cs) h1 h2∧FzH b cs h2 h3∧FzV b cs v v'∧R' v' h3):ACalls P f args h R':=by
 refine ⟨fun X g w us hc hr=>?_⟩
 refine (hf.1 X g w us hc hr).mono fun e w' he=>?_
 obtain ⟨v,u,g',h1,rfl,hR,hc1,hu,hs⟩:=he
 obtain ⟨b,cs,h2,h3,v',e1,e2,e3,e4⟩:=hp v h1 hR
 obtain ⟨c1,s1,hv⟩:=Abs.freeze e1 hc1
 have hsub:∀ k o,(k,o)∈h2→(k,o)∈h1:=by
  obtain ⟨l1,l2,rfl,rfl⟩:=Rem.split e1
  intro k o hm
  simp only [List.mem_append,List.mem_cons] at hm ⊢
  rcases hm with h|h
  ·exact .inl h
  ·exact .inr (.inr h)
 obtain ⟨c2,s2⟩:=c1.objs e2.keys (fun k o' hm=>by
  rcases e2.get k o' hm with h1|⟨xs,ys,rfl,h2,h3⟩
  ·exact c1.obj k o' h1
  ·obtain ⟨p,cc,t,q1,q2,q3,q4,q5,q6⟩:=hc1.obj k (.vec xs) (hsub _ _ h2)
   obtain ⟨l,hg⟩:=h3.get
   refine ⟨p,cc,t,q1,q2,q3,q4,by rw [← l];exact q5,fun i y hy=>?_⟩
   obtain ⟨x,hx,hxy⟩:=hg i y hy
   obtain ⟨u,u1,u2,u3⟩:=q6 i x hx
   exact ⟨u,u1,u2,hv x y hxy u u3⟩)
 exact ⟨v',u,g',h3,rfl,e4,c2,Rep.mono (Step.le s2) _ _ (hv v v' e3 u hu),hs.trans hc.own (s1.trans hc1.own s2)⟩
end Go.Abs
/-
 The abstract layer,part X: rows of one's own,of one cell an element.
-/
namespace Go.Abs
open Go
theorem dropN_some:∀ {n:Nat} {cs:List AV},n≤cs.length→dropN n cs=some (cs.drop n)
 | 0,cs,_=>by cases cs<;>rfl
 | n+1,[],h=>by simp at h
 | n+1,c::cs,h=>by
   have:=dropN_some (n:=n) (cs:=cs) (by simpa using h)
   simpa [dropN] using this
theorem setC_row {vs:List AV} {j:Nat} {v:AV} (h:j<vs.length):setC vs j [v]=vs.set j v:=by
 unfold setC
 rw [List.set_eq_take_append_cons_drop]
 simp [h]
theorem repC_one (n:Nat) (v:AV):repC n [v]=List.replicate n v:=by
 unfold repC
 induction n with
 | zero=>rfl
 | succ n ih=>simp only [List.replicate_succ,List.flatten_cons,ih];rfl
theorem ixo {g:G} {b off len k i:Nat} {K:AV→Prop} (hi:i<len) (hk:K (.optr b (off+i*k))):∃ (j:Nat),gP g ((i:Int)=(j:Int)∧j<len)∧K (.optr b (off+j*k)):=
 ⟨i,gP_of ⟨rfl,hi⟩,hk⟩
theorem loadI_one {P:Program} {t:TypeId} {v:AV} {l:List AV} {K:AV→Prop} (ht:aggT P t=some false) (hk:K v):loadI P t (v::l) K:=by
 unfold loadI;rw [ht];exact hk
theorem ldo {P:Program} {t:TypeId} {b o:Nat} {vs:List AV} {v:AV} {h:Heap} {K:AV→Prop} (hm:(b,Ob.vec vs)∈h) (ht:aggT P t=some false) (hv:vs[o]?=some v) (hk:K v) :
  ∃ cs l,(b,Ob.vec cs)∈h∧dropN o cs=some l∧loadI P t l K:=by
 obtain ⟨h1,h2⟩:=List.getElem?_eq_some_iff.1 hv
 refine ⟨vs,vs.drop o,hm,dropN_some (by omega),?_⟩
 rw [List.drop_eq_getElem_cons h1,h2]
 exact loadI_one ht hk
theorem sto {b o:Nat} {vs:List AV} {v:AV} {h h':Heap} {K:AV→Heap→Prop} (ho:o<vs.length) (hu:Upd b (.vec vs) b (.vec (vs.set o v)) h h') (hk:K .unit h') :
  ∃ cs h',Upd b (.vec cs) b (.vec (setC cs o [v])) h h'∧(0<[v].length∧o+[v].length≤cs.length)∧K .unit h':=
 ⟨vs,h',by rw [setC_row ho];exact hu,⟨by simp,by simp;omega⟩,hk⟩
theorem fzRow {α:Type} {b:Nat} {ev:α→AV} {l:List α} {n:Nat} (hn:l.length=n):FzV b (l.map ev) (.osl b 0 n 1) (.sl 1 none (l.map fun x=>[ev x])):=by
 refine FzV.row (pre:=[]) (post:=[]) (xs':=[]) ?_ rfl (by simpa using hn) (by simp)
 clear hn
 induction l with
 | nil=>rfl
 | cons x l ih=>simp at ih ⊢;exact ih
inductive VssLe:List (List AV)→List (List AV)→Prop
 | nil:VssLe [] []
 | cons {x y:List AV} {xs ys:List (List AV)}:VsLe x y→VssLe xs ys→VssLe (x::xs) (y::ys)
theorem VssLe.refl:∀ xs,VssLe xs xs
 | []=>.nil
 | x::xs=>.cons (VsLe.refl x) (VssLe.refl xs)
theorem VssLe.snoc {xs:List (List AV)} {x y:List AV} (h:VsLe x y):VssLe (xs++[x]) (xs++[y]):=by
 induction xs with
 | nil=>exact .cons h .nil
 | cons z xs ih=>exact .cons (VsLe.refl z) ih
theorem VsLe.length:∀ {xs ys:List AV},VsLe xs ys→xs.length=ys.length
 | _,_,.nil=>rfl
 | _,_,.cons _ h=>by simp [h.length]
theorem VssLe.length:∀ {xs ys:List (List AV)},VssLe xs ys→xs.length=ys.length
 | _,_,.nil=>rfl
 | _,_,.cons _ h=>by simp [h.length]
theorem VsLe.repCs {c:Cx}:∀ {xs ys:List AV} {b o:Nat},VsLe xs ys→RepCs c xs b o→RepCs c ys b o
 | _,_,_,_,.nil,h=>h
 | _,_,_,_,.cons h1 h2,h=>by
   simp only [RepCs] at h ⊢
   obtain ⟨⟨u,a1,a2,a3,a4⟩,h⟩:=h
   exact ⟨⟨u,a1,a2,a3,h1 _ _ a4⟩,h2.repCs h⟩
theorem VssLe.repEs {c:Cx} {k:Nat}:∀ {xs ys:List (List AV)} {b o:Nat},VssLe xs ys→RepEs c k xs b o→RepEs c k ys b o
 | _,_,_,_,.nil,h=>h
 | _,_,_,_,.cons h1 h2,h=>by
   simp only [RepEs] at h ⊢
   obtain ⟨⟨a1,a2⟩,h⟩:=h
   exact ⟨⟨by rw [← h1.length];exact a1,h1.repCs a2⟩,h2.repEs h⟩
theorem VLe.els {k:Nat} {t:Option Nat} {xs ys:List (List AV)} (h:VssLe xs ys):VLe (.sl k t xs) (.sl k t ys):=by
 intro c u hu
 simp only [Rep] at hu ⊢
 obtain ⟨base,cap,hv,h1,h2,h3,h4,h5,h6,h7⟩:=hu
 have hl:=h.length
 refine ⟨base,cap,by rw [← hl];exact hv,by omega,by omega,h3,h4,fun a ha hne=>h5 a ha (fun e=>hne (by subst e;exact List.eq_nil_of_length_eq_zero hl.symm)),fun a ha=>h.repEs (h6 a ha),fun q hq=>?_⟩
 rw [← hl];exact h7 q hq
theorem Turn.both {r r':Regs} {h h':Heap} (hr:RLe r r') (hsub:∀ k o,(k,o)∈h'→(k,o)∈h) (hnd:(keys h').Nodup):Turn r h r' h':=(Turn.weak hr).trans (Turn.sub hsub fun _=>hnd)
theorem Turn.one {r r':Regs} {h:Heap} {q:Nat} {o:Ob} (hr:RLe r r') (hm:(q,o)∈h):Turn r h r' [(q,o)]:=
 Turn.both hr (fun k o' hk=>by cases List.mem_singleton.1 hk;exact hm) (by simp [keys])
def rowsF (n:Nat) (f:Nat→AV):List AV:=(List.range n).map f
@[simp] theorem rowsF_length (n:Nat) (f:Nat→AV):(rowsF n f).length=n:=by simp [rowsF]
theorem rowsF_get {n i:Nat} {f:Nat→AV} (h:i<n):(rowsF n f)[i]?=some (f i):=by
 unfold rowsF;rw [List.getElem?_map,List.getElem?_range h];rfl
theorem rowsF_congr {n:Nat} {f g:Nat→AV} (h:∀ j,j<n→f j=g j):rowsF n f=rowsF n g:=by
 unfold rowsF
 exact List.map_congr_left fun j hj=>h j (List.mem_range.1 hj)
theorem rowsF_set {n i:Nat} {f:Nat→AV} {v:AV}:(rowsF n f).set i v=rowsF n (fun j=>if j=i then v else f j):=by
 refine List.ext_getElem? fun j=>?_
 rw [List.getElem?_set]
 by_cases hj:j<n
 ·rw [rowsF_get hj,rowsF_get hj]
  by_cases he:i=j
  ·subst he;simp [hj]
  ·rw [if_neg he,if_neg (fun h=>he h.symm)]
 ·rw [List.getElem?_eq_none (by simp;omega),List.getElem?_eq_none (by simp;omega)]
  simp
  intro h;subst h;omega
theorem repC_F (n:Nat) (v:AV):repC n [v]=rowsF n (fun _=>v):=by
 rw [repC_one]
 unfold rowsF
 refine List.ext_getElem? fun j=>?_
 by_cases hj:j<n
 ·simp [hj]
 ·simp [hj]
theorem ldoF {P:Program} {t:TypeId} {b o n:Nat} {f:Nat→AV} {h:Heap} {K:AV→Prop} (v:AV) (hm:(b,Ob.vec (rowsF n f))∈h) (ht:aggT P t=some false) (ho:o<n) (hv:f o=v) (hk:K v) :
  ∃ cs l,(b,Ob.vec cs)∈h∧dropN o cs=some l∧loadI P t l K:=ldo hm ht (by rw [rowsF_get ho,hv]) hk
theorem stoF {b o n:Nat} {f:Nat→AV} {v:AV} {h h':Heap} {K:AV→Heap→Prop} (ho:o<n) (hu:Upd b (.vec (rowsF n f)) b (.vec (rowsF n (fun j=>if j=o then v else f j))) h h') (hk:K .unit h') :
  ∃ cs h',Upd b (.vec cs) b (.vec (setC cs o [v])) h h'∧(0<[v].length∧o+[v].length≤cs.length)∧K .unit h':=
 sto (vs:=rowsF n f) (by rw [rowsF_length];exact ho) (by rw [rowsF_set];exact hu) hk
theorem FzVs.ofGet {b:Nat} {cs:List AV}:∀ {xs ys:List AV},xs.length=ys.length→(∀ (i:Nat) x y,xs[i]?=some x→ys[i]?=some y→FzV b cs x y)→FzVs b cs xs ys
 | [],[],_,_=>.nil
 | x::xs,y::ys,hl,h=>.cons (h 0 x y rfl rfl) (FzVs.ofGet (by simpa using hl) fun i x y h1 h2=>h (i+1) x y (by simpa using h1) (by simpa using h2))
 | [],_::_,hl,_=>by simp at hl
 | _::_,[],hl,_=>by simp at hl
theorem fzF {b n:Nat} {f:Nat→AV} {xs:List (List AV)} (h:xs=(List.range n).map fun j=>[f j]):FzV b (rowsF n f) (.osl b 0 n 1) (.sl 1 none xs):=by
 subst h
 exact fzRow (ev:=f) (l:=List.range n) (by simp)
theorem gcallH {P:Program} {g:G} {f:FuncId} {vs:List AV} {v:AV} {h:Heap} {K:AV→Prop} (hq:QCall P f vs h v) (hk:K v):∃ v,gP g (QCall P f vs h v)∧K v:=⟨v,gP_of hq,hk⟩
theorem ixn {α:Type} {enc:α→List AV} {l:List α} {x:α} {g:G} {n:Int} (i:Nat) {K:AV→Prop} (hn:n=(i:Int)) (hx:l[i]?=some x) (hk:K (.iptr (enc x))) :
  ∃ (j:Nat) (y:List AV),gP g (n=(j:Int)∧(l.map enc)[j]?=some y)∧K (.iptr y):=
 ⟨i,enc x,gP_of ⟨hn,by simp [hx]⟩,hk⟩
theorem cT {b:Bool} {A B:Prop} (h:b=true) (ha:A):(b=true→A)∧(b=false→B):=⟨fun _=>ha,fun h'=>by rw [h] at h';cases h'⟩
theorem cF {b:Bool} {A B:Prop} (h:b=false) (hb:B):(b=true→A)∧(b=false→B):=⟨(fun h'=>by rw [h] at h';cases h'),fun _=>hb⟩
theorem ACalls.frzOr {P:Program} {f:FuncId} {args:List AV} {R R':AV→Heap→Prop} {h:Heap} (hf:ACalls P f args h R)
  (hp:∀ v h1,R v h1→R' v h1∨∃ b cs h2 h3 v',Rem b (.vec cs) h1 h2∧FzH b cs h2 h3∧FzV b cs v v'∧R' v' h3):ACalls P f args h R':=by
 refine ⟨fun X g w us hc hr=>?_⟩
 refine (hf.1 X g w us hc hr).mono fun e w' he=>?_
 obtain ⟨v,u,g',h1,rfl,hR,hc1,hu,hs⟩:=he
 rcases hp v h1 hR with hR'|⟨b,cs,h2,h3,v',e1,e2,e3,e4⟩
 ·exact ⟨v,u,g',h1,rfl,hR',hc1,hu,hs⟩
 obtain ⟨c1,s1,hv⟩:=Abs.freeze e1 hc1
 have hsub:∀ k o,(k,o)∈h2→(k,o)∈h1:=by
  obtain ⟨l1,l2,rfl,rfl⟩:=Rem.split e1
  intro k o hm
  simp only [List.mem_append,List.mem_cons] at hm ⊢
  rcases hm with h|h
  ·exact .inl h
  ·exact .inr (.inr h)
 obtain ⟨c2,s2⟩:=c1.objs e2.keys (fun k o' hm=>by
  rcases e2.get k o' hm with h1|⟨xs,ys,rfl,h2,h3⟩
  ·exact c1.obj k o' h1
  ·obtain ⟨p,cc,t,q1,q2,q3,q4,q5,q6⟩:=hc1.obj k (.vec xs) (hsub _ _ h2)
   obtain ⟨l,hg⟩:=h3.get
   refine ⟨p,cc,t,q1,q2,q3,q4,by rw [← l];exact q5,fun i y hy=>?_⟩
   obtain ⟨x,hx,hxy⟩:=hg i y hy
   obtain ⟨u,u1,u2,u3⟩:=q6 i x hx
   exact ⟨u,u1,u2,hv x y hxy u u3⟩)
 exact ⟨v',u,g',h3,rfl,e4,c2,Rep.mono (Step.le s2) _ _ (hv v v' e3 u hu),hs.trans hc.own (s1.trans hc1.own s2)⟩
end Go.Abs
/-
 The abstract layer,part W: loops gone through step by step,where everything is known.
-/
namespace Go.Abs
open Go
def ksOf:Regs→List Nat→List Nat
 | [],_=>[]
 | (t,[],_)::r,seen=>match memN seen t with
   | true=>ksOf r seen
   | false=>t::ksOf r (t::seen)
 | (t,_::_,_)::r,seen=>ksOf r (t::seen)
def UL (P:Program) (c:Cfg) (F:Func) (E:En) (k:Nat) (p:List Bool) (S:List Fr) (ks:List Nat):Nat→Regs→Heap→Prop
 | 0,_,_=>False
 | n+1,r,h=>UL P c F E k p S ks n r h∨run P c F E k (.go (false::p)) (.head (atHead ks [] (UL P c F E k p S ks n))::S) r h
theorem UL_eq {P:Program} {c:Cfg} {F:Func} {E:En} {k:Nat} {p:List Bool} {S:List Fr} {ks:List Nat} (m:Nat) :
  UL P c F E k p S ks m=fun r h=>∃ m',m'<m∧run P c F E k (.go (false::p)) (.head (atHead ks [] (UL P c F E k p S ks m'))::S) r h:=by
 induction m with
 | zero=>funext r h;simp [UL]
 | succ m ih=>
   funext r h
   refine propext ⟨?_,?_⟩
   ·intro hh
    unfold UL at hh
    rcases hh with hh|hh
    ·rw [ih] at hh
     obtain ⟨m',h1,h2⟩:=hh
     exact ⟨m',by omega,h2⟩
    ·exact ⟨m,by omega,hh⟩
   ·rintro ⟨m',h1,h2⟩
    unfold UL
    by_cases e:m'=m
    ·subst e;exact .inr h2
    ·refine .inl ?_
     rw [ih]
     exact ⟨m',by omega,h2⟩
theorem uloop {P:Program} {c:Cfg} {F:Func} {E:En} {p:List Bool} {S:List Fr} {k:Nat} {body:Code} {r:Regs} {h:Heap} (N:Nat) (hcat:cat F p=.loop body) (hm:P.follows .mixedOrders=true)
  (h0:atHead (ksOf r []) [] (UL P c F E k p S (ksOf r []) N) r h) :
  Holds P E.n E.X (cat F p) (fun e r h=>run P c F E k (.ex e) S r h) r h:=by
 refine sloop hcat hm (ksOf r []) [] (fun m r' h'=>run P c F E k (.go (false::p)) (.head (atHead (ksOf r []) [] (UL P c F E k p S (ksOf r []) m))::S) r' h') ?_ ?_
 ·rw [UL_eq] at h0
  unfold atHead at h0 ⊢
  exact normK_mono (fun r' hh=>let ⟨m,_,h2⟩:=hh;⟨m,h2⟩) h0
 ·intro m r' h' hJ
  rw [UL_eq] at hJ
  exact hJ
end Go.Abs
