/- Small laws for the walks and contracts of functions; each theorem names its conditions. -/
import Derived.Test.YtdjdbggpgmddnaaGreatN1
import Derived.ArgAppend
import Derived.Laws.Rows
import Derived.Laws.MakeOwn
import Derived.Laws.Entries
import Derived.Laws.Cells
import Derived.Laws.Strings
import Derived.IntWalk
import Derived.ChangeKeysEq
import Derived.Laws.StructEq
/-
 The abstract layer,part C: the evaluator is right,operation by operation.
-/
set_option linter.unusedVariables false
namespace Go.Abs
open Go
variable {P:Program}
theorem okI_has {k:IntKind} {n:Int} (h:okI k n=true):k.has n:=by
 unfold okI at h;split at h
 ·simp at h;constructor<;>simp [IntKind.min,IntKind.max,IntKind.signed,IntKind.bits]<;>omega
 ·simp at h;constructor<;>simp [IntKind.min,IntKind.max,IntKind.signed,IntKind.bits]<;>omega
 ·simp at h;constructor<;>simp [IntKind.min,IntKind.max,IntKind.signed,IntKind.bits]<;>omega
 ·simp at h;constructor<;>simp [IntKind.min,IntKind.max,IntKind.signed,IntKind.bits]<;>omega
 ·simp at h;constructor<;>simp [IntKind.min,IntKind.max,IntKind.signed,IntKind.bits]<;>omega
 cases h
theorem ofVal_rep (c:Cx) {v:Value} {x:AV} (h:ofVal v=some x):Rep c x v:=by
 unfold ofVal at h;split at h<;>first|(cases h;simp [Rep];done)|(cases h;simp [Rep,Value.oneCell'];done)|skip
 ·split at h
  ·rename_i hk;cases h;rw [Rep];exact ⟨rfl,okI_has hk⟩
  cases h
 ·split at h
  ·rename_i hk;cases h
   rw [Rep];refine ⟨_,rfl,rfl,?_⟩;have:=Nat.le_of_ble_eq_true hk;unfold LMAX;omega
  cases h
 cases h
theorem ofVals_rep (c:Cx):∀ {vs:List Value} {xs:List AV},ofVals vs=some xs->RepVs c xs vs
 | [],xs,h=>by cases h;simp [RepVs]
 | v::vs,xs,h=>by
   unfold ofVals at h;cases hv:ofVal v with
   | none=>simp [hv] at h
   | some a=>
     cases hr:ofVals vs with
     | none=>simp [hv,hr] at h
     | some b=>
       simp [hv,hr] at h;subst h;simp only [RepVs];exact ⟨v,vs,rfl,ofVal_rep c hv,ofVals_rep c hr⟩
theorem memG_sound {a:Act}:∀ {g:G} {t:Nat} {w:Bool},memG g t w=true->holdsC a g->a.tmps[t]?=some (.bool w)
 | [],_,_,h,_=>by cases h
 | (t',b,w')::g,t,w,h,hh=>by
   unfold memG at h;split at h
   ·rename_i ht;split at h
    ·rename_i hw;have e1:t'=t:=Nat.eq_of_beq_eq_true ht;have e2:w'=w:=by cases w'<;>cases w<;>simp_all [eqB]
     have:=hh (t',b,w') (by simp);simpa [e1,e2] using this
    exact memG_sound h (fun e he=>hh e (by simp [he]))
   exact memG_sound h (fun e he=>hh e (by simp [he]))
theorem subG_sound {a:Act} {g:G} (hh:holdsC a g):∀ {g':G},subG g' g=true->holdsC a g'
 | [],_=>fun e he=>by cases he
 | (t,b,w)::g',h=>by
   unfold subG at h;split at h
   ·rename_i hm;have h1:=memG_sound hm hh;have h2:=subG_sound hh h;intro e he;rcases List.mem_cons.1 he with rfl|he
    ·exact h1
    exact h2 e he
   cases h
theorem eval_tmp {a:Act} {t:Nat} {u:Value} (h:a.tmps[t]?=some u):a.eval (.tmp t)=u:=by simp [Act.eval,h]
section
variable {n:Nat} {X:Nat->Prop} {g0:Gh} {r:Regs} {h:Heap} {a:Act} {w:World}
theorem Conc.opnd (hc:Conc n X g0 r h a w) {g:G} (hg:holdsC a g) {x:Operand} {v:AV} (hx:Abs.opnd r g x=some v) :
  Rep ⟨g0,live X h,w⟩ v (a.eval x):=by
 unfold Abs.opnd at hx;split at hx
 ·rename_i t;split at hx
  ·rename_i g' v' hl;split at hx
   ·rename_i hs;cases hx
    obtain ⟨_,u,hu,hr⟩:=(hc.regs _ _ _ hl).1 (subG_sound hg hs);rw [eval_tmp hu];exact hr
   cases hx
  cases hx
 ·exact ofVal_rep _ hx
 ·cases hx
  simp only [Rep,RepVs,Act.eval];exact ⟨#[],rfl,rfl⟩
 cases hx
theorem Conc.opnds (hc:Conc n X g0 r h a w) {g:G} (hg:holdsC a g):∀ {xs:List Operand} {vs:List AV},Abs.opnds r g xs=some vs ->
  RepVs ⟨g0,live X h,w⟩ vs (xs.map a.eval)
 | [],vs,h=>by cases h;simp [RepVs]
 | x::xs,vs,h=>by
   unfold Abs.opnds at h;split at h
   ·rename_i v hv;split at h
    ·rename_i vs' hvs;cases h
     simp only [RepVs,List.map_cons];exact ⟨_,_,rfl,hc.opnd hg hv,hc.opnds hg hvs⟩
    cases h
   cases h
end
theorem wp_value {o:Oper} {a:Act} {w w':World} {u:Value} {next:Act->World->Prop} {Q:Exit->Act->World->Prop}
  (hr:(execOp a.eval o).run P w=.ok (.value u) w') (hn:next (a.put o.dst u) w'):o.wp P a w next Q:=by
 simp only [Oper.wp,hr,Oper.upon];exact hn
theorem wp_skipv {o:Oper} {a:Act} {w w':World} {next:Act->World->Prop} {Q:Exit->Act->World->Prop}
  (hr:(execOp a.eval o).run P w=.ok .skip w') (hn:next (a.put o.dst undef) w'):o.wp P a w next Q:=by
 simp only [Oper.wp,hr,Oper.upon];exact hn
section runs
variable {w:World}
theorem run_und {t:TypeId} {d:TypeDesc} (h:P.underlying t=some d):(underlying t).run P w=.ok d w:=run_underlying h w
theorem run_aggT {t:TypeId} {b:Bool} (h:aggT P t=some b):(isAgg t).run P w=.ok b w/\∃ d,P.underlying t=some d:=by
 unfold aggT at h;cases hu:P.underlying t with
 | none=>simp [hu] at h
 | some d=>
   refine ⟨?_,d,rfl⟩;unfold isAgg;simp only [Sem.run_bind,run_und hu,Result.andThen];simp only [hu] at h;cases d<;>simp_all
theorem run_sizeT {t:TypeId} {i:TypeInfo} (h:P.info? t=some i):(Go.sizeOf t).run P w=.ok (P.cellsOf t) w:=by simp [Go.sizeOf,typeInfo,h,Program.cellsOf]
theorem info_of_und {t:TypeId} {d:TypeDesc} (h:P.underlying t=some d):∃ i,P.info? t=some i:=by
 unfold Program.underlying at h;cases hi:P.info? t with
 | none=>simp [hi] at h
 | some i=>exact ⟨i,rfl⟩
theorem RepCs.load {c:Cx}:∀ {cs:List AV} {b o:Nat},RepCs c cs b o ->
  ∃ us:List Value,us.length=cs.length/\(∀ j u,us[j]?=some u->c.w.cell? ⟨b,o+j,none⟩=some u/\u.oneCell'=true)/\RepVs c cs us
 | [],b,o,_=>⟨[],rfl,by simp,by simp [RepVs]⟩
 | x::cs,b,o,h=>by
   simp only [RepCs] at h;obtain ⟨⟨u,h1,h2,h3,h4⟩,h5⟩:=h;obtain ⟨us,e1,e2,e3⟩:=RepCs.load h5;refine ⟨u::us,by simp [e1],?_,?_⟩
   ·intro j v hv;cases j with
    | zero=>simp at hv;subst hv;exact ⟨h1,h2⟩
    | succ j=>
      simp at hv;have:=e2 j v hv;rw [show o+(j+1)=o+1+j from by omega];exact this
   simp only [RepVs];exact ⟨u,us,rfl,h4,e3⟩
theorem takeN_eq:∀ {n:Nat} {cs l:List AV},takeN n cs=some l->n<=cs.length/\l=cs.take n
 | 0,cs,l,h=>by simp [takeN] at h;subst h;simp
 | n+1,[],l,h=>by simp [takeN] at h
 | n+1,x::cs,l,h=>by
   unfold takeN at h;cases ht:takeN n cs with
   | none=>simp [ht] at h
   | some m=>
     simp [ht] at h;obtain ⟨h1,h2⟩:=takeN_eq ht;subst h2;subst h;simp;omega
theorem dropN_eq:∀ {n:Nat} {cs l:List AV},dropN n cs=some l->n<=cs.length/\l=cs.drop n
 | 0,cs,l,h=>by simp [dropN] at h;subst h;simp
 | n+1,[],l,h=>by simp [dropN] at h
 | n+1,x::cs,l,h=>by unfold dropN at h;obtain ⟨h1,h2⟩:=dropN_eq h;subst h2;simp;omega
theorem RepCs.drop {c:Cx}:∀ (n:Nat) {cs:List AV} {b o:Nat},n<=cs.length->RepCs c cs b o->RepCs c (cs.drop n) b (o+n)
 | 0,cs,b,o,_,h=>by simpa using h
 | n+1,[],b,o,hn,h=>by simp at hn
 | n+1,x::cs,b,o,hn,h=>by simp only [RepCs] at h;have:=RepCs.drop n (by simpa using hn) h.2;simpa [Nat.add_assoc,Nat.add_comm 1 n] using this
theorem RepCs.take {c:Cx}:∀ (n:Nat) {cs:List AV} {b o:Nat},RepCs c cs b o->RepCs c (cs.take n) b o
 | 0,cs,b,o,_=>by simp [RepCs]
 | n+1,[],b,o,_=>by simp [RepCs]
 | n+1,x::cs,b,o,h=>by simp only [RepCs,List.take_succ_cons] at h ⊢;exact ⟨h.1,RepCs.take n h.2⟩
theorem RepVs.length {c:Cx}:∀ {xs:List AV} {us:List Value},RepVs c xs us->us.length=xs.length
 | [],us,h=>by simp [RepVs] at h;subst h;rfl
 | x::xs,us,h=>by simp only [RepVs] at h;obtain ⟨u,r,rfl,_,h2⟩:=h;simp [RepVs.length h2]
theorem RepVs.drop {c:Cx}:∀ (n:Nat) {xs:List AV} {us:List Value},RepVs c xs us->RepVs c (xs.drop n) (us.drop n)
 | 0,xs,us,h=>by simpa using h
 | n+1,[],us,h=>by simp [RepVs] at h;subst h;simp [RepVs]
 | n+1,x::xs,us,h=>by simp only [RepVs] at h;obtain ⟨u,r,rfl,_,h2⟩:=h;simpa using RepVs.drop n h2
theorem RepVs.take {c:Cx}:∀ (n:Nat) {xs:List AV} {us:List Value},RepVs c xs us->RepVs c (xs.take n) (us.take n)
 | 0,xs,us,h=>by simp [RepVs]
 | n+1,[],us,h=>by simp [RepVs] at h;subst h;simp [RepVs]
 | n+1,x::xs,us,h=>by simp only [RepVs] at h;obtain ⟨u,r,rfl,h1,h2⟩:=h;simp only [List.take_succ_cons,RepVs];exact ⟨u,_,rfl,h1,RepVs.take n h2⟩
theorem RepVs.append {c:Cx}:∀ {xs ys:List AV} {us vs:List Value},RepVs c xs us->RepVs c ys vs->RepVs c (xs++ys) (us++vs)
 | [],ys,us,vs,h,h'=>by simp [RepVs] at h;subst h;simpa using h'
 | x::xs,ys,us,vs,h,h'=>by simp only [RepVs] at h;obtain ⟨u,r,rfl,h1,h2⟩:=h;simp only [List.cons_append,RepVs];exact ⟨u,_,rfl,h1,RepVs.append h2 h'⟩
theorem run_loadVarU {t:TypeId} {c:Cx} {cs:List AV} {b o:Nat} {us:List Value} (h2:∀ j u,us[j]?=some u->c.w.cell? ⟨b,o+j,none⟩=some u)
  (h1':∀ (j:Nat) (u:Value),us[j]?=some u->u.oneCell'=true) (h3:RepVs c cs us) {K:AV->Prop} (hk:loadI P t cs K) :
  ∃ v u,K v/\Rep c v u/\(loadVar t ⟨b,o,none⟩).run P c.w=.ok u c.w:=by
 unfold loadI at hk;unfold loadVar;cases hagg:aggT P t with
 | none=>simp [hagg] at hk
 | some bb=>
 obtain ⟨hrun0,d,hd⟩:=run_aggT (w:=c.w) hagg;obtain ⟨i,hi⟩:=info_of_und hd;simp only [Sem.run_bind,hrun0,Result.andThen];cases bb with
 | true=>
   simp only [hagg] at hk;cases ht:takeN (P.cellsOf t) cs with
   | none=>simp [ht] at hk
   | some l=>
     simp only [ht] at hk;obtain ⟨h1,rfl⟩:=takeN_eq ht;have hlen:=h3.length;have hl:(us.take (P.cellsOf t)).length=P.cellsOf t:=by rw [List.length_take];omega
     have hrun:=run_loadCells_list (P:=P) (w:=c.w) ⟨b,o,none⟩ (us.take (P.cellsOf t)) (fun j v hv=>by
      have hj:us[j]?=some v:=by
       rw [List.getElem?_take] at hv;split at hv
       ·exact hv
       cases hv
      have:=h2 j v hj;cases j with
      | zero=>simpa [Addr.add] using this
      | succ j=>simpa [Addr.add] using this)
     refine ⟨_,.agg (us.take (P.cellsOf t)).toArray,hk,?_,?_⟩
     ·rw [Rep];refine ⟨_,rfl,fun u hu=>?_,by simpa using RepVs.take (P.cellsOf t) h3⟩;obtain ⟨j,hj⟩:=List.mem_iff_getElem?.1 (List.mem_of_mem_take (by simpa using hu));exact h1' j u hj
     simp only [if_true,run_sizeT hi,Result.andThen,Sem.run_bind];rw [hl] at hrun;simp [hrun]
 | false=>
   simp only [hagg] at hk;cases cs with
   | nil=>simp at hk
   | cons x cs=>
     simp only [RepVs] at h3;obtain ⟨u,r,rfl,h4,_⟩:=h3;have:=h2 0 u (by simp);exact ⟨x,u,hk,h4,by simp at this;simp [this]⟩
theorem run_loadVarI {t:TypeId} {c:Cx} {cs:List AV} {b o:Nat} (hcs:RepCs c cs b o) {K:AV->Prop} (hk:loadI P t cs K) :
  ∃ v u,K v/\Rep c v u/\(loadVar t ⟨b,o,none⟩).run P c.w=.ok u c.w:=by
 obtain ⟨us,e1,e2,e3⟩:=RepCs.load hcs;exact run_loadVarU (fun j u hu=>(e2 j u hu).1) (fun j u hu=>(e2 j u hu).2) e3 hk
theorem vec_cells {c:Cx} {b:Nat} {cs:List AV} (h:ObjRep c b (.vec cs)):∃ p,c.g.pl b=some p/\p.spot=none /\
  ∃ us:List Value,us.length=cs.length/\(∀ (j:Nat) (u:Value),us[j]?=some u->c.w.cell? ⟨p.block,p.off+j,none⟩=some u)/\(∀ (j:Nat) (u:Value),us[j]?=some u->u.oneCell'=true)/\RepVs c cs us:=by
 obtain ⟨p,cc,t,h1,h2,h3,h4,h5,h6⟩:=h;refine ⟨p,h1,h2,(cc.toList.drop p.off).take cs.length,by simp;omega,?_,?_,?_⟩
 ·intro j u hu;rw [List.getElem?_take] at hu;split at hu
  ·simp only [List.getElem?_drop,Array.getElem?_toList] at hu;simp [World.cell?,h4,hu]
  cases hu
 ·intro j u hu;rw [List.getElem?_take] at hu;split at hu
  ·rename_i hj;obtain ⟨u',e,o1,_⟩:=h6 j cs[j] (by simp [hj]);simp only [List.getElem?_drop,Array.getElem?_toList] at hu;rw [e] at hu;cases hu;exact o1
  cases hu
 clear h3
 have key:∀ (xs:List AV) (l:List Value),xs.length<=l.length->(∀ (i:Nat) (x:AV),xs[i]?=some x->∃ u,l[i]?=some u/\Rep c x u)->RepVs c xs (l.take xs.length):=by
  intro xs;induction xs with
  | nil=>intro l _ _;simp [RepVs]
  | cons x xs ih=>
    intro l hl hx;cases l with
    | nil=>simp at hl
    | cons u l=>
      simp only [List.length_cons,List.take_succ_cons,RepVs];obtain ⟨u',e,r⟩:=hx 0 x (by simp);simp at e;subst e;exact ⟨u,_,rfl,r,ih l (by simpa using hl) (fun i y hy=>hx (i+1) y (by simpa using hy))⟩
 refine key cs _ (by simp;omega) (fun i x hx=>?_);obtain ⟨u,e,_,r⟩:=h6 i x hx;exact ⟨u,by simp [e],r⟩
theorem arith_ok {c:Cx} {g:G} (he:∀ e∈g,e.2.1=e.2.2) {k:IntKind} {m:Int} {K:AV->Prop} (h:arith g k m K) :
  ∃ v,K v/\Rep c v (.int k (k.wrap m)):=by
 have out:∀ {p:Prop},gP g p->p:=by
  intro p hp;clear h;induction g with
  | nil=>exact hp
  | cons e g ih=>exact ih (fun e' h'=>he e' (by simp [h'])) (hp (he e (by simp)))
 unfold arith at h;cases k with
 | i64=>
   obtain ⟨h1,h2⟩:=h;have h1:=out h1;refine ⟨_,h2,?_⟩;rw [Rep,IntWalk.i64_in _ h1];exact ⟨rfl,by constructor<;>simp [IntKind.min,IntKind.max,IntKind.signed,IntKind.bits]<;>omega⟩
 | i32=>
   obtain ⟨h1,h2⟩:=h;have h1:=out h1;refine ⟨_,h2,?_⟩;rw [Rep,IntWalk.i32_in _ h1];exact ⟨rfl,by constructor<;>simp [IntKind.min,IntKind.max,IntKind.signed,IntKind.bits]<;>omega⟩
 | _=>
   refine ⟨_,h,?_⟩;rw [Rep];refine ⟨rfl,?_⟩;constructor<;>simp [IntKind.min,IntKind.max,IntKind.wrap,IntKind.signed,IntKind.bits]<;>(try split)<;>omega
theorem beqd {α:Type} [BEq α] [LawfulBEq α] [DecidableEq α] (a b:α):(a == b)=decide (a=b):=by rw [Bool.eq_iff_iff];simp
theorem run_eq_bool {t:TypeId} (h:P.underlying t=some .bool) (a b:Bool):(Op.equal t (.bool a) (.bool b)).run P w=.ok (a == b) w:=by show (Op.equalIn (9999+1) t (.bool a) (.bool b)).run P w=_;unfold Op.equalIn;simp only [Sem.run_bind,run_und h,Result.andThen];rfl
theorem run_eq_nil {t e:TypeId} (h:P.underlying t=some (.slice e)) (b:Option Addr) (n c:Nat):(Op.equal t (.slice b n c) (.slice none 0 0)).run P w=.ok b.isNone w:=by show (Op.equalIn (9999+1) t (.slice b n c) (.slice none 0 0)).run P w=_;unfold Op.equalIn;simp only [Sem.run_bind,run_und h,Result.andThen];cases b<;>rfl
theorem run_eq_ptr {t e:TypeId} (h:P.underlying t=some (.pointer e)) (b:Option Addr):(Op.equal t (.pointer b) (.pointer none)).run P w=.ok b.isNone w:=by show (Op.equalIn (9999+1) t (.pointer b) (.pointer none)).run P w=_;unfold Op.equalIn;simp only [Sem.run_bind,run_und h,Result.andThen];cases b<;>rfl
theorem run_eqGuard {op:BinOp} {t:TypeId} {x y:Operand} {u v:Value} (h:∀ cs,u≠.agg cs) (h':u≠.nilIface):(eqGuard op t x y u v).run P w=.ok () w:=by unfold eqGuard;cases op<;>simp<;>cases u<;>simp_all
end runs
theorem EntsRep.mono {c c':Cx} (hc:Cx.Le c c'):∀ {es:List (AV × AV)} {ents:List MapEntry},EntsRep c es ents->EntsRep c' es ents
 | [],_,h=>h
 | x::xs,es,h=>by obtain ⟨e,r,rfl,h1,h2,h3⟩:=h;exact ⟨e,r,rfl,Rep.mono hc _ _ h1,Rep.mono hc _ _ h2,EntsRep.mono hc h3⟩
theorem ObjRep.keep {c c':Cx} (hc:Cx.Le c c') {k:Nat} {o:Ob} (h:ObjRep c k o)
  (hb:∀ p,c.g.pl k=some p->(∃ s,c.g.ow p.block=some (k,s))->c'.w.heap[p.block]?=c.w.heap[p.block]?/\c'.g.ow p.block=c.g.ow p.block)
  (hn:c.g.pl k=none->c'.g.pl k=none):ObjRep c' k o:=by
 cases o with
 | vec cs=>
   obtain ⟨p,cc,t,h1,h2,h3,h4,h5,h6⟩:=h;obtain ⟨e1,e2⟩:=hb p h1 ⟨_,h3⟩;exact ⟨p,cc,t,hc.pl _ _ h1,h2,e2.trans h3,e1.trans h4,h5,fun i x hx=>let ⟨u,a,b,r⟩:=h6 i x hx;⟨u,a,b,Rep.mono hc _ _ r⟩⟩
 | tok=>
   intro p hp;cases hq:c.g.pl k with
   | none=>rw [hn hq] at hp;cases hp
   | some q=>
     have:=hc.pl _ _ hq;rw [this] at hp;cases hp
     obtain ⟨h1,h2,h3⟩:=h p hq;obtain ⟨e1,e2⟩:=hb p hq ⟨_,h2⟩;exact ⟨h1,e2.trans h2,by rw [e1];exact h3⟩
 | map es=>
   obtain ⟨p,cl,ents,h1,h2,h3,h4,h5,h6⟩:=h;obtain ⟨e1,e2⟩:=hb p h1 ⟨_,h2⟩;exact ⟨p,cl,ents,hc.pl _ _ h1,e2.trans h2,e1.trans h3,EntsRep.mono hc h4,h5,h6⟩
 | rmap es bs cl=>
   obtain ⟨p,ents,h1,h2,h3,h4,h5,h6⟩:=h;obtain ⟨e1,e2⟩:=hb p h1 ⟨_,h2⟩;exact ⟨p,ents,hc.pl _ _ h1,e2.trans h2,e1.trans h3,EntsRep.mono hc h4,h5,h6⟩
 | iter m cl seen=>
   obtain ⟨p,pm,sa,h1,h2,h3,h4,h5⟩:=h;obtain ⟨e1,e2⟩:=hb p h1 ⟨_,h2⟩;exact ⟨p,pm,sa,hc.pl _ _ h1,e2.trans h2,e1.trans h3,hc.pl _ _ h4,h5⟩
 | siter s pos=>
   obtain ⟨p,b,h1,h2,h3,h4,h5⟩:=h;obtain ⟨e1,e2⟩:=hb p h1 ⟨_,h2⟩;exact ⟨p,b,hc.pl _ _ h1,e2.trans h2,e1.trans h3,h4,h5⟩
 | raw b o S=>
   obtain ⟨h1,h2,h3,h4,h5⟩:=h;obtain ⟨e1,e2⟩:=hb ⟨b,0,none⟩ h1 ⟨_,h2⟩;exact ⟨hc.pl _ _ h1,e2.trans h2,e1.trans h3,h4,fun v u hs=>Rep.mono hc _ _ (h5 v u hs)⟩
theorem heap_alloc_lt (w:World) (o:Obj) {b:Nat} (h:b<w.heap.size):(w.alloc o).heap[b]?=w.heap[b]?:=by simp only [World.alloc,Array.getElem?_push];rw [if_neg (by omega)]
theorem CW.alloc {X:Nat->Prop} {g:Gh} {h:Heap} {w:World} (hc:CW X g h w) (o:Obj):CW X g h (w.alloc o)/\Step X g h w g h (w.alloc o):=by
 have hs:Step X g h w g h (w.alloc o):=by
  refine ⟨rfl,⟨rfl,Nat.le_refl _⟩,rfl,by simp,fun _ _ e=>e,fun _ _ _ e _=>e,fun _ _ _ e _=>e,fun _ _ e=>e,fun b hb e=>⟨heap_alloc_lt w o hb,e⟩,?_,?_⟩
  ·intro b k s ho hk cc t f hcc;exact ⟨cc,(heap_alloc_lt w o (hc.own _ _ _ ho)).trans hcc,rfl,fun _ _=>rfl⟩
  intro b k s e _ k' s' e' _;rw [e] at e';cases e';exact Nat.le_refl _
 refine ⟨⟨fun b k s e=>Nat.lt_of_lt_of_le (hc.own b k s e) hs.size,hc.bound,hc.nodup,hc.sep,fun k ob hk=>?_⟩,hs⟩;refine ObjRep.keep (Step.le hs) (hc.obj k ob hk) (fun p hp ⟨s,ho⟩=>⟨heap_alloc_lt w o (hc.own _ _ _ ho),rfl⟩) (fun e=>e)
theorem CW.drew {X:Nat->Prop} {g:Gh} {h:Heap} {w:World} (hc:CW X g h w):CW X g h w.drew/\Step X g h w g h w.drew:=by
 have hs:Step X g h w g h w.drew:=⟨rfl,⟨rfl,Nat.le_succ _⟩,rfl,Nat.le_refl _,fun _ _ e=>e,fun _ _ _ e _=>e,fun _ _ _ e _=>e,fun _ _ e=>e,fun b hb e=>⟨rfl,e⟩,
  fun b k s ho hk cc t f hcc=>⟨cc,hcc,rfl,fun _ _=>rfl⟩,fun b k s e _ k' s' e' _=>by rw [e] at e';cases e';exact Nat.le_refl _⟩
 exact ⟨⟨hc.own,hc.bound,hc.nodup,hc.sep,fun k ob hk=>ObjRep.keep (Step.le hs) (hc.obj k ob hk) (fun p hp ho=>⟨rfl,rfl⟩) (fun e=>e)⟩,hs⟩
theorem RepCs.new {X:Nat->Prop} {g:Gh} {h:Heap} {w:World} (hc:CW X g h w) {cs:List AV} {us:Array Value} {t:TypeId}
  (hr:RepVs ⟨g,live X h,w⟩ cs us.toList) (h1:∀ u∈us,u.oneCell'=true):RepCs ⟨g,live X h,w.alloc (.cells us t)⟩ cs w.heap.size 0:=by
 have hs:=(hc.alloc (.cells us t)).2
 have key:∀ (cs:List AV) (l:List Value) (o:Nat),RepVs ⟨g,live X h,w⟩ cs l->(∀ j u,l[j]?=some u->us[o+j]?=some u) ->
   RepCs ⟨g,live X h,w.alloc (.cells us t)⟩ cs w.heap.size o:=by
  intro cs;induction cs with
  | nil=>intros;simp [RepCs]
  | cons x cs ih=>
    intro l o hv hl;simp only [RepVs] at hv;obtain ⟨u,r,rfl,h2,h3⟩:=hv;simp only [RepCs];have hu:us[o]?=some u:=(by simpa using hl 0 u (by simp));refine ⟨⟨u,by simp [hu],h1 u (Array.mem_of_getElem? hu),?_,Rep.mono (Step.le hs) _ _ h2⟩,ih r (o+1) h3 (fun j v hv=>?_)⟩
    ·intro k s ho _;exact absurd (hc.own _ _ _ ho) (Nat.lt_irrefl _)
    have:=hl (j+1) v (by simpa using hv);rw [show o+1+j=o+(j+1) from by omega];exact this
 exact key cs us.toList 0 hr (by intro j u hu;simpa using hu)
end Go.Abs
/-
 The abstract layer,part C2: equality of plain values and of structs of them;keys.
-/
set_option linter.unusedSimpArgs false
namespace Go.Abs
open Go
variable {P:Program} {w:World}
theorem sameK_eq {k k':IntKind} (h:sameK k k'=true):k=k':=by cases k<;>cases k'<;>first|rfl|(simp [sameK] at h)
theorem eqS_ok {c:Cx} {t:TypeId} {x y:AV} {u v:Value} {b:Bool} (h:eqS P t x y=some b) (hu:Rep c x u) (hv:Rep c y v) (d:Nat) :
  (Op.equalIn (d+1) t u v).run P w=.ok b w/\aggT P t=some false/\(∀ fs,P.underlying t≠some (.struct fs))/\(Op.eqGuardIn (d+1) t u v).run P w=.ok false w:=by
 unfold eqS at h;split at h
 ·rename_i k1 k a k' b' hty;split at h<;>try contradiction
  rename_i hk;have hk:=sameK_eq hk;subst hk;cases h
  rw [Rep] at hu hv;obtain ⟨rfl,_⟩:=hu;obtain ⟨rfl,_⟩:=hv;refine ⟨?_,by simp [aggT,hty],by simp [hty],?_⟩
  ·simp [Op.equalIn,run_und hty,beqd]
  simp [Op.eqGuardIn,run_und hty]
 ·rename_i a b' hty;cases h
  rw [Rep] at hu hv;obtain ⟨b,rfl,rfl,_⟩:=hu;obtain ⟨b',rfl,rfl,_⟩:=hv;refine ⟨?_,by simp [aggT,hty],by simp [hty],?_⟩
  ·have e:(b == b')=decide (b.data.toList=b'.data.toList):=by
    rw [Bool.eq_iff_iff];obtain ⟨⟨l⟩⟩:=b;obtain ⟨⟨l'⟩⟩:=b';show ((Array.mk l) == (Array.mk l'))=true↔_;simp
   simp only [Op.equalIn,run_und hty,Sem.run_bind,Result.andThen,Sem.run_pure,e]
  simp [Op.eqGuardIn,run_und hty]
 ·rename_i a b' hty;cases h
  rw [Rep] at hu hv;subst hu;subst hv;refine ⟨?_,by simp [aggT,hty],by simp [hty],?_⟩
  ·simp [Op.equalIn,run_und hty,beqd]
  simp [Op.eqGuardIn,run_und hty]
 cases h
theorem RepVs.get {c:Cx}:∀ {xs:List AV} {us:List Value},RepVs c xs us->∀ (i:Nat) (x:AV),xs[i]?=some x->∃ u,us[i]?=some u/\Rep c x u
 | [],us,h,i,x,hx=>by simp at hx
 | y::xs,us,h,i,x,hx=>by
   simp only [RepVs] at h;obtain ⟨u,r,rfl,h1,h2⟩:=h;cases i with
   | zero=>simp at hx;subst hx;exact ⟨u,by simp,h1⟩
   | succ i=>exact RepVs.get h2 i x (by simpa using hx)
theorem run_part {t:TypeId} {cs:Array Value} {off:Nat} {u:Value} (hag:aggT P t=some false) (h:cs[off]?=some u):(part t cs off).run P w=.ok u w:=by obtain ⟨hrun,_⟩:=run_aggT (w:=w) hag;simp [part,hrun,h]
theorem run_eqFields {c:Cx} {d:Nat} {us vs:Array Value}:∀ {fs:List Field} {i:Nat} {xs ys:List AV} {b:Bool},eqF P i fs xs ys=some b->fs.all (fun f=>!(f.name == "_"))=true ->
  (∀ j x,xs[j]?=some x->∃ u,us[i+j]?=some u/\Rep c x u)->(∀ j x,ys[j]?=some x->∃ u,vs[i+j]?=some u/\Rep c x u) ->
  (Op.eqFields (d+1) us vs fs).run P w=.ok b w
 | [],i,xs,ys,b,h,hn,hx,hy=>by
   cases xs<;>cases ys<;>simp [eqF] at h
   subst h;simp [Op.eqFields]
 | f::fs,i,[],ys,b,h,hn,hx,hy=>by simp [eqF] at h
 | f::fs,i,x::xs,[],b,h,hn,hx,hy=>by simp [eqF] at h
 | f::fs,i,x::xs,y::ys,b,h,hn,hx,hy=>by
   unfold eqF at h;split at h<;>try contradiction
   rename_i hoff;split at h<;>try contradiction
   rename_i b1 h1;split at h<;>try contradiction
   rename_i b2 h2;cases h
   have hoff:=Nat.eq_of_beq_eq_true hoff;obtain ⟨u,hu,hru⟩:=hx 0 x (by simp);obtain ⟨v,hv,hrv⟩:=hy 0 y (by simp);simp only [Nat.add_zero,<- hoff] at hu hv;obtain ⟨e1,e2,_,_⟩:=eqS_ok (w:=w) h1 hru hrv d;simp only [List.all_cons,Bool.and_eq_true,Bool.not_eq_true',beq_eq_false_iff_ne] at hn
   have ih:=run_eqFields (d:=d) h2 (by simpa using hn.2)
    (fun j z hz=>by have:=hx (j+1) z (by simpa using hz);rwa [show i+1+j=i+(j+1) from by omega])
    (fun j z hz=>by have:=hy (j+1) z (by simpa using hz);rwa [show i+1+j=i+(j+1) from by omega])
   unfold Op.eqFields;cases b1 with
   | false=>simp [hn.1,run_part e2 hu,run_part e2 hv,e1]
   | true=>simp [hn.1,run_part e2 hu,run_part e2 hv,e1,ih]
theorem run_eqItems {c:Cx} {d:Nat} {e:TypeId} {us vs:Array Value}:∀ {i:Nat} {xs ys:List AV} {b:Bool},eqA P e xs ys=some b ->
  (∀ j x,xs[j]?=some x->∃ u,us[i+j]?=some u/\Rep c x u)->(∀ j x,ys[j]?=some x->∃ u,vs[i+j]?=some u/\Rep c x u) ->
  (Op.eqItems (d+1) e 1 us vs (List.range' i xs.length)).run P w=.ok b w
 | i,[],ys,b,h,hx,hy=>by
   cases ys<;>simp [eqA] at h
   subst h;simp [Op.eqItems]
 | i,x::xs,[],b,h,hx,hy=>by simp [eqA] at h
 | i,x::xs,y::ys,b,h,hx,hy=>by
   unfold eqA at h;split at h<;>try contradiction
   rename_i b1 h1;split at h<;>try contradiction
   rename_i b2 h2;cases h
   obtain ⟨u,hu,hru⟩:=hx 0 x (by simp);obtain ⟨v,hv,hrv⟩:=hy 0 y (by simp);simp only [Nat.add_zero] at hu hv;obtain ⟨e1,e2,_,_⟩:=eqS_ok (w:=w) h1 hru hrv d
   have ih:=run_eqItems (d:=d) h2
    (fun j z hz=>by have:=hx (j+1) z (by simpa using hz);rwa [show i+1+j=i+(j+1) from by omega])
    (fun j z hz=>by have:=hy (j+1) z (by simpa using hz);rwa [show i+1+j=i+(j+1) from by omega])
   rw [List.length_cons,List.range'_succ];unfold Op.eqItems;cases b1 with
   | false=>simp [run_part e2 hu,run_part e2 hv,e1]
   | true=>simp [run_part e2 hu,run_part e2 hv,e1,ih]
theorem eqV_ok {c:Cx} {t:TypeId} {x y:AV} {u v:Value} {b:Bool} (h:eqV P t x y=some b) (hp:plainT P t=true) (hu:Rep c x u) (hv:Rep c y v) (d:Nat) :
  (Op.equalIn (d+2) t u v).run P w=.ok b w/\((∃ us vs,u=.agg us/\v=.agg vs/\P.eqGuardType P.depth t=false/\aggT P t=some true)\/eqS P t x y=some b):=by
 unfold eqV at h;split at h
 ·rename_i fs hty;split at h<;>try contradiction
  rename_i xs ys;simp only [plainT,hty,Bool.and_eq_true,Bool.not_eq_true'] at hp;rw [Rep] at hu hv;obtain ⟨us,rfl,_,hus⟩:=hu;obtain ⟨vs,rfl,_,hvs⟩:=hv;have hf:P.fieldsOf t=fs:=(by simp [Program.fieldsOf,hty]);refine ⟨?_,.inl ⟨us,vs,rfl,rfl,hp.2,by simp [aggT,hty]⟩⟩;rw [run_equalIn_struct w (d+1) t us vs (by rw [hf];exact hty) hp.1.2,hf]
  exact run_eqFields h hp.1.1 (fun j z hz=>by obtain ⟨u,h1,h2⟩:=hus.get j z hz;exact ⟨u,by simpa using h1,h2⟩)
   (fun j z hz=>by obtain ⟨u,h1,h2⟩:=hvs.get j z hz;exact ⟨u,by simpa using h1,h2⟩)
 ·rename_i n e hty;split at h<;>try contradiction
  rename_i xs ys;split at h<;>try contradiction
  rename_i ie hl hc1 hie;simp only [plainT,hty,Bool.not_eq_true'] at hp;have hl:=Nat.eq_of_beq_eq_true hl;have hc1:=Nat.eq_of_beq_eq_true hc1;rw [Rep] at hu hv;obtain ⟨us,rfl,_,hus⟩:=hu;obtain ⟨vs,rfl,_,hvs⟩:=hv;refine ⟨?_,.inl ⟨us,vs,rfl,rfl,hp,by simp [aggT,hty]⟩⟩;rw [run_equalIn_array (w:=w) (d+1) us vs hty hie,hc1,<- hl,List.range_eq_range']
  exact run_eqItems h (fun j z hz=>by obtain ⟨u,h1,h2⟩:=hus.get j z hz;exact ⟨u,by simpa using h1,h2⟩)
   (fun j z hz=>by obtain ⟨u,h1,h2⟩:=hvs.get j z hz;exact ⟨u,by simpa using h1,h2⟩)
 ·exact ⟨(eqS_ok h hu hv (d+1)).1,.inr h⟩
 cases h
end Go.Abs
/-
 The abstract layer,part C3: maps.
-/
namespace Go.Abs
open Go
variable {P:Program} {w:World}
theorem checkKey_scal {t:TypeId} {x:AV} {u:Value} {b:Bool} {y:AV} (h:eqS P t x y=some b) (e:Bool) (n:Nat):(Instr.checkKey e (n+1) t u).run P w=.ok () w:=by
 unfold eqS at h;split at h
 ·rename_i hty;simp [Instr.checkKey,run_und hty]
 ·rename_i hty;simp [Instr.checkKey,run_und hty]
 ·rename_i hty;simp [Instr.checkKey,run_und hty]
 cases h
theorem run_checkFields {c:Cx} {n:Nat} {em:Bool} {us:Array Value}:∀ {fs:List Field} {i:Nat} {xs:List AV},eqF P i fs xs xs=some true ->
  (∀ j x,xs[j]?=some x->∃ u,us[i+j]?=some u/\Rep c x u) ->
  (forIn (m:=Sem) fs PUnit.unit fun f (r:PUnit)=>(if f.name ≠ "_" then do
     Instr.checkKey em (n+1) f.type (<- part f.type us f.offset)
     pure (ForInStep.yield PUnit.unit) else pure (ForInStep.yield PUnit.unit):Sem (ForInStep PUnit))).run P w=.ok PUnit.unit w
 | [],i,xs,h,hx=>by simp
 | f::fs,i,[],h,hx=>by simp [eqF] at h
 | f::fs,i,x::xs,h,hx=>by
   unfold eqF at h;split at h<;>try contradiction
   rename_i hoff;split at h<;>try contradiction
   rename_i b1 h1;split at h<;>try contradiction
   rename_i b2 h2;have hoff:=Nat.eq_of_beq_eq_true hoff;have hb:b2=true:=by cases b1<;>cases b2<;>simp_all
   subst hb;obtain ⟨u,hu,hru⟩:=hx 0 x (by simp);simp only [Nat.add_zero,<- hoff] at hu;obtain ⟨e1,e2,_,_⟩:=eqS_ok (w:=w) h1 hru hru 0
   have ih:=run_checkFields (n:=n) (em:=em) h2
    (fun j z hz=>by have:=hx (j+1) z (by simpa using hz);rwa [show i+1+j=i+(j+1) from by omega])
   rw [List.forIn_cons];by_cases hn:f.name = "_"
   ·simp [hn];simpa using ih
   simp [hn,run_part e2 hu,checkKey_scal h1];simpa using ih
theorem run_checkItems {c:Cx} {n:Nat} {em:Bool} {e:TypeId} {ie:TypeInfo} {us:Array Value} (hie:P.info? e=some ie) (h1:ie.size=1):∀ {xs:List AV} {i:Nat},eqA P e xs xs=some true ->
  (∀ j x,xs[j]?=some x->∃ u,us[i+j]?=some u/\Rep c x u) ->
  (forIn (m:=Sem) (List.range' i xs.length) PUnit.unit fun i (r:PUnit)=>(do
     Instr.checkKey em (n+1) e (<- part e us (i*(<- sizeOf e)))
     pure (ForInStep.yield PUnit.unit):Sem (ForInStep PUnit))).run P w=.ok PUnit.unit w
 | [],i,h,hx=>by simp
 | x::xs,i,h,hx=>by
   unfold eqA at h;split at h<;>try contradiction
   rename_i b1 hb1;split at h<;>try contradiction
   rename_i b2 hb2;have hb:b2=true:=by cases b1<;>cases b2<;>simp_all
   subst hb;obtain ⟨u,hu,hru⟩:=hx 0 x (by simp);simp only [Nat.add_zero] at hu;obtain ⟨e1,e2,_,_⟩:=eqS_ok (w:=w) hb1 hru hru 0
   have ih:=run_checkItems (n:=n) (em:=em) hie h1 hb2
    (fun j z hz=>by have:=hx (j+1) z (by simpa using hz);rwa [show i+1+j=i+(j+1) from by omega])
   rw [List.length_cons,List.range'_succ,List.forIn_cons];have hs:(sizeOf e).run P w=.ok 1 w:=(by simp [sizeOf,typeInfo,hie,h1]);simp [hs,run_part e2 hu,checkKey_scal hb1];simpa using ih
theorem run_checkKey' {c:Cx} {t:TypeId} {k:AV} {u:Value} (hk:keyFits P t k) (hu:Rep c k u) (em:Bool) (n:Nat):(Instr.checkKey em (n+2) t u).run P w=.ok () w:=by
 obtain ⟨hp,he⟩:=hk;unfold eqV at he;split at he
 ·rename_i fs hty;split at he<;>try contradiction
  rename_i xs ys _ _;rw [Rep] at hu;obtain ⟨us,rfl,_,hus⟩:=hu;rw [Instr.checkKey];simp only [Sem.run_bind,run_und hty,Result.andThen_ok];rw [<- Array.forIn_toList];have:=run_checkFields (c:=c) (P:=P) (w:=w) (n:=n) (em:=em) (us:=us) he (fun j z hz=>by obtain ⟨u,h1,h2⟩:=hus.get j z hz;exact ⟨u,by simpa using h1,h2⟩);simp at this ⊢;rw [this];rfl
 ·rename_i m e hty;split at he<;>try contradiction
  rename_i xs ys _ _;split at he<;>try contradiction
  rename_i ie hl hc1 hie;have hl:=Nat.eq_of_beq_eq_true hl;have hc1:=Nat.eq_of_beq_eq_true hc1;rw [Rep] at hu;obtain ⟨us,rfl,_,hus⟩:=hu;rw [Instr.checkKey];simp only [Sem.run_bind,run_und hty,Result.andThen_ok];simp only [Std.Legacy.Range.forIn_eq_forIn_range',Std.Legacy.Range.size,Nat.sub_zero,Nat.add_one_sub_one,Nat.div_one];have:=run_checkItems (c:=c) (P:=P) (w:=w) (n:=n) (em:=em) (us:=us) hie (by simpa [Program.cellsOf,hie] using hc1) (i:=0) he (fun j z hz=>by obtain ⟨u,h1,h2⟩:=hus.get j z hz;exact ⟨u,by simpa using h1,h2⟩);rw [<- hl];simp at this ⊢;rw [this];rfl
 ·exact checkKey_scal he em (n+1)
 cases he
theorem sameBits_scal {c:Cx} {t:TypeId} {x y:AV} {u v:Value} (h:eqS P t x y=some true) (hu:Rep c x u) (hv:Rep c y v) (n:Nat):Instr.sameBits n v u=true:=by
 unfold eqS at h;split at h
 ·split at h<;>try contradiction
  rename_i hk;have hk:=sameK_eq hk;subst hk;simp at h;subst h;rw [Rep] at hu hv;obtain ⟨rfl,_⟩:=hu;obtain ⟨rfl,_⟩:=hv;unfold Instr.sameBits;simp
 ·simp at h;subst h;rw [Rep] at hu hv;obtain ⟨b,rfl,rfl,_⟩:=hu;obtain ⟨b',rfl,hb,_⟩:=hv;have:b'=b:=by obtain ⟨⟨l⟩⟩:=b;obtain ⟨⟨l'⟩⟩:=b';simp at hb;subst hb;rfl
  subst this;unfold Instr.sameBits;rw [beq_toListBytes];simp
 ·simp at h;subst h;rw [Rep] at hu hv;subst hu;subst hv;unfold Instr.sameBits;simp
 cases h
theorem sameBits_F {c:Cx} {n:Nat}:∀ {fs:List Field} {i:Nat} {xs ys:List AV} {us vs:List Value},eqF P i fs xs ys=some true->RepVs c xs us->RepVs c ys vs ->
  us.length=vs.length/\((vs.zip us).all fun (x,y)=>Instr.sameBits n x y)=true
 | [],i,xs,ys,us,vs,h,hx,hy=>by
   cases xs<;>cases ys<;>simp [eqF] at h
   simp [RepVs] at hx hy;subst hx;subst hy;simp
 | f::fs,i,[],ys,us,vs,h,hx,hy=>by simp [eqF] at h
 | f::fs,i,x::xs,[],us,vs,h,hx,hy=>by simp [eqF] at h
 | f::fs,i,x::xs,y::ys,us,vs,h,hx,hy=>by
   unfold eqF at h;split at h<;>try contradiction
   split at h<;>try contradiction
   rename_i b1 h1;split at h<;>try contradiction
   rename_i b2 h2;have hb:b1=true/\b2=true:=by cases b1<;>cases b2<;>simp_all
   obtain ⟨rfl,rfl⟩:=hb;simp only [RepVs] at hx hy;obtain ⟨u,r,rfl,a1,a2⟩:=hx;obtain ⟨v,s,rfl,b1,b2⟩:=hy;obtain ⟨e1,e2⟩:=sameBits_F (n:=n) h2 a2 b2;simp only [List.length_cons,List.zip_cons_cons,List.all_cons,sameBits_scal h1 a1 b1,e2,Bool.and_self,and_true];omega
theorem sameBits_A {c:Cx} {n:Nat} {e:TypeId}:∀ {xs ys:List AV} {us vs:List Value},eqA P e xs ys=some true->RepVs c xs us->RepVs c ys vs ->
  us.length=vs.length/\((vs.zip us).all fun (x,y)=>Instr.sameBits n x y)=true
 | [],ys,us,vs,h,hx,hy=>by
   cases ys<;>simp [eqA] at h
   simp [RepVs] at hx hy;subst hx;subst hy;simp
 | x::xs,[],us,vs,h,hx,hy=>by simp [eqA] at h
 | x::xs,y::ys,us,vs,h,hx,hy=>by
   unfold eqA at h;split at h<;>try contradiction
   rename_i b1 h1;split at h<;>try contradiction
   rename_i b2 h2;have hb:b1=true/\b2=true:=by cases b1<;>cases b2<;>simp_all
   obtain ⟨rfl,rfl⟩:=hb;simp only [RepVs] at hx hy;obtain ⟨u,r,rfl,a1,a2⟩:=hx;obtain ⟨v,s,rfl,b1,b2⟩:=hy;obtain ⟨e1,e2⟩:=sameBits_A (n:=n) h2 a2 b2;simp only [List.length_cons,List.zip_cons_cons,List.all_cons,sameBits_scal h1 a1 b1,e2,Bool.and_self,and_true];omega
theorem sameBits_V {c:Cx} {t:TypeId} {x y:AV} {u v:Value} (h:eqV P t x y=some true) (hu:Rep c x u) (hv:Rep c y v) (n:Nat):Instr.sameBits (n+1) v u=true:=by
 unfold eqV at h;split at h
 ·split at h<;>try contradiction
  rw [Rep] at hu hv;obtain ⟨us,rfl,_,hus⟩:=hu;obtain ⟨vs,rfl,_,hvs⟩:=hv;obtain ⟨e1,e2⟩:=sameBits_F (n:=n) h hus hvs;simp at e1;unfold Instr.sameBits;simp only [Bool.and_eq_true,beq_iff_eq];exact ⟨e1.symm,e2⟩
 ·split at h<;>try contradiction
  split at h<;>try contradiction
  rw [Rep] at hu hv;obtain ⟨us,rfl,_,hus⟩:=hu;obtain ⟨vs,rfl,_,hvs⟩:=hv;obtain ⟨e1,e2⟩:=sameBits_A (n:=n) h hus hvs;simp at e1;unfold Instr.sameBits;simp only [Bool.and_eq_true,beq_iff_eq];exact ⟨e1.symm,e2⟩
 ·exact sameBits_scal h hu hv _
 cases h
theorem sameNow_scal {c:Cx} {t:TypeId} {d:TypeDesc} {x y:AV} {u v:Value} {b q:Bool} (ht:P.underlying t=some d) (h:eqV P t x y=some b) (hu:Rep c x u) (hv:Rep c y v) (hq:Instr.sameNow d u v=some q):q=b:=by
 unfold eqV at h;rw [ht] at h;split at h
 ·rename_i fs hty;cases hty
  split at h<;>contradiction
 ·rename_i n e hty;cases hty
  split at h<;>contradiction
 ·unfold eqS at h;rw [ht] at h;split at h
  ·rename_i hty;cases hty
   split at h<;>try contradiction
   rename_i hk;have hk:=sameK_eq hk;subst hk;cases h
   rw [Rep] at hu hv;obtain ⟨rfl,_⟩:=hu;obtain ⟨rfl,_⟩:=hv;simp [Instr.sameNow] at hq;rw [<- hq,beqd]
  ·rename_i hty;cases hty
   cases h
   rw [Rep] at hu hv;obtain ⟨b,rfl,rfl,_⟩:=hu;obtain ⟨b',rfl,rfl,_⟩:=hv;simp only [Instr.sameNow] at hq;cases hq
   rw [Bool.eq_iff_iff];obtain ⟨⟨l⟩⟩:=b;obtain ⟨⟨l'⟩⟩:=b';show ((Array.mk l) == (Array.mk l'))=true↔_;simp
  ·rename_i hty;cases hty
   cases h
   rw [Rep] at hu hv;subst hu;subst hv;simp only [Instr.sameNow] at hq;cases hq
   rw [beqd]
  cases h
 cases h
theorem find_ok {c:Cx} {t:TypeId} {d:TypeDesc} {k:AV} {u:Value} (ht:P.underlying t=some d) (hp:plainT P t=true) (hu:Rep c k u) :
  ∀ {es:List (AV × AV)} {ents:List MapEntry} {r:Option AV} (i:Nat),EntsRep c es ents->mget P t k es=some r ->
  ∃ res,(Instr.findAsking t u ents i).run P w=.ok res w/\(∀ q,Instr.findNow d u ents i=some q->q=res) /\
   (match r with
    | none=>res=none/\∀ v',mset P t k v' es=es++[(k,v')]
    | some v=>∃ j e,res=some (i+j,e.val)/\ents[j]?=some e/\Rep c v e.val/\Instr.sameBits 10000 e.key u=true /\
       ∀ (v':AV) (uv:Value),Rep c v' uv->EntsRep c (mset P t k v' es) (ents.modify j fun e=>{ e with key:=u,val:=uv }))
 | [],ents,r,i,he,hm=>by simp [EntsRep] at he;subst he;simp [mget] at hm;subst hm;exact ⟨none,by simp [Instr.findAsking],by simp [Instr.findNow],rfl,fun v'=>rfl⟩
 | (x,v)::es,ents,r,i,he,hm=>by
   obtain ⟨e,rest,rfl,h1,h2,h3⟩:=he;simp only at h1 h2;unfold mget at hm;split at hm
   ·rename_i heq;cases hm
    obtain ⟨hrun,_⟩:=eqV_ok (w:=w) heq hp hu h1 9998;refine ⟨some (i,e.val),?_,?_,0,e,rfl,by simp,h2,sameBits_V heq hu h1 9999,?_⟩
    ·simp [Instr.findAsking,Op.equal,Op.maxDepth,hrun]
    ·intro q hq;unfold Instr.findNow at hq;split at hq
     ·cases hq;rfl
     ·rename_i hs;have:=sameNow_scal ht heq hu h1 hs;cases this
     cases hq
    intro v' uv hv';simp only [mset,heq];exact ⟨{ e with key:=u,val:=uv },rest,rfl,hu,hv',h3⟩
   ·rename_i heq;obtain ⟨hrun,_⟩:=eqV_ok (w:=w) heq hp hu h1 9998;obtain ⟨res,r1,r2,r3⟩:=find_ok ht hp hu (i+1) h3 hm;refine ⟨res,?_,?_,?_⟩
    ·simp [Instr.findAsking,Op.equal,Op.maxDepth,hrun,r1]
    ·intro q hq;unfold Instr.findNow at hq;split at hq
     ·rename_i hs;have:=sameNow_scal ht heq hu h1 hs;cases this
     ·exact r2 q hq
     cases hq
    cases r with
    | none=>
      refine ⟨r3.1,fun v'=>?_⟩;simp only [mset,heq,r3.2 v',List.cons_append]
    | some v0=>
      obtain ⟨j,e',q1,q2,q3,q4,q5⟩:=r3;refine ⟨j+1,e',by rw [q1];congr 2;omega,by simpa using q2,q3,q4,fun v' uv hv'=>?_⟩;simp only [mset,heq];exact ⟨e,_,by simp [List.modify],h1,h2,q5 v' uv hv'⟩
   cases hm
theorem run_findKey' {c:Cx} {t:TypeId} {k:AV} {u:Value} (hk:keyFits P t k) (hu:Rep c k u) {es:List (AV × AV)} {ents:Array MapEntry} {r:Option AV} (he:EntsRep c es ents.toList) (hm:mget P t k es=some r) :
  ∃ res,(Instr.findKey t u ents.toList).run P w=.ok res w /\
   (match r with
    | none=>res=none/\∀ v',mset P t k v' es=es++[(k,v')]
    | some v=>∃ j e,res=some (j,e.val)/\ents[j]?=some e/\Rep c v e.val/\Instr.sameBits 10000 e.key u=true /\
       ∀ (v':AV) (uv:Value),Rep c v' uv->EntsRep c (mset P t k v' es) (ents.modify j fun e=>{ e with key:=u,val:=uv }).toList):=by
 have hty:∃ d,P.underlying t=some d:=by
  have:=hk.2;unfold eqV at this;cases hd:P.underlying t with
  | none=>simp [hd] at this
  | some d=>exact ⟨d,rfl⟩
 obtain ⟨d,hd⟩:=hty;obtain ⟨res,r1,r2,r3⟩:=find_ok (w:=w) hd hk.1 hu 0 he hm;refine ⟨res,?_,?_⟩
 ·unfold Instr.findKey;simp only [Sem.run_bind,run_und hd,Result.andThen_ok];split
  ·rename_i q hq;rw [r2 q hq];simp
  exact r1
 cases r with
 | none=>exact r3
 | some v=>
   obtain ⟨j,e,q1,q2,q3,q4,q5⟩:=r3;refine ⟨j,e,by simpa using q1,by simpa using q2,q3,q4,fun v' uv hv'=>?_⟩;rw [Array.toList_modify];exact q5 v' uv hv'
theorem and_mask {a:Int} (h0:0<=a) (h1:a<4294967296):IntKind.u64.wrap ((BitVec.ofInt 64 a &&& BitVec.ofInt 64 4294967295).toNat:Int)=a:=by
 obtain ⟨m,rfl⟩:=Int.eq_ofNat_of_zero_le h0;have e1:(BitVec.ofInt 64 (m:Int)).toNat=m:=by rw [BitVec.ofInt_natCast,BitVec.toNat_ofNat];exact Nat.mod_eq_of_lt (by omega)
 have e2:(BitVec.ofInt 64 4294967295).toNat=4294967295:=(by decide);rw [BitVec.toNat_and,e1,e2,show 4294967295=2 ^ 32 - 1 from rfl,Nat.and_two_pow_sub_one_eq_mod,Nat.mod_eq_of_lt (by omega)];simp [IntKind.wrap,IntKind.signed,IntKind.bits];omega
set_option maxHeartbeats 1000000 in
theorem binP_ok {c:Cx} {g:G} (he:∀ e∈g,e.2.1=e.2.2) {t:TypeId} {op:BinOp} {x y:AV} {u v:Value} {K:AV->Prop} {ox oy:Operand}
  (h:binP P g t op x y K) (hu:Rep c x u) (hv:Rep c y v) :
  ∃ z s,K z/\Rep c z s/\(do eqGuard op t ox oy u v;binOp op t u v:Sem Value).run P c.w=.ok s c.w:=by
 have out:∀ {p:Prop},gP g p->p:=by
  intro p hp;clear h;induction g with
  | nil=>exact hp
  | cons e g ih=>exact ih (fun e' h'=>he e' (by simp [h'])) (hp (he e (by simp)))
 unfold binP at h;split at h
 case h_1=> -- add
  rw [eqK_iff] at h;obtain ⟨rfl,h⟩:=h;rw [Rep] at hu hv;obtain ⟨rfl,_⟩:=hu;obtain ⟨rfl,_⟩:=hv;obtain ⟨z,h1,h2⟩:=arith_ok (c:=c) he h;exact ⟨z,_,h1,h2,by simp [run_eqGuard,binOp,Op.intArith]⟩
 case h_2=>
  rw [eqK_iff] at h;obtain ⟨rfl,h⟩:=h;rw [Rep] at hu hv;obtain ⟨rfl,_⟩:=hu;obtain ⟨rfl,_⟩:=hv;obtain ⟨z,h1,h2⟩:=arith_ok (c:=c) he h;exact ⟨z,_,h1,h2,by simp [run_eqGuard,binOp,Op.intArith]⟩
 case h_3=>
  rw [eqK_iff] at h;obtain ⟨rfl,h⟩:=h;rw [Rep] at hu hv;obtain ⟨rfl,_⟩:=hu;obtain ⟨rfl,_⟩:=hv;obtain ⟨z,h1,h2⟩:=arith_ok (c:=c) he h;exact ⟨z,_,h1,h2,by simp [run_eqGuard,binOp,Op.intArith]⟩
 case h_4=>
  rw [eqK_iff] at h;obtain ⟨rfl,hb,h⟩:=h;rw [Rep] at hu hv;obtain ⟨rfl,_⟩:=hu;obtain ⟨rfl,_⟩:=hv;obtain ⟨z,h1,h2⟩:=arith_ok (c:=c) he h;exact ⟨z,_,h1,h2,by simp [run_eqGuard,binOp,Op.intDiv,out hb]⟩
 case h_5=>
  rw [eqK_iff] at h;obtain ⟨rfl,hb,h⟩:=h;rw [Rep] at hu hv;obtain ⟨rfl,_⟩:=hu;obtain ⟨rfl,_⟩:=hv;refine ⟨_,_,h,by rw [Rep];exact ⟨rfl,(out hb).2⟩,by simp [run_eqGuard,binOp,Op.intDiv,(out hb).1]⟩
 case h_6=>
  rw [eqK_iff] at h;obtain ⟨rfl,h⟩:=h;rw [Rep] at hu hv;obtain ⟨rfl,_⟩:=hu;obtain ⟨rfl,_⟩:=hv;exact ⟨_,_,h,by rw [Rep],by simp [run_eqGuard,binOp,Op.intCmp]⟩
 case h_7=>
  rw [eqK_iff] at h;obtain ⟨rfl,h⟩:=h;rw [Rep] at hu hv;obtain ⟨rfl,_⟩:=hu;obtain ⟨rfl,_⟩:=hv;exact ⟨_,_,h,by rw [Rep],by simp [run_eqGuard,binOp,Op.intCmp]⟩
 case h_8=>
  rw [eqK_iff] at h;obtain ⟨rfl,h⟩:=h;rw [Rep] at hu hv;obtain ⟨rfl,_⟩:=hu;obtain ⟨rfl,_⟩:=hv;exact ⟨_,_,h,by rw [Rep],by simp [run_eqGuard,binOp,Op.intCmp]⟩
 case h_9=>
  rw [eqK_iff] at h;obtain ⟨rfl,h⟩:=h;rw [Rep] at hu hv;obtain ⟨rfl,_⟩:=hu;obtain ⟨rfl,_⟩:=hv;exact ⟨_,_,h,by rw [Rep],by simp [run_eqGuard,binOp,Op.intCmp]⟩
 case h_10=>
  rw [eqK_iff] at h;obtain ⟨rfl,h⟩:=h;rw [Rep] at hu hv;obtain ⟨rfl,_⟩:=hu;obtain ⟨rfl,_⟩:=hv;exact ⟨_,_,h,by rw [Rep],by simp [run_eqGuard,binOp,Op.intCmp,beqd]⟩
 case h_11=>
  rw [eqK_iff] at h;obtain ⟨rfl,h⟩:=h;rw [Rep] at hu hv;obtain ⟨rfl,_⟩:=hu;obtain ⟨rfl,_⟩:=hv;exact ⟨_,_,h,by rw [Rep],by simp [run_eqGuard,binOp,Op.intCmp,bne,beqd]⟩
 case h_12=>
  split at h
  ·rename_i hty;rw [Rep] at hu hv;subst hu;subst hv;refine ⟨_,_,h,by rw [Rep],?_⟩;simp [run_eqGuard,binOp,run_eq_bool hty,beqd]
  exact h.elim
 case h_13=>
  split at h
  ·rename_i hty;rw [Rep] at hu hv;subst hu;subst hv;refine ⟨_,_,h,by rw [Rep],?_⟩;simp [run_eqGuard,binOp,run_eq_bool hty,beqd]
  exact h.elim
 case h_14=>
  rw [Rep] at hu hv;obtain ⟨b,rfl,rfl,_⟩:=hu;obtain ⟨b',rfl,rfl,_⟩:=hv;refine ⟨_,_,h,by rw [Rep],?_⟩;simp [run_eqGuard,binOp,Op.stringOp,beqd,Go.ByteArray.toList_eq]
 case h_15=>
  rw [Rep] at hu hv;obtain ⟨b,rfl,rfl,_⟩:=hu;obtain ⟨b',rfl,rfl,_⟩:=hv;refine ⟨_,_,h,by rw [Rep],?_⟩;simp [run_eqGuard,binOp,Op.stringOp,beqd,Go.ByteArray.toList_eq]
 case h_16=>
  rw [Rep] at hu hv;obtain ⟨b,rfl,rfl,_⟩:=hu;obtain ⟨b',rfl,rfl,_⟩:=hv;refine ⟨_,_,h,by rw [Rep],?_⟩;simp [run_eqGuard,binOp,Op.stringOp,Go.ByteArray.toList_eq]
 case h_17=>
  rw [Rep] at hu hv;obtain ⟨b,rfl,rfl,l1⟩:=hu;obtain ⟨b',rfl,rfl,l2⟩:=hv;have l3:=out h.1;refine ⟨_,.string (b++b'),h.2,?_,?_⟩
  ·rw [Rep];exact ⟨_,rfl,by simp [ByteArray.data_append],l3⟩
  have hle:¬ (((b.size+b'.size:Nat):Int) > IntKind.i64.max):=by simp only [List.length_append,Array.length_toList] at l3;have e1:b.data.size=b.size:=rfl;have e2:b'.data.size=b'.size:=rfl;rw [e1,e2] at l3;unfold LMAX at l3;simp [IntKind.max,IntKind.signed,IntKind.bits];omega
  simp only [Sem.run_bind,run_eqGuard (u:=.string b) (by simp) (by simp),Result.andThen,binOp,Op.stringOp];rw [if_neg hle];rfl
 case h_18=>
  split at h
  ·rename_i b heq;obtain ⟨hp,hK⟩:=h;obtain ⟨h1,h2⟩:=eqV_ok (w:=c.w) heq hp hu hv 9998;rcases h2 with ⟨us,vs,rfl,rfl,hm,_⟩|h2
   ·refine ⟨_,.bool b,hK,by rw [Rep],?_⟩;simp only [Sem.run_bind,run_eqGuard_agg c.w .eql t ox oy us vs hm,Result.andThen_ok,run_eql_struct];rw [show (10000:Nat)=9998+2 from rfl,h1];rfl
   unfold eqS at h2;split at h2<;>first|contradiction|(rename_i hx _;cases hx)
  exact h.elim
 case h_19=>
  split at h
  ·rename_i b heq;obtain ⟨hp,hK⟩:=h;obtain ⟨h1,h2⟩:=eqV_ok (w:=c.w) heq hp hu hv 9998;rcases h2 with ⟨us,vs,rfl,rfl,hm,_⟩|h2
   ·refine ⟨_,.bool (!b),hK,by rw [Rep],?_⟩;simp only [Sem.run_bind,run_eqGuard_agg c.w .neq t ox oy us vs hm,Result.andThen_ok,run_neq_struct];rw [show (10000:Nat)=9998+2 from rfl,h1];rfl
   unfold eqS at h2;split at h2<;>first|contradiction|(rename_i hx _;cases hx)
  exact h.elim
 case h_20=>
  split at h
  ·rename_i hty;rw [Rep] at hu hv;subst hu;subst hv;refine ⟨_,_,h,by rw [Rep],?_⟩;simp [run_eqGuard,binOp,run_eq_nil hty]
  exact h.elim
 case h_21=>
  split at h
  ·rename_i hty;rw [Rep] at hu hv;subst hu;subst hv;refine ⟨_,_,h,by rw [Rep],?_⟩;simp [run_eqGuard,binOp,run_eq_nil hty]
  exact h.elim
 case h_22=>
  split at h
  ·rename_i hty;simp only [Rep] at hu hv;subst hv;obtain ⟨a,cap,rfl,_⟩:=hu;refine ⟨_,_,h,by rw [Rep],?_⟩;simp [run_eqGuard,binOp,run_eq_nil hty]
  exact h.elim
 case h_23=>
  split at h
  ·rename_i hty;simp only [Rep] at hu hv;subst hv;obtain ⟨a,cap,rfl,_⟩:=hu;refine ⟨_,_,h,by rw [Rep],?_⟩;simp [run_eqGuard,binOp,run_eq_nil hty]
  exact h.elim
 case h_24=>
  split at h
  ·rename_i hty;have hne:=out h.1;simp only [Rep] at hu hv;subst hv;obtain ⟨base,cap,rfl,h1,h2,h3,h4,h5,_⟩:=hu;have hb:base≠none:=fun e=>hne (List.eq_nil_of_length_eq_zero (by have:=h4 e;omega));obtain ⟨a,rfl⟩:=Option.ne_none_iff_exists'.1 hb;refine ⟨_,_,h.2,by rw [Rep],?_⟩;simp [run_eqGuard,binOp,run_eq_nil hty]
  exact h.elim
 case h_25=>
  split at h
  ·rename_i hty;have hne:=out h.1;simp only [Rep] at hu hv;subst hv;obtain ⟨base,cap,rfl,h1,h2,h3,h4,h5,_⟩:=hu;have hb:base≠none:=fun e=>hne (List.eq_nil_of_length_eq_zero (by have:=h4 e;omega));obtain ⟨a,rfl⟩:=Option.ne_none_iff_exists'.1 hb;refine ⟨_,_,h.2,by rw [Rep],?_⟩;simp [run_eqGuard,binOp,run_eq_nil hty]
  exact h.elim
 case h_26=>
  rw [Rep] at hu hv;obtain ⟨b,rfl,rfl,_⟩:=hu;obtain ⟨b',rfl,rfl,_⟩:=hv;refine ⟨_,_,h,by rw [Rep],?_⟩;simp [run_eqGuard,binOp,Op.stringOp,beqd,Go.ByteArray.toList_eq]
 case h_27=>
  split at h
  ·rename_i hty;simp only [Rep] at hu hv;subst hv;obtain ⟨p,cap,_,_,_,rfl,_⟩:=hu;refine ⟨_,_,h,by rw [Rep],?_⟩;simp [run_eqGuard,binOp,run_eq_nil hty]
  exact h.elim
 case h_28=>
  split at h
  ·rename_i hty;simp only [Rep] at hu hv;subst hv;obtain ⟨b,o,rfl,_⟩:=hu;refine ⟨_,_,h,by rw [Rep],?_⟩;simp [run_eqGuard,binOp,run_eq_ptr hty]
  exact h.elim
 case h_29=>
  split at h
  ·rename_i hty;simp only [Rep] at hu hv;subst hv;obtain ⟨b,o,rfl,_⟩:=hu;refine ⟨_,_,h,by rw [Rep],?_⟩;simp [run_eqGuard,binOp,run_eq_ptr hty]
  exact h.elim
 case h_30=>
  split at h
  ·rename_i hty;simp only [Rep] at hu hv;subst hv hu;refine ⟨_,_,h,by rw [Rep],?_⟩;simp [run_eqGuard,binOp,run_eq_ptr hty]
  exact h.elim
 case h_31=>
  split at h
  ·rename_i hty;simp only [Rep] at hu hv;subst hv hu;refine ⟨_,_,h,by rw [Rep],?_⟩;simp [run_eqGuard,binOp,run_eq_ptr hty]
  exact h.elim
 case h_32=>
  rw [Rep] at hu hv;obtain ⟨rfl,_⟩:=hu;obtain ⟨rfl,_⟩:=hv;obtain ⟨⟨⟨rfl,rfl⟩,h1,h2⟩,hK⟩:=(show _/\_ from ⟨out h.1,h.2⟩);refine ⟨_,.int .u64 _,hK,by rw [Rep];exact ⟨rfl,by simp [IntKind.has,IntKind.min,IntKind.max,IntKind.signed,IntKind.bits];omega⟩,?_⟩;have hdv:∀ a:Int,Int.fdiv a ((2:Int) ^ 1)=a / 2:=fun a=>by rw [Int.fdiv_eq_ediv_of_nonneg _ (by decide)];rfl
  simp only [Sem.run_bind,run_eqGuard (u:=.int .u64 _) (by simp) (by simp),Result.andThen_ok,binOp,Op.shift];rw [if_neg (by decide)];exact congrArg (fun z=>Result.ok (Value.int .u64 z) c.w) (hdv _)
 case h_33=>
  rw [Rep] at hu hv;obtain ⟨rfl,_⟩:=hu;obtain ⟨rfl,_⟩:=hv;obtain ⟨⟨⟨rfl,rfl⟩,⟨h1,h2⟩,rfl⟩,hK⟩:=(show _/\_ from ⟨out h.1,h.2⟩);refine ⟨_,.int .u64 0,hK,by rw [Rep];exact ⟨rfl,by simp [IntKind.has,IntKind.min,IntKind.max,IntKind.signed,IntKind.bits]⟩,?_⟩;have:=Int.fdiv_eq_zero_of_lt h1 (show _<(2:Int) ^ 32 from h2);simp only [Sem.run_bind,run_eqGuard (u:=.int .u64 _) (by simp) (by simp),Result.andThen_ok,binOp,Op.shift];rw [if_neg (by omega)];exact congrArg (fun z=>Result.ok (Value.int .u64 z) c.w) this
 case h_34=>
  rw [Rep] at hu hv;obtain ⟨rfl,hk⟩:=hu;obtain ⟨rfl,_⟩:=hv;obtain ⟨⟨⟨rfl,rfl⟩,⟨h1,h2⟩,rfl⟩,hK⟩:=(show _/\_ from ⟨out h.1,h.2⟩);refine ⟨_,_,hK,by rw [Rep];exact ⟨rfl,hk⟩,?_⟩;have:=and_mask h1 h2;simp only [Sem.run_bind,run_eqGuard (u:=.int .u64 _) (by simp) (by simp),Result.andThen_ok,binOp,Op.intBits];simp only [ne_eq,not_true_eq_false,if_false,Sem.run_pure];exact congrArg (fun z=>Result.ok (Value.int .u64 z) c.w) this
 case h_35=>exact h.elim
theorem zeroV_ok {c:Cx} {t:TypeId} {z:AV} (h:zeroV P t=some z):∃ v,(zeroValue t).run P w=.ok v w/\Rep c z v:=by
 unfold zeroV at h;cases hi:P.info? t with
 | none=>simp [hi] at h
 | some i=>
   simp only [hi] at h;split at h
   ·rename_i us hz;split at h<;>try contradiction
    rename_i l hl;cases h
    refine ⟨.agg us,by simp [zeroValue,typeInfo,hi,hz],?_⟩;rw [Rep];refine ⟨us,rfl,?_,ofVals_rep c hl⟩
    have one:∀ (vs:List Value) (xs:List AV),ofVals vs=some xs->∀ u∈vs,u.oneCell'=true:=by
     intro vs;induction vs with
     | nil=>intro xs _ u hu;cases hu
     | cons v vs ih=>
       intro xs hx u hu;unfold ofVals at hx;split at hx<;>try contradiction
       rename_i a hv;split at hx<;>try contradiction
       rename_i b hr;rcases List.mem_cons.1 hu with rfl|hu
       ·unfold ofVal at hv;split at hv<;>first|rfl|contradiction
       exact ih _ hr u hu
    intro u hu;exact one us.toList l hl u (by simpa using hu)
   ·rename_i v hne hz;exact ⟨v,by simp [zeroValue,typeInfo,hi,hz],ofVal_rep c h⟩
   cases h
theorem okTup_ok {c:Cx} {ok f:Bool} {v:AV} {s:Value} (h:Rep c v s):Rep c (okTup ok v f) (if ok then .tuple #[s,.bool f] else s):=by
 cases ok with
 | true=>simp only [okTup,Rep,if_true];exact ⟨_,rfl,by simp only [RepVs];exact ⟨s,[.bool f],rfl,h,.bool f,[],rfl,by rw [Rep],rfl⟩⟩
 | false=>simpa [okTup] using h
theorem run_lookup' {c:Cx} {t kt et:TypeId} {k z v:AV} {u:Value} {f ok:Bool} {r:Nat} {es:List (AV × AV)} {ents:Array MapEntry} {cl:Nat} (ht:P.underlying t=some (.map kt et)) (hk:keyFits P kt k) (hu:Rep c k u)
  (hz:zeroV P et=some z) (hb:c.w.heap[r]?=some (.map ents cl)) (he:EntsRep c es ents.toList) (hm:mlook P kt k es z=some (v,f)) :
  ∃ s,(Instr.lookup t (.map (some r)) u ok).run P c.w=.ok s c.w/\Rep c (okTup ok v f) s:=by
 obtain ⟨zv,hz1,hz2⟩:=zeroV_ok (c:=c) (w:=c.w) hz;have hck:=run_checkKey' (w:=c.w) hk hu ents.isEmpty 9998;unfold mlook at hm;split at hm
 ·rename_i v' hg;cases hm
  obtain ⟨res,h1,j,e,rfl,h3,h4,_⟩:=run_findKey' (w:=c.w) hk hu he hg;refine ⟨_,?_,okTup_ok h4⟩;simp only [Instr.lookup,Sem.run_bind,run_und ht,Result.andThen_ok,getObj];simp [Sem.run,hb,hck,h1]
 ·rename_i hg;cases hm
  obtain ⟨res,h1,rfl,_⟩:=run_findKey' (w:=c.w) hk hu he hg;refine ⟨_,?_,okTup_ok hz2⟩;simp only [Instr.lookup,Sem.run_bind,run_und ht,Result.andThen_ok,getObj];simp [Sem.run,hb,hck,h1,hz1]
 cases hm
theorem run_lookup_nil {c:Cx} {t kt et:TypeId} {k z:AV} {u:Value} {ok:Bool} (ht:P.underlying t=some (.map kt et)) (hk:keyFits P kt k) (hu:Rep c k u)
  (hz:zeroV P et=some z):∃ s,(Instr.lookup t (.map none) u ok).run P c.w=.ok s c.w/\Rep c (okTup ok z false) s:=by
 obtain ⟨zv,hz1,hz2⟩:=zeroV_ok (c:=c) (w:=c.w) hz;have hck:=run_checkKey' (w:=c.w) hk hu true 9998;obtain ⟨res,h1,rfl,_⟩:=run_findKey' (w:=c.w) (es:=[]) (ents:=#[]) (r:=none) hk hu (by simp [EntsRep]) (by simp [mget]);refine ⟨_,?_,okTup_ok hz2⟩;simp only [Instr.lookup,Sem.run_bind,run_und ht,Result.andThen_ok];simp at h1;simp [hck,h1,hz1]
end Go.Abs
