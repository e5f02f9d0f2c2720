/- Small laws for the walks and contracts of functions; each theorem names its conditions. -/
import Derived.Test.YtdjdbggpgmddnaaGreatN22
import Derived.RangeFuncLeaves
import Derived.RangeFuncRecord
/-
 The abstract layer,part Pr: ranges over a function: the loop's record as an own object,rounds,the statement,and functions that leave with a mark.
-/
set_option linter.unusedVariables false
set_option linter.unusedSimpArgs false
namespace Go.Abs
open Go
variable {P:Program} {n:Nat} {X:Nat->Prop}
theorem raw_store {l1 l2:Heap} {k b:Nat} {o o':Obj} {S:AV->Value->Prop} {g0:Gh} {w:World} (hc:CW X g0 (l1++(k,.raw b o S)::l2) w) (ho':∀ cc t f,o'≠.cells cc t f) :
  w.heap[b]?=some o/\CW X g0 (l1++(k,.raw b o' S)::l2) (w.putObj b o')/\Step X g0 (l1++(k,.raw b o S)::l2) w g0 (l1++(k,.raw b o' S)::l2) (w.putObj b o'):=by
 obtain ⟨hp,ho,hb,hne,hS⟩:=hc.obj k (.raw b o S) (by simp);simp only at hp ho hb;have hlt:b<w.heap.size:=(Array.getElem?_eq_some_iff.1 hb).1;have hoth:∀ blk,blk≠b->(w.putObj b o').heap[blk]?=w.heap[blk]?:=fun blk hne=>World.putObj_heap_other hne;have hbk:k∈keys (l1++(k,.raw b o S)::l2):=by rw [keys_mem];exact .inl rfl
 have hst:Step X g0 (l1++(k,.raw b o S)::l2) w g0 (l1++(k,.raw b o' S)::l2) (w.putObj b o'):=by
  refine ⟨rfl,⟨rfl,Nat.le_refl _⟩,rfl,by simp,fun _ _ e=>e,fun _ _ _ e _=>e,fun _ _ _ e _=>e,fun _ _ e=>e,?_,?_,?_⟩
  ·intro blk hlt hn;have hne:blk≠b:=fun e=>hn k 0 (e ▸ ho) hbk;refine ⟨hoth blk hne,fun k s hk hm=>hn k s hk ?_⟩;rw [keys_mem] at hm ⊢;exact hm
  ·intro blk k s hk hm dd tt ff hdd;by_cases e:blk=b
   ·subst e;rw [hb] at hdd;exact absurd (Option.some.inj hdd) (hne _ _ _)
   exact ⟨dd,(hoth blk e).trans hdd,rfl,fun _ _=>rfl⟩
  intro blk k s hk _ k' s' hk' _;rw [hk] at hk';cases hk';exact Nat.le_refl _
 refine ⟨hb,?_,hst⟩;refine hc.replace hst (fun blk k s hk=>by have:=hc.own _ _ _ hk;simpa using this) (.inl rfl) (fun k hk=>.inr hk) (fun blk s k hk=>.inr ⟨blk,s,hk⟩) ?_ ?_
 ·intro blk k' s hk hm
  have hne:blk≠b:=by
   intro e;rw [e,ho] at hk;cases hk
   exact hc.notmem hm
  exact ⟨hoth blk hne,rfl⟩
 exact ⟨hp,ho,World.putObj_heap_same hlt,ho',fun v u hs=>Rep.mono (Step.le hst) _ _ (hS v u hs)⟩
theorem CW.newRaw {g0:Gh} {h:Heap} {w:World} (hc:CW X g0 h w) (o:Obj) (ho:∀ cc t f,o≠.cells cc t f) (S:AV->Value->Prop) (hS:∀ v u,S v u->Rep ⟨g0,live X h,w⟩ v u) :
  ∃ k g',CW X g' ((k,.raw w.heap.size o S)::h) (w.alloc o)/\Step X g0 h w g' ((k,.raw w.heap.size o S)::h) (w.alloc o):=by
 obtain ⟨k,f1,f2,st,mk⟩:=hc.newAt o 0;refine ⟨k,_,mk _ ⟨by simp [Gh.set],by simp [Gh.set],heap_alloc_new w o,ho,fun v u hs=>?_⟩,st _⟩;exact Rep.mono (Step.le (st _)) _ _ (hS v u hs)
def FW (ro:Option Nat):Fence:={ Fence.wide with round:=ro }
theorem callsIn_FW {ro:Option Nat} {m:Nat} {f:FuncId} {us:Array Value} {w:World} {R:Ending->World->Prop}:CallsIn (FW ro) m P f us w R↔Calls P f us w R:=
 (callsIn_wide (n:=m):CallsIn Fence.wide m P f us w R↔_)
theorem stepsIn_FW {ro:Option Nat} {m m':Machine}:StepsIn (Machine.fenced P (FW ro)) P m m'↔Steps P m m':=(stepsIn_wide:StepsIn (Machine.fenced P Fence.wide) P m m'↔_)
def thenIn (ro:Option Nat) (P:Program) (ops:Array Oper) (Q:Exit->Act->World->Prop) (l2:List Nat):Exit->Act->World->Prop
 | .normal,a,w=>wpOpsIn (FW ro) 0 P ops Q l2 a w
 | e,a,w=>Q e a w
theorem upon_in {ro:Option Nat} {o:Oper} {a:Act} {next next':Act->World->Prop} {Q Q':Exit->Act->World->Prop} (hn:∀ a w,next a w->next' a w) (hq:∀ c a w,Q (.panic c) a w->Q' (.panic c) a w) (hout:∀ a w,¬ Q .outgrown a w)
  (hrow:∀ row us w' R,Rows P row us w' R->RowsIn (FW ro) (0 - 1) P row us w' R) {r:Result Next} (h:o.upon P a next Q r):o.uponIn (FW ro) 0 P a next' Q' r:=by
 unfold Oper.upon at h;split at h
 ·exact hn _ _ h
 ·exact hn _ _ h
 ·exact hn _ _ h
 ·refine ⟨(fun hd=>by cases hd),callsIn_FW.2 (Calls.mono h fun e w' he=>?_)⟩;cases e with
  | returned v=>exact hn _ _ he
  | panicked c=>exact hq _ _ _ he
  | outgrown=>obtain ⟨a0,w0,hh⟩:=he;exact absurd hh (hout _ _)
 ·exact ⟨(fun hd=>by cases hd),(hrow _ _ _ _ h).mono fun v w' hh=>hn _ _ hh⟩
 ·exact hq _ _ _ h
 exact h.elim
theorem rowsIn_FW {ro:Option Nat} {m:Nat} {row:String} {us:Array Value} {w:World} {R:Value->World->Prop} (h:Rows P row us w R):RowsIn (FW ro) m P row us w R:=by intro c cs _;obtain ⟨v,w',hR,hs⟩:=h c cs;exact ⟨v,w',hR,stepsIn_FW.2 hs⟩
theorem wpOps_in {ro:Option Nat} {ops:Array Oper} {Q:Exit->Act->World->Prop} (hout:∀ a w,¬ Q .outgrown a w) (hdef:∀ (i:Nat) (o:Oper),ops[i]?=some o->∀ c,o.op≠.defer c) (l2:List Nat) :
  ∀ (l:List Nat) (a:Act) (w:World),wpOps P ops (thenIn ro P ops Q l2) l a w->wpOpsIn (FW ro) 0 P ops Q (l++l2) a w
 | [],a,w,h=>h
 | i::rest,a,w,h=>by
   have hout':∀ a w,¬ thenIn ro P ops Q l2 .outgrown a w:=hout;simp only [List.cons_append];unfold wpOps at h;unfold wpOpsIn;split at h
   ·rename_i ho;simp only [ho];exact wpOps_in hout hdef l2 rest a w h
   rename_i o ho;simp only [ho];split at h
   ·rename_i hw;rw [if_pos hw];rcases h with h|⟨_,a0,w0,hq⟩
    ·refine ⟨fun _ _=>trivial,?_⟩;rw [Oper.semAt_eq _ _ _ (hdef i o ho)];exact upon_in (fun a w hh=>wpOps_in hout hdef l2 rest a w hh) (fun c a w hh=>hh) hout' (fun row us w' R hh=>rowsIn_FW hh) h
    exact absurd hq (hout' _ _)
   rename_i hw;rw [if_neg hw];exact ⟨fun _ _=>trivial,wpOps_in hout hdef l2 rest _ w h⟩
structure HI (P:Program) (n:Nat) (X:Nat->Prop) (ro:Option Nat) (c:Code) (Q:Ex->Regs->Heap->Prop) (r:Regs) (h:Heap):Prop where
 holds:∀ g a w,Conc n X g r h a w->c.wpIn (FW ro) 0 P (OutA n X g h w Q) a w
theorem outA_out {g:Gh} {h:Heap} {w:World} {Q:Ex->Regs->Heap->Prop} (a:Act) (w':World):¬ OutA n X g h w Q .outgrown a w':=by rintro ⟨ex,g',r',h',he,_⟩;cases ex<;>cases he
theorem outA_trans {g g1:Gh} {h h1:Heap} {w w1:World} {Q:Ex->Regs->Heap->Prop} (own:∀ b k s,g.ow b=some (k,s)->b<w.heap.size) (hst:Step X g h w g1 h1 w1) {e:Exit} {a:Act} {w':World} (ho:OutA n X g1 h1 w1 Q e a w'):OutA n X g h w Q e a w':=by obtain ⟨ex,g2,r2,h2,rfl,hQ,hc,hst2⟩:=ho;exact ⟨ex,g2,r2,h2,rfl,hQ,hc,hst.trans own hst2⟩
variable {ro:Option Nat}
def noDef (ops:Array Oper):Bool:=ops.toList.all fun o=>match o.op with|.defer _=>false|_=>true
theorem noDef_ok {ops:Array Oper} (h:noDef ops=true) (i:Nat) (o:Oper) (ho:ops[i]?=some o) (c:Call):o.op≠.defer c:=by intro e;unfold noDef at h;rw [List.all_eq_true] at h;have:=h o (by rw [Array.mem_toList_iff];exact Array.mem_of_getElem? ho);rw [e] at this;cases this
theorem HI.region {id:Nat} {ops:Array Oper} {Q:Ex->Regs->Heap->Prop} {r:Regs} {h:Heap} (hd:noDef ops=true) (hr:RO P n X ops Q r h):HI P n X ro (.region id ops false) Q r h:=by
 refine ⟨fun g a w hc=>wpIn_region ?_⟩;have:=wpOps_in (P:=P) (ro:=ro) (ops:=ops) (Q:=OutA n X g h w Q) outA_out (noDef_ok hd) [] (List.range ops.size) a w ?_
 ·rw [List.append_nil] at this;exact this
 have hq:=hr g a w hc;have e:thenIn ro P ops (OutA n X g h w Q) []=OutA n X g h w Q:=by funext e a w;cases e<;>rfl
 rw [e];exact hq
theorem HI.seq {x y:Code} {Q:Ex->Regs->Heap->Prop} {r:Regs} {h:Heap} (hx:HI P n X ro x (fun e r h=>match e with|.normal=>HI P n X ro y Q r h|e=>Q e r h) r h):HI P n X ro (.seq x y) Q r h:=by
 refine ⟨fun g a w hc=>wpIn_seq (wpIn_mono (hx.holds g a w hc) ?_)⟩;rintro e a' w' ⟨ex,g',r',h',rfl,hQ,hc',hst⟩;cases ex with
 | normal=>exact wpIn_mono (HI.holds hQ g' a' w' hc') fun e a w ho=>outA_trans hc.cw.own hst ho
 | exit i=>exact ⟨_,g',r',h',rfl,hQ,hc',hst⟩
 | ret=>exact ⟨_,g',r',h',rfl,hQ,hc',hst⟩
 | pan v=>exact ⟨_,g',r',h',rfl,hQ,hc',hst⟩
theorem HI.cond {x:Operand} {a b:Code} {t:Bool} {Q:Ex->Regs->Heap->Prop} {r:Regs} {h:Heap} (hx:opnd r [] x=some (.bool t)) (ha:t=true->HI P n X ro a Q r h) (hb:t=false->HI P n X ro b Q r h):HI P n X ro (.cond x a b) Q r h:=by refine ⟨fun g ac w hc=>?_⟩;have hr:=hc.opnd (fun e he=>by cases he) hx;simp only [Rep] at hr;exact wpIn_cond_split hr (fun e=>(ha e).holds g ac w hc) (fun e=>(hb e).holds g ac w hc)
theorem HI.ret {Q:Ex->Regs->Heap->Prop} {r:Regs} {h:Heap} (hq:Q .ret r h):HI P n X ro .ret Q r h:=
 ⟨fun g a w hc=>wpIn_ret ⟨.ret,g,r,h,rfl,hq,hc,Step.refl _ _ _ _⟩⟩
theorem HI.exit {i:Nat} {Q:Ex->Regs->Heap->Prop} {r:Regs} {h:Heap} (hq:Q (.exit i) r h):HI P n X ro (.exit i) Q r h:=
 ⟨fun g a w hc=>wpIn_exit ⟨.exit i,g,r,h,rfl,hq,hc,Step.refl _ _ _ _⟩⟩
theorem HI.skip {Q:Ex->Regs->Heap->Prop} {r:Regs} {h:Heap} (hq:Q .normal r h):HI P n X ro .skip Q r h:=
 ⟨fun g a w hc=>wpIn_skip ⟨.normal,g,r,h,rfl,hq,hc,Step.refl _ _ _ _⟩⟩
def inBlk (id:Nat) (Q:Ex->Regs->Heap->Prop):Ex->Regs->Heap->Prop
 | .exit i,r,h=>match Nat.beq i id with
   | true=>Q .normal r h
   | false=>Q (.exit i) r h
 | e,r,h=>Q e r h
theorem HI.block {id:Nat} {c:Code} {Q:Ex->Regs->Heap->Prop} {r:Regs} {h:Heap} (hx:HI P n X ro c (inBlk id Q) r h):HI P n X ro (.block id c) Q r h:=by
 refine ⟨fun g a w hc=>wpIn_block (wpIn_mono (hx.holds g a w hc) ?_)⟩;rintro e a' w' ⟨ex,g',r',h',rfl,hQ,hc',hst⟩;cases ex with
 | normal=>exact ⟨_,g',r',h',rfl,hQ,hc',hst⟩
 | ret=>exact ⟨_,g',r',h',rfl,hQ,hc',hst⟩
 | pan v=>exact ⟨_,g',r',h',rfl,hQ,hc',hst⟩
 | exit i=>
   simp only [inBlk] at hQ;simp only [Ex.toExit,Exit.inBlock];by_cases hi:i=id
   ·rw [if_pos hi];have:Nat.beq i id=true:=by rw [hi];exact Nat.beq_refl _
    rw [this] at hQ;exact ⟨.normal,g',r',h',rfl,hQ,hc',hst⟩
   rw [if_neg hi]
   have:Nat.beq i id=false:=by
    cases hb:Nat.beq i id with
    | false=>rfl
    | true=>exact absurd (Nat.eq_of_beq_eq_true hb) hi
   rw [this] at hQ;exact ⟨.exit i,g',r',h',rfl,hQ,hc',hst⟩
end Go.Abs
/-
 The abstract layer,part Ps: a call of yield;the statement that ranges over a function;functions that hold one.
-/
namespace Go.Abs
open Go
variable {P:Program} {n:Nat} {X:Nat->Prop}
def Yields (P:Program) (l:Nat) (v:AV) (h:Heap) (K:Bool->Heap->Prop):Prop:=∀ (X:Nat->Prop) (g:Gh) (w:World) (u:Value),CW X g h w->Rep ⟨g,live X h,w⟩ v u ->
 ∃ f tmps assign body,(Instr.yield l #[u]).run P w=.ok (.round l f tmps assign body) w /\
  RoundIn (FW none) 0 P l f tmps assign body w fun e w'=>∃ b g' h',e=.returned (.bool b)/\K b h'/\CW X g' h' w'/\Step X g h w g' h' w'
theorem range_split (i:Nat) {ops:Array Oper} (hlt:i<ops.toList.length):List.range ops.size=List.range' 0 (ops.toList.take i).length++(i::List.range' (i+1) (ops.toList.drop (i+1)).length):=by have hlen:ops.toList.length=ops.size:=(by simp);rw [List.length_take,List.length_drop,Nat.min_eq_left (by omega),List.range_eq_range',hlen,<- List.range'_succ];have:=List.range'_append_1 (s:=0) (m:=i) (n:=ops.size - (i+1)+1);rw [Nat.zero_add] at this;rw [this];congr 1;omega
theorem region_yield {c1 c2 c:Cfg} {F:Func} {E:En} {p:List Bool} {S:List Fr} {k id:Nat} {ops:Array Oper} {r:Regs} {h:Heap} (hcat:cat F p=.region id ops false) (hnd:noDef ops=true)
  (i:Nat) {o:Oper} {cl:Call} {x y:Operand} (hoi:ops.toList[i]?=some o) (hop:o.op=.call cl) (hcl:cl.callee=.value x) (hargs:cl.args=#[y]) (hgd:o.guard=none)
  (h1:regP P c1 E.n ops.toList (fun r1 h1=>∃ l v,opnd r1 [] x=some (.val (.func (.yield l) #[] #[]))/\opnd r1 [] y=some v /\
    Yields P l v h1 fun b h2=>setP E.n o.dst [] (.bool b) r1 fun r2=>regP P c2 E.n ops.toList (run P c F E k (.ex .normal) S) (ops.toList.drop (i+1)) r2 h2) (ops.toList.take i) r h) :
  Holds P E.n E.X (cat F p) (fun e r h=>run P c F E k (.ex e) S r h) r h:=by
 rw [hcat];refine ⟨fun g a w hc=>(wpIn_wide (n:=0)).1 (wpIn_region ?_)⟩;have hlt:i<ops.toList.length:=(List.getElem?_eq_some_iff.1 hoi).1;rw [range_split i hlt];have hops:ops.toList.toArray=ops:=(by simp);refine wpOps_in (ro:=none) (Q:=OutA E.n E.X g h w fun e r h=>run P c F E k (.ex e) S r h) outA_out (noDef_ok hnd) _ _ a w ?_
 have:=regP_pre (Q:=thenIn none P ops (OutA E.n E.X g h w fun e r h=>run P c F E k (.ex e) S r h) (i::List.range' (i+1) (ops.toList.drop (i+1)).length)) [] (ops.toList.take i) 0 r h g a w
  (fun j x hx=>by rw [List.getElem?_take] at hx;split at hx;· rw [Nat.zero_add];exact hx
                  cases hx) h1 hc ?_
 ·rw [hops,List.append_nil] at this;exact this
 rintro r1 h1' g1 a1 w1 ⟨l,v,hx,hy,hY⟩ hc1 hst1;show wpOpsIn (FW none) 0 P ops _ (i::_) a1 w1;have hio:ops[i]?=some o:=(by simpa using hoi);unfold wpOpsIn;simp only [hio];rw [if_pos (wanted_none hgd)];refine ⟨fun _ _=>trivial,?_⟩;have hg1:holdsC a1 []:=fun e he=>by cases he
 have hrx:=hc1.opnd hg1 hx;have hry:=hc1.opnd hg1 hy;simp only [Rep] at hrx;obtain ⟨hrx,_⟩:=hrx;obtain ⟨f,tmps,assign,body,hyr,hround⟩:=hY E.X g1 w1 _ hc1.cw hry;obtain ⟨dst,op,ty,pos,aft,gd⟩:=o;obtain ⟨callee,args,ats⟩:=cl;simp only at hop hgd hcl hargs;subst hop hcl hargs;have hrun:(execOp a1.eval ⟨dst,.call ⟨.value x,#[y],ats⟩,ty,pos,aft,gd⟩).run P w1=.ok (.round l f tmps assign body) w1:=by have:(execOp a1.eval ⟨dst,.call ⟨.value x,#[y],ats⟩,ty,pos,aft,gd⟩).run P w1=(Instr.yield l #[a1.eval y]).run P w1:=(by simp [execOp,resolve,Go.invoke,hrx,Deferred.ofValue,Sem.run_bind,Result.andThen]);rw [this,hyr]
 show Oper.uponIn _ _ _ _ _ _ _ (Sem.run P (Oper.semAt none _ _) w1);rw [Oper.semAt_none,hrun,Oper.uponIn_round];refine ⟨(fun hd=>by cases hd),hround.mono ?_⟩;rintro e w2 ⟨b,g2,h2,rfl,hK,hcw,hst2⟩;obtain ⟨r2,hK,hc2⟩:=setP_ok (u:=.bool b) hc1 hcw hst2 hK (fun _=>⟨by simp,by simp [Rep]⟩) (fun hh=>absurd hg1 hh)
 have hfin:=regP_pre (Q:=thenIn none P ops (OutA E.n E.X g h w fun e r h=>run P c F E k (.ex e) S r h) []) [] (ops.toList.drop (i+1)) (i+1) r2 h2 g2 _ w2
  (fun j x hx=>by rw [List.getElem?_drop] at hx;exact hx) hK hc2 (fun r' h' g' a' w' hR hc' hst=>⟨.normal,g',r',h',rfl,hR,hc',hst1.trans hc.cw.own (hst2.trans hc1.cw.own hst)⟩)
 rw [hops] at hfin;have:=wpOps_in (ro:=none) outA_out (noDef_ok hnd) [] _ _ w2 (by rw [List.append_nil] at hfin;exact hfin);rw [List.append_nil] at this;exact this
def OutX (n:Nat) (X:Nat->Prop) (g:Gh) (h:Heap) (w:World) (Q:Ex->Regs->Heap->List Deferred->Prop) (e:Exit) (a':Act) (w':World):Prop:=
 ∃ ex g' r' h' D a0,e=Ex.toExit ex/\Q ex r' h' D/\Conc n X g' r' h' a0 w'/\a'=Act.dfr a0 D/\Step X g h w g' h' w'
structure HX (P:Program) (n:Nat) (X:Nat->Prop) (D:List Deferred) (c:Code) (Q:Ex->Regs->Heap->List Deferred->Prop) (r:Regs) (h:Heap):Prop where
 holds:∀ g a w,Conc n X g r h a w->c.wp P (OutX n X g h w Q) (Act.dfr a D) w
variable {D:List Deferred}
theorem HX.region {id:Nat} {ops:Array Oper} {Q:Ex->Regs->Heap->List Deferred->Prop} {r:Regs} {h:Heap} (hr:RO P n X ops (fun e r h=>Q e r h D) r h):HX P n X D (.region id ops false) Q r h:=by refine ⟨fun g a w hc=>wp_mono (wp_region (wpOps_dfr (D:=D) _ _ _ (hr g a w hc))) ?_⟩;rintro e a' w' ⟨a0,⟨ex,g',r',h',rfl,hQ,hc',hst⟩,rfl⟩;exact ⟨ex,g',r',h',D,a0,rfl,hQ,hc',rfl,hst⟩
theorem HX.seq {x y:Code} {Q:Ex->Regs->Heap->List Deferred->Prop} {r:Regs} {h:Heap} (hx:HX P n X D x (fun e r h D'=>match e with|.normal=>HX P n X D' y Q r h|e=>Q e r h D') r h):HX P n X D (.seq x y) Q r h:=by
 refine ⟨fun g a w hc=>?_⟩;refine wp_seq (wp_mono (hx.holds g a w hc) ?_);rintro e a' w' ⟨ex,g',r',h',D',a0,rfl,hQ,hc',rfl,hst⟩;cases ex with
 | normal=>
   refine wp_mono (HX.holds hQ g' a0 w' hc') ?_;rintro e a2 w2 ⟨ex,g2,r2,h2,D2,a1,rfl,hQ2,hc2,rfl,hst2⟩;exact ⟨ex,g2,r2,h2,D2,a1,rfl,hQ2,hc2,rfl,hst.trans hc.cw.own hst2⟩
 | exit i=>exact ⟨_,g',r',h',D',a0,rfl,hQ,hc',rfl,hst⟩
 | ret=>exact ⟨_,g',r',h',D',a0,rfl,hQ,hc',rfl,hst⟩
 | pan v=>exact ⟨_,g',r',h',D',a0,rfl,hQ,hc',rfl,hst⟩
theorem HX.cond {x:Operand} {a b:Code} {t:Bool} {Q:Ex->Regs->Heap->List Deferred->Prop} {r:Regs} {h:Heap} (hx:opnd r [] x=some (.bool t)) (ha:t=true->HX P n X D a Q r h) (hb:t=false->HX P n X D b Q r h):HX P n X D (.cond x a b) Q r h:=by
 refine ⟨fun g ac w hc=>?_⟩;have hg0:holdsC ac []:=fun e he=>by cases he
 have hr:=hc.opnd hg0 hx;simp only [Rep] at hr;have hr':(Act.dfr ac D).eval x=.bool t:=by rw [eval_dfr];exact hr
 exact wp_cond_split hr' (fun e=>(ha e).holds g ac w hc) (fun e=>(hb e).holds g ac w hc)
theorem HX.ret {Q:Ex->Regs->Heap->List Deferred->Prop} {r:Regs} {h:Heap} (hq:Q .ret r h D):HX P n X D .ret Q r h:=
 ⟨fun g a w hc=>wp_ret ⟨.ret,g,r,h,D,a,rfl,hq,hc,rfl,Step.refl _ _ _ _⟩⟩
theorem HX.skip {Q:Ex->Regs->Heap->List Deferred->Prop} {r:Regs} {h:Heap} (hq:Q .normal r h D):HX P n X D .skip Q r h:=
 ⟨fun g a w hc=>wp_skip ⟨.normal,g,r,h,D,a,rfl,hq,hc,rfl,Step.refl _ _ _ _⟩⟩
theorem HX.block {id:Nat} {c:Code} {Q:Ex->Regs->Heap->List Deferred->Prop} {r:Regs} {h:Heap} (hx:HX P n X D c (fun e r h D'=>inBlk id (fun e r h=>Q e r h D') e r h) r h):HX P n X D (.block id c) Q r h:=by
 refine ⟨fun g a w hc=>wp_block (wp_mono (hx.holds g a w hc) ?_)⟩;rintro e a' w' ⟨ex,g',r',h',D',a0,rfl,hQ,hc',rfl,hst⟩;cases ex with
 | normal=>exact ⟨_,g',r',h',D',a0,rfl,hQ,hc',rfl,hst⟩
 | ret=>exact ⟨_,g',r',h',D',a0,rfl,hQ,hc',rfl,hst⟩
 | pan v=>exact ⟨_,g',r',h',D',a0,rfl,hQ,hc',rfl,hst⟩
 | exit i=>
   simp only [inBlk] at hQ;simp only [Ex.toExit,Exit.inBlock];by_cases hi:i=id
   ·rw [if_pos hi];have:Nat.beq i id=true:=by rw [hi];exact Nat.beq_refl _
    rw [this] at hQ;exact ⟨.normal,g',r',h',D',a0,rfl,hQ,hc',rfl,hst⟩
   rw [if_neg hi]
   have:Nat.beq i id=false:=by
    cases hb:Nat.beq i id with
    | false=>rfl
    | true=>exact absurd (Nat.eq_of_beq_eq_true hb) hi
   rw [this] at hQ;exact ⟨.exit i,g',r',h',D',a0,rfl,hQ,hc',rfl,hst⟩
def mkD (d:Nat):Deferred:={ target:=.collected d,args:=#[] }
def rawD (kd d:Nat):Nat × Ob:=(kd,.raw d (.deferred (some [])) fun _ _=>False)
def Iter (P:Program) (gf:FuncId) (caps:List AV) (ks:List AV):Prop:=
 ∀ (yl:Nat) (JJ:Nat->Heap->Prop) (JJx:Heap->Prop),(∀ i k H,ks[i]?=some k->JJ i H->Yields P yl k H fun b H'=>(b=true/\JJ (i+1) H')\/(b=false/\JJx H')) ->
  ∀ H,JJ 0 H->ACalls P gf (.val (.func (.yield yl) #[] #[])::caps) H fun v H'=>JJ ks.length H'\/JJx H'
def Body (P:Program) (n p:Nat) (assign body:Code) (r:Regs) (J:Heap->Prop) (Jx:Heap->Prop) (k:AV) (H:Heap):Prop:=
 ∀ (X':Nat->Prop) (l:Nat),setP n (some p) [] k r fun r2=>HI P n X' (some l) assign (fun ex r3 h3=>ex=.normal/\HI P n X' (some l) body (fun ex r4 h4=>match ex with
  | .normal=>J h4
  | .ret=>Jx h4
  | _=>False) r3 h3) r2 H
end Go.Abs
/-
 The abstract layer,part Pt: the statement that ranges over a function;functions that hold one.
-/
namespace Go.Abs
open Go
variable {P:Program} {n:Nat} {X:Nat->Prop}
theorem sub_nodup {h h':Heap} (hs:List.Sublist h' h) (hn:(keys h).Nodup):(keys h').Nodup:=(hs.map _).nodup hn
theorem Conc.move {X X2:Nat->Prop} {g g2:Gh} {r:Regs} {h h2:Heap} {a:Act} {w w2:World} (hc:Conc n X g r h a w) (hcw:CW X2 g2 h2 w2) (hle:Cx.Le ⟨g,live X h,w⟩ ⟨g2,live X2 h2,w2⟩):Conc n X2 g2 r h2 a w2:=by refine ⟨hcw,fun t gg v hl=>⟨fun hh=>?_,(hc.regs t gg v hl).2⟩,hc.defers,hc.size⟩;obtain ⟨e,u,hu,hr⟩:=(hc.regs t gg v hl).1 hh;exact ⟨e,u,hu,Rep.mono hle _ _ hr⟩
theorem live_eq {X:Nat->Prop} {h h2:Heap}:live (fun k=>X k\/k∈keys h2) h=live X (h++h2):=live_shift h h2
def mkR (fn:FuncId) (tmps:Array Value) (p:Nat) (assign body:Code) (d:Nat) (st:LoopState) (pe:Option Code):Loop:={ state:=st,pending:=pe,fn,tmps:=tmps,params:=#[p],assign,body,defers:=d }
def rawL (kl l:Nat) (R:Loop) (S:AV->Value->Prop):Nat × Ob:=(kl,.raw l (.loop R) S)
def keepsR (r:Regs) (tmps:Array Value):AV->Value->Prop:=fun v u=>∃ t,lookR r t=some ([],v)/\tmps[t]?=some u
theorem look_mem:∀ {r:Regs} {t:Nat} {gg:G} {v:AV},lookR r t=some (gg,v)->(t,gg,v)∈r
 | [],_,_,_,h=>by cases h
 | (t',x)::r,t,gg,v,h=>by
   simp only [lookR] at h;cases hb:Nat.beq t' t with
   | true=>rw [hb] at h;cases h;rw [Nat.eq_of_beq_eq_true hb];exact .head _
   | false=>rw [hb] at h;exact .tail _ (look_mem h)
theorem rounds {fn:FuncId} {tmps:Array Value} {p:Nat} {assign body:Code} {d l kl kd:Nat} {r:Regs} (hnr:∀ e∈r,e.2.1=[]) (hsz:tmps.size=n) (hrg:∀ t gg v,lookR r t=some (gg,v)->∃ u,tmps[t]?=some u)
  {S:AV->Value->Prop} (hS:S=keepsR r tmps) {J':Heap->Prop} {Jx:Heap->Prop} {k:AV} {Hb:Heap} (hb:Body P n p assign body r J' Jx k Hb) :
  Yields P l k (Hb++[rawL kl l (mkR fn tmps p assign body d .ready none) S,rawD kd d])
   fun b H'=>(b=true/\∃ h4,J' h4/\H'=h4++[rawL kl l (mkR fn tmps p assign body d .ready none) S,rawD kd d]) \/
    (b=false/\∃ h4,Jx h4/\H'=h4++[rawL kl l (mkR fn tmps p assign body d .done (some .ret)) S,rawD kd d]):=by
 intro X' g' W u hcw hu;obtain ⟨_,_,o3,_,o5⟩:=hcw.obj kl (.raw l (.loop (mkR fn tmps p assign body d .ready none)) S) (by simp [rawL]);simp only at o3 o5;have hy:=run_yield (P:=P) (args:=#[u]) o3 rfl;refine ⟨fn,_,assign,body,hy,roundIn_of_wpIn (F:=FW none) trivial ?_⟩;have hfin:=frame_in hcw;have hlv:=live_eq (X:=X') (h:=Hb) (h2:=[rawL kl l (mkR fn tmps p assign body d .ready none) S,rawD kd d]);have hC0:Conc n (fun k=>X' k\/k∈keys [rawL kl l (mkR fn tmps p assign body d .ready none) S,rawD kd d]) g' r Hb { tmps:=tmps,defers:=[] } W:=by refine ⟨hfin,fun t gg v hl=>?_,rfl,hsz⟩;have hgg:gg=[]:=hnr _ (look_mem hl);subst hgg;refine ⟨fun _=>⟨by simp,?_⟩,fun hh=>absurd (fun e he=>by cases he) hh⟩;obtain ⟨u',hu'⟩:=hrg t [] v hl;refine ⟨u',hu',?_⟩;have:=o5 v u' (by rw [hS];exact ⟨t,hl,hu'⟩);rw [<- hlv] at this;exact this
 rw [<- hlv] at hu;obtain ⟨r2,hK,hc2⟩:=setP_ok (u:=u) hC0 hfin (Step.refl _ _ _ _) (hb _ l) (fun _=>⟨by simp,hu⟩) (fun hh=>absurd (fun e he=>by cases he) hh);have hact:∀ t:Array Value,(((#[p]:Array Nat).zip #[u]).foldl (fun (tmps:Array Value) (x:Nat × Value)=>tmps.setIfInBounds x.1 x.2) t)=t.setIfInBounds p u:=by intro t;simp
 show assign.wpIn _ 0 P _ { tmps:=(((#[p]:Array Nat).zip #[u]).foldl (fun (tmps:Array Value) (x:Nat × Value)=>tmps.setIfInBounds x.1 x.2) tmps),defers:=[] } W;rw [hact];refine wpIn_mono (hK.holds g' _ W hc2) ?_;rintro e a3 w3 ⟨ex,g3,r3,h3,rfl,⟨rfl,hB⟩,hc3,hst3⟩;obtain ⟨hcw3,hst3'⟩:=frame_out hcw hc3.cw hst3;obtain ⟨b1,b2,b3⟩:=raw_store (l1:=h3) (l2:=[rawD kd d]) (k:=kl) (o':=.loop (mkR fn tmps p assign body d .busy none)) hcw3 (by simp);refine ⟨_,run_beginRound b1 rfl,?_⟩;have hf3:=frame_in (h:=h3) (h2:=[rawL kl l (mkR fn tmps p assign body d .busy none) S,rawD kd d]) b2;have hc4:Conc n (fun k=>X' k\/k∈keys [rawL kl l (mkR fn tmps p assign body d .busy none) S,rawD kd d]) g3 r3 h3 a3 (w3.putObj l (.loop (mkR fn tmps p assign body d .busy none))):=by refine hc3.move hf3 ?_;have:=Step.le b3;have e1:=live_eq (X:=X') (h:=h3) (h2:=[rawL kl l (mkR fn tmps p assign body d .ready none) S,rawD kd d]);have e2:=live_eq (X:=X') (h:=h3) (h2:=[rawL kl l (mkR fn tmps p assign body d .busy none) S,rawD kd d]);rw [e1,e2];exact this
 refine wpIn_mono (hB.holds g3 a3 _ hc4) ?_;rintro e a5 w5 ⟨ex,g5,r5,h5,rfl,hq,hc5,hst5⟩;obtain ⟨hcw5,hst5'⟩:=frame_out (h:=h3) (h2:=[rawL kl l (mkR fn tmps p assign body d .busy none) S,rawD kd d]) b2 hc5.cw hst5;cases ex with
 | normal=>
   obtain ⟨c1,c2,c3⟩:=raw_store (l1:=h5) (l2:=[rawD kd d]) (k:=kl) (o':=.loop (mkR fn tmps p assign body d .ready none)) hcw5 (by simp);exact ⟨_,_,run_endRound none c1,true,g5,_,rfl,.inl ⟨rfl,h5,hq,rfl⟩,c2,hst3'.trans hcw.own (b3.trans hcw3.own (hst5'.trans b2.own c3))⟩
 | ret=>
   obtain ⟨c1,c2,c3⟩:=raw_store (l1:=h5) (l2:=[rawD kd d]) (k:=kl) (o':=.loop (mkR fn tmps p assign body d .done (some .ret))) hcw5 (by simp);exact ⟨_,_,run_endRound (some .ret) c1,false,g5,_,rfl,.inr ⟨rfl,h5,hq,rfl⟩,c2,hst3'.trans hcw.own (b3.trans hcw3.own (hst5'.trans b2.own c3))⟩
 | exit i=>exact hq.elim
 | pan v=>exact hq.elim
theorem HX.range {g:Operand} {p:Nat} {assign body:Code} {Q:Ex->Regs->Heap->List Deferred->Prop} {r:Regs} {h:Heap} {gf:FuncId} {caps:List AV} {ks:List AV} (hnr:∀ e∈r,e.2.1=[]) (hg:opnd r [] g=some (.fn gf caps)) (hcall:Callable P gf)
  (hit:Iter P gf caps ks) (J:Nat->Heap->Prop) (Jx:Heap->Prop) (h0:J 0 h) (hbody:∀ i k H,ks[i]?=some k->J i H->Body P n p assign body r (J (i+1)) Jx k H)
  (hdone:∀ d kd H,J ks.length H->Q .normal r (H++[rawD kd d]) [mkD d]) (hstop:∀ d kd H,Jx H->Q .ret r (H++[rawD kd d]) [mkD d]) :
  HX P n X [] (.rangeFunc g #[p] assign body) Q r h:=by
 refine ⟨fun g0 a w hc=>(wpIn_wide (n:=0)).1 (wpIn_rangeFunc fun fn _=>?_)⟩;have hda:Act.dfr a []=a:=by have:=hc.defers;unfold Act.dfr;rw [List.append_nil]
 rw [hda];have hg0:holdsC a []:=fun e he=>by cases he
 have hrg:=hc.opnd hg0 hg;simp only [Rep] at hrg;obtain ⟨lb,hgv,hlb⟩:=hrg;obtain ⟨kd,g1,cw1,st1⟩:=hc.cw.newRaw (.deferred (some [])) (by simp) (fun _ _=>False) (fun _ _ hh=>hh.elim);have hc1:=hc.step cw1 st1
 have hS:∀ v u,keepsR r a.tmps v u->Rep ⟨g1,live X (rawD kd w.heap.size::h),w.alloc (.deferred (some []))⟩ v u:=by
  rintro v u ⟨t,hl,hu⟩;obtain ⟨_,u',hu',hr⟩:=(hc1.regs t [] v hl).1 hg0;rw [hu] at hu';cases hu'
  exact hr
 obtain ⟨kl,g2,cw2,st2⟩:=cw1.newRaw (.loop (mkR fn a.tmps p assign body w.heap.size .ready none)) (by simp) (keepsR r a.tmps) hS;have hsz:(w.alloc (.deferred (some []))).heap.size=w.heap.size+1:=(by simp);rw [hsz] at cw2 st2;obtain ⟨W1,hW1⟩:∃ W1,W1=(w.alloc (.deferred (some []))).alloc (.loop (mkR fn a.tmps p assign body w.heap.size .ready none)):=⟨_,rfl⟩;rw [<- hW1] at cw2 st2;have heg:∀ args w,(callFunc gf args).run P w=.ok (.enter gf args) w:=fun args w=>run_call hcall;refine ⟨w.heap.size+1,[mkD w.heap.size],W1,{ target:=.fn (.func gf) lb,args:=#[.func (.yield (w.heap.size+1)) #[] #[]] },W1,gf,#[.func (.yield (w.heap.size+1)) #[] #[]]++lb,W1,?_,?_,fun _ _=>trivial,?_,(fun hd=>by cases hd),?_⟩
 ·rw [hW1];exact run_enterLoop_outer _ _ _ _ _
 ·simp only [resolve,hgv];simp [go_sem]
 ·simp [invoke,go_sem,heg]
 refine (callsIn_FW (ro:=none)).2 ?_;obtain ⟨S,hSe⟩:∃ S,S=keepsR r a.tmps:=⟨_,rfl⟩;rw [<- hSe] at cw2 st2;obtain ⟨HR,hHR⟩:∃ HR:LoopState->Option Code->Heap,HR=fun st pe=>[rawL kl (w.heap.size+1) (mkR fn a.tmps p assign body w.heap.size st pe) S,rawD kd w.heap.size]:=⟨_,rfl⟩
 have hperm:∀ k o,(k,o)∈h++HR .ready none->(k,o)∈(kl,Ob.raw (w.heap.size+1) (.loop (mkR fn a.tmps p assign body w.heap.size .ready none)) S)::(kd,.raw w.heap.size (.deferred (some [])) fun _ _=>False)::h:=by
  intro k o hm;rw [hHR] at hm;simp only [rawL,rawD,List.mem_append,List.mem_cons,List.not_mem_nil,or_false] at hm;simp only [List.mem_cons];rcases hm with hm|hm|hm
  ·exact .inr (.inr hm)
  ·exact .inl hm
  exact .inr (.inl hm)
 have hnd:(keys (h++HR .ready none)).Nodup:=by have:=cw2.nodup;rw [hHR,keys_append];refine (List.Perm.nodup_iff ?_).1 this;show List.Perm (kl::kd::keys h) (keys h++[kl,kd]);exact (List.perm_append_comm (l₁:=[kl,kd]) (l₂:=keys h))
 obtain ⟨cw3,st3⟩:=cw2.sub hperm hnd;have hst03:Step X g0 h w g2 (h++HR .ready none) W1:=st1.trans hc.cw.own (st2.trans cw1.own st3);have hargs:RepVs ⟨g2,live X (h++HR .ready none),W1⟩ (.val (.func (.yield (w.heap.size+1)) #[] #[])::caps) (#[Value.func (.yield (w.heap.size+1)) #[] #[]]++lb).toList:=by simp only [RepVs];refine ⟨Value.func (.yield (w.heap.size+1)) #[] #[],lb.toList,by simp,?_,RepVs.mono (Step.le hst03) _ _ hlb⟩;simp only [Rep];exact ⟨trivial,rfl⟩
 have hA:=(hit (w.heap.size+1) (fun i H=>∃ Hb,J i Hb/\H=Hb++HR .ready none) (fun H=>∃ Hb,Jx Hb/\H=Hb++HR .done (some .ret)) (by
  rintro i k H hk ⟨Hb,hJ,rfl⟩
  have:=rounds (P:=P) (n:=n) (fn:=fn) (tmps:=a.tmps) (p:=p) (assign:=assign) (body:=body) (d:=w.heap.size) (l:=w.heap.size+1) (kl:=kl) (kd:=kd) hnr hc.size
   (fun t gg v hl=>by
     have hgg:gg=[]:=hnr _ (look_mem hl);subst hgg;obtain ⟨_,u',hu',_⟩:=(hc.regs t [] v hl).1 hg0;exact ⟨u',hu'⟩) hSe (hbody i k Hb hk hJ)
  rw [hHR];exact this) (h++HR .ready none) ⟨h,h0,rfl⟩).calls X g2 W1 _ cw3 hargs
 have hA:=hA.resolve_right (by rintro ⟨v,w',hv,_⟩;rw [heg] at hv;cases hv);replace hA:=hA.2;refine Calls.mono hA ?_;rintro e w4 ⟨v,u,g4,h4,rfl,hJ4,cw4,_,st4⟩;rcases hJ4 with ⟨Hb,hJ,rfl⟩|⟨Hb,hJ,rfl⟩
 ·have e1:HR .ready none=[rawL kl (w.heap.size+1) (mkR fn a.tmps p assign body w.heap.size .ready none) S,rawD kd w.heap.size]:=(by rw [hHR]);have cw5:=cw4;rw [e1] at cw5;obtain ⟨c1,c2,c3⟩:=raw_store (l1:=Hb) (l2:=[rawD kd w.heap.size]) (k:=kl) (o':=.loop (mkR fn a.tmps p assign body w.heap.size .exhausted none)) cw5 (by simp);have c3:Step X g4 (Hb++HR .ready none) w4 g4 (Hb++[rawL kl (w.heap.size+1) (mkR fn a.tmps p assign body w.heap.size .exhausted none) S,rawD kd w.heap.size]) (w4.putObj (w.heap.size+1) (.loop (mkR fn a.tmps p assign body w.heap.size .exhausted none))):=by rw [e1];exact c3
  refine ⟨none,_,run_endLoop c1 (by simp [mkR]),?_⟩
  obtain ⟨c4,c5⟩:=c2.sub (h':=Hb++[rawD kd w.heap.size]) (fun k o hm=>by
   simp only [List.mem_append,List.mem_cons,List.not_mem_nil,or_false] at hm ⊢;rcases hm with hm|hm
   ·exact .inl hm
   exact .inr (.inr hm)) (sub_nodup (List.Sublist.append (List.Sublist.refl _) (.cons _ (.refl _))) c2.nodup)
  have hst:=hst03.trans hc.cw.own (st4.trans cw3.own (c3.trans cw4.own c5));exact ⟨.normal,g4,r,_,[mkD w.heap.size],a,rfl,hdone _ _ _ hJ,hc.step c4 hst,by rw [Act.dfr,hc.defers];rfl,hst⟩
 have e1:HR .done (some .ret)=[rawL kl (w.heap.size+1) (mkR fn a.tmps p assign body w.heap.size .done (some .ret)) S,rawD kd w.heap.size]:=(by rw [hHR]);have cw5:=cw4;rw [e1] at cw5;obtain ⟨c1,c2,c3⟩:=raw_store (l1:=Hb) (l2:=[rawD kd w.heap.size]) (k:=kl) (o':=.loop (mkR fn a.tmps p assign body w.heap.size .exhausted (some .ret))) cw5 (by simp);have c3:Step X g4 (Hb++HR .done (some .ret)) w4 g4 (Hb++[rawL kl (w.heap.size+1) (mkR fn a.tmps p assign body w.heap.size .exhausted (some .ret)) S,rawD kd w.heap.size]) (w4.putObj (w.heap.size+1) (.loop (mkR fn a.tmps p assign body w.heap.size .exhausted (some .ret)))):=by rw [e1];exact c3
 refine ⟨some .ret,_,run_endLoop c1 (by simp [mkR]),wpIn_ret ?_⟩
 obtain ⟨c4,c5⟩:=c2.sub (h':=Hb++[rawD kd w.heap.size]) (fun k o hm=>by
  simp only [List.mem_append,List.mem_cons,List.not_mem_nil,or_false] at hm ⊢;rcases hm with hm|hm
  ·exact .inl hm
  exact .inr (.inr hm)) (sub_nodup (List.Sublist.append (List.Sublist.refl _) (.cons _ (.refl _))) c2.nodup)
 have hst:=hst03.trans hc.cw.own (st4.trans cw3.own (c3.trans cw4.own c5));exact ⟨.ret,g4,r,_,[mkD w.heap.size],a,rfl,hstop _ _ _ hJ,hc.step c4 hst,by rw [Act.dfr,hc.defers];rfl,hst⟩
def endX (P:Program) (fn:Func) (R:AV->Heap->Prop):Ex->Regs->Heap->List Deferred->Prop
 | .normal,r,h,D=>∃ d kd H,D=[mkD d]/\h=H++[rawD kd d]/\resP P fn r H R
 | .ret,r,h,D=>∃ d kd H,D=[mkD d]/\h=H++[rawD kd d]/\resP P fn r H R
 | _,_,_,_=>False
theorem fxcalls {f:FuncId} {F:Func} {args:List AV} {R:AV->Heap->Prop} {h:Heap} (hf:P.funcs[f]?=some F) (hb:F.body.isSome=true) (hname:(F.name == "runtime.NumGoroutine")=false) (hn:Nat.ble args.length F.ntmps=true)
  (hst:∀ X,HX P F.ntmps X [] (bodyOf F) (endX P F R) (argRegs 0 args) h):ACalls P f args h R:=by
 obtain ⟨code,hb'⟩:=Option.isSome_iff_exists.1 hb;have hcode:bodyOf F=code:=by unfold bodyOf;rw [hb']
 refine ⟨fun X g w us hc hr=>.inl ⟨⟨F,code,hf,hb',hname⟩,?_⟩⟩;have hlen:=hr.length;simp at hlen;have hn:=Nat.le_of_ble_eq_true hn;refine (callsIn_FW (ro:=none) (m:=0)).1 (callsIn_of_wp_marks (F:=FW none) hf hb' trivial ?_);refine (wpIn_wide (n:=0)).2 ?_;rw [<- hcode];have hC0:Conc F.ntmps X g (argRegs 0 args) h { tmps:=us++Array.replicate (F.ntmps - us.size) undef,defers:=[] } w:=by refine ⟨hc,?_,rfl,by simp;omega⟩;intro t gg v hl;obtain ⟨rfl,_,hx⟩:=argRegs_look hl;obtain ⟨u,hu,hrep⟩:=hr.get t v (by simpa using hx);refine ⟨fun _=>⟨by simp,u,?_,hrep⟩,fun hh=>absurd (fun e he=>by cases he) hh⟩;have hu':us[t]?=some u:=(by simpa using hu);have:=(Array.getElem?_eq_some_iff.1 hu').1;rw [Array.getElem?_append_left this];exact hu'
 have fin:∀ (a:Act) (w2:World) (g2:Gh) (r2:Regs) (d kd:Nat) (H:Heap),Conc F.ntmps X g2 r2 (H++[rawD kd d]) a w2->resP P F r2 H R->Step X g h w g2 (H++[rawD kd d]) w2 ->
   LeavesInM (FW none) 0 P F a.tmps (fun e w'=>∃ v u g' h',e=.returned u/\R v h'/\CW X g' h' w'/\Rep ⟨g',live X h',w'⟩ v u/\Step X g h w g' h' w') [mkD d] .returning w2:=by
  intro a w2 g2 r2 d kd H hc2 hres hst2;obtain ⟨c1,c2,c3⟩:=raw_store (l1:=H) (l2:=[]) (k:=kd) (o':=.deferred none) hc2.cw (by simp);obtain ⟨c4,c5⟩:=c2.sub (h':=H) (fun k o hm=>List.mem_append_left _ hm) (sub_nodup (List.sublist_append_left _ _) c2.nodup);have hst3:=c3.trans hc2.cw.own c5;refine ⟨by simp,.inl ⟨d,_,rfl,run_takeDeferred c1,?_⟩⟩;have hc3:=hc2.step c4 hst3;obtain ⟨v,u,k1,k2,k3⟩:=resP_ok (P:=P) hc3 hres;exact ⟨u,k2,v,u,g2,H,rfl,k1,c4,k3,hst2.trans hc.own hst3⟩
 have:=(hst X).holds g _ w hC0;rw [show Act.dfr { tmps:=us++Array.replicate (F.ntmps - us.size) undef,defers:=[] } []={ tmps:=us++Array.replicate (F.ntmps - us.size) undef,defers:=[] } from rfl] at this;refine wp_mono this ?_;rintro e a' w' ⟨ex,g',r',h',D,a0,rfl,hQ,hc',rfl,hst'⟩;cases ex with
 | normal=>
   obtain ⟨d,kd,H,rfl,rfl,hres⟩:=hQ;show LeavesInM _ _ _ _ _ _ (Act.dfr a0 _).defers _ _;have:(Act.dfr a0 [mkD d]).defers=[mkD d]:=by rw [Act.dfr,hc'.defers];rfl
   rw [this];exact fin a0 w' g' r' d kd H hc' hres hst'
 | ret=>
   obtain ⟨d,kd,H,rfl,rfl,hres⟩:=hQ;show LeavesInM _ _ _ _ _ _ (Act.dfr a0 _).defers _ _;have:(Act.dfr a0 [mkD d]).defers=[mkD d]:=by rw [Act.dfr,hc'.defers];rfl
   rw [this];exact fin a0 w' g' r' d kd H hc' hres hst'
 | exit i=>exact hQ.elim
 | pan v=>exact hQ.elim
end Go.Abs
set_option maxRecDepth 100000
set_option maxHeartbeats 2000000
namespace Go.Abs.Wall.Dic
open Go Go.Abs Go.Proofs Go.Abs.Wall
def nodesV (l:List Nod):AV:=.sl 8 none (l.map encNod)
def depAt (l:List Nod) (k:Nat):Int:=(l.getD k zN).depth
def kidsF (l:List Nod) (to:Nat):Nat->Nat->List Nat
 | 0,_=>[]
 | f+1,k=>if k<to then k::kidsF l to f (endI l k (depAt l k)) else []
theorem endI_gt (l:List Nod) (k:Nat) (d:Int):k<endI l k d:=by unfold endI;omega
theorem kidsF_more (l:List Nod) (to:Nat):∀ (f k:Nat),to - k<=f->kidsF l to f k=kidsF l to (to - k) k
 | 0,k,h=>by rw [show to - k=0 by omega]
 | f+1,k,h=>by
   by_cases hk:k<to
   ·obtain ⟨g,hg⟩:∃ g,to - k=g+1:=⟨to - k - 1,by omega⟩;have:=endI_gt l k (depAt l k);rw [hg,kidsF,kidsF,if_pos hk,if_pos hk,kidsF_more l to f _ (by omega),kidsF_more l to g _ (by omega)]
   rw [show to - k=0 by omega,show kidsF l to 0 k=[] from rfl];unfold kidsF;rw [if_neg hk]
def kidsT (l:List Nod) (to k:Nat):List Nat:=kidsF l to (to - k) k
theorem kidsT_eq (l:List Nod) (to k:Nat):kidsT l to k=if k<to then k::kidsT l to (endI l k (depAt l k)) else []:=by
 unfold kidsT;by_cases hk:k<to
 ·obtain ⟨g,hg⟩:∃ g,to - k=g+1:=⟨to - k - 1,by omega⟩;have:=endI_gt l k (depAt l k);rw [hg,kidsF,if_pos hk,if_pos hk,kidsF_more l to g _ (by omega)]
 rw [if_neg hk,show to - k=0 by omega,kidsF]
def kidsL (l:List Nod) (node:Int):List Nat:=if 0<=node then kidsT l (endI l node.toNat (depAt l node.toNat)) (node.toNat+1) else kidsT l l.length 0
theorem kidsT_in (l:List Nod) (to:Nat):∀ (f k:Nat),to - k<=f->∀ x∈kidsT l to k,k<=x/\x<to
 | 0,k,h,x,hx=>by rw [kidsT_eq,if_neg (by omega)] at hx;cases hx
 | f+1,k,h,x,hx=>by
   rw [kidsT_eq] at hx;split at hx
   ·rcases List.mem_cons.1 hx with rfl|hx
    ·omega
    have h1:=endI_gt l k (depAt l k);have:=kidsT_in l to f _ (by omega) x hx;omega
   cases hx
theorem depAt_eq {l:List Nod} {k:Nat} {n:Nod} (h:l[k]?=some n):depAt l k=n.depth:=by rw [depAt,List.getD_eq_getElem?_getD,h];rfl
def c82:Cfg:=⟨[0,1,2,3,4],[],[],[],[],[]⟩
def c110:Cfg:=⟨[0,1,2,4,5,6,10,19,26],[],[],[],[(0,[0,1,2,3],[]),(2,[0,1,2,3,4,5,6],[]),(6,[],[])],[]⟩
theorem kidsW (l:List Nod) (node:Int):QCall Tryz.prog 82 [nodesV l,.int .i64 node] [] (.fn 110 [.iptr [nodesV l],.iptr [.int .i64 node]]):=by refine fcalls (F:=Tryz.f82) c82 rfl rfl rfl mixed rfl fun X=>?_;(conv=>whnf);skip;exact ⟨rfl,rfl⟩
theorem kidsIt (l:List Nod) (node:Int) (hn:node<l.length) (hl:l.length<=1048576):Iter Tryz.prog 110 [.iptr [nodesV l],.iptr [.int .i64 node]] ((kidsL l node).map fun (k:Nat)=>AV.int .i64 k):=by
 intro yl JJ JJx hy H hJ;simp only [List.length_map];generalize hKL:kidsL l node=KL;rw [hKL] at hy;refine fcalls (F:=Tryz.f110) c110 rfl rfl rfl mixed rfl fun X=>?_;(conv=>whnf);unfold nodesV;repeat (refine And.intro (by show drawOK (opsAt Tryz.f110 _) _=true;decide +kernel) ?_;conv=>whnf)
 refine ⟨fun h1=>?_,fun h1=>?_⟩
 ·have h1:0<=node:=of_decide_eq_true h1;obtain ⟨i,rfl⟩:=Int.eq_ofNat_of_zero_le h1;obtain ⟨n0,hn0⟩:∃ n,l[i]?=some n:=⟨_,List.getElem?_eq_getElem (by omega)⟩;have hin:=endI_in (l:=l) (i:=i) (d:=n0.depth) (by omega);have hk0:KL.drop 0=kidsT l (endI l i n0.depth) (i+1):=by rw [<- hKL,List.drop_zero,kidsL,if_pos (by omega),Int.toNat_natCast,depAt_eq hn0]
  (conv=>whnf);repeat ((first|refine ⟨gP_of ⟨by omega,by omega⟩,?_⟩|(refine gcall (endW l i n0 hn0 hl) ?_)|refine And.intro (by show drawOK (opsAt Tryz.f110 _) _=true;decide +kernel) ?_);conv=>whnf)
  rw [show ((i:Nat):Int)+1=((i+1:Nat):Int) by omega];refine sloop rfl mixed [0,1,5,6] [] (fun m r h=>∃ (j k to:Nat) (H':Heap),r=[(0,[],.val (.func (.yield yl) #[] #[])),(1,[],.iptr [.sl 8 none (l.map encNod)]),(5,[],.int .i64 (to:Nat)),(6,[],.int .i64 (k:Nat))]/\h=H'/\m=to - k/\JJ j H'/\to<=l.length/\j<=KL.length/\KL.drop j=kidsT l to k) ?_ ?_
  ·refine ⟨_,0,_,_,_,by first|rfl|(simp only [List.length_map];rfl),rfl,rfl,hJ,?_,Nat.zero_le _,?_⟩
   ·first|exact Nat.le_refl _|omega|(rw [List.length_map];exact Nat.le_refl _)
   first|exact hk0|(rw [List.length_map];exact hk0)
  rintro m r Hh ⟨j,k,to,H1,rfl,rfl,rfl,hJ1,hto,hj,hd⟩;(conv=>whnf);skip;rw [kidsT_eq] at hd;refine ⟨fun h1=>?_,fun h1=>?_⟩
  ·have h1:k<to:=by have:=of_decide_eq_true h1;omega
   rw [if_pos h1] at hd;obtain ⟨n,hnk⟩:∃ n,l[k]?=some n:=⟨_,List.getElem?_eq_getElem (by omega)⟩;have hjl:KL[j]?=some k:=by have:=congrArg (fun l=>l[0]?) hd;simpa using this
   have hjlt:=(List.getElem?_eq_some_iff.1 hjl).1;have hd1:KL.drop (j+1)=kidsT l to (endI l k n.depth):=by rw [drop_cons hjl] at hd;rw [<- depAt_eq hnk];exact (List.cons.inj hd).2
   (conv=>whnf);refine region_yield (c1:=keepA 30) (c2:=keepA 30) rfl rfl 2 rfl rfl rfl rfl rfl ?_;(conv=>whnf);skip;refine ⟨yl,_,rfl,rfl,?_⟩;intro X1 g1 w1 u1 hcw hu;obtain ⟨f,tmps,assign,body,hyr,hround⟩:=hy j (.int .i64 k) Hh (by rw [List.getElem?_map,hjl];rfl) hJ1 X1 g1 w1 u1 hcw hu;refine ⟨f,tmps,assign,body,hyr,hround.mono ?_⟩;rintro e w2 ⟨b,g2,H2,rfl,hb,hcw2,hst2⟩;refine ⟨b,g2,H2,rfl,?_,hcw2,hst2⟩;rcases hb with ⟨rfl,hJ2⟩|⟨rfl,hJ2⟩
   ·(conv=>whnf);skip;refine cF rfl ?_;(conv=>whnf);repeat (refine QCall.k0 (endW l k n hnk hl) ?_;conv=>whnf)
    refine ⟨to - endI l k n.depth,?_,j+1,endI l k n.depth,to,H2,rfl,rfl,rfl,hJ2,hto,by omega,hd1⟩;have:=(endI_in (l:=l) (i:=k) (d:=n.depth) (by omega)).1;omega
   (conv=>whnf);skip;refine cT rfl ?_;(conv=>whnf);skip;exact .inr hJ2
  have h1:¬ k<to:=fun h=>by rw [decide_eq_true (by omega)] at h1;cases h1
  rw [if_neg h1] at hd;have hlen:=congrArg List.length hd;rw [List.length_drop] at hlen;have:j=KL.length:=by simp at hlen;omega
  (conv=>whnf);skip;rw [<- this];exact .inl hJ1
 have h1:¬ 0<=node:=fun h=>by rw [decide_eq_true h] at h1;cases h1
 have hk0:KL.drop 0=kidsT l l.length 0:=by rw [<- hKL,List.drop_zero,kidsL,if_neg h1]
 (conv=>whnf);skip;refine sloop rfl mixed [0,1,5,6] [] (fun m r h=>∃ (j k to:Nat) (H':Heap),r=[(0,[],.val (.func (.yield yl) #[] #[])),(1,[],.iptr [.sl 8 none (l.map encNod)]),(5,[],.int .i64 (to:Nat)),(6,[],.int .i64 (k:Nat))]/\h=H'/\m=to - k/\JJ j H'/\to<=l.length/\j<=KL.length/\KL.drop j=kidsT l to k) ?_ ?_
 ·refine ⟨_,0,_,_,_,by first|rfl|(simp only [List.length_map];rfl),rfl,rfl,hJ,?_,Nat.zero_le _,?_⟩
  ·first|exact Nat.le_refl _|omega|(rw [List.length_map];exact Nat.le_refl _)
  first|exact hk0|(rw [List.length_map];exact hk0)
 rintro m r Hh ⟨j,k,to,H1,rfl,rfl,rfl,hJ1,hto,hj,hd⟩;(conv=>whnf);skip;rw [kidsT_eq] at hd;refine ⟨fun h1=>?_,fun h1=>?_⟩
 ·have h1:k<to:=by have:=of_decide_eq_true h1;omega
  rw [if_pos h1] at hd;obtain ⟨n,hnk⟩:∃ n,l[k]?=some n:=⟨_,List.getElem?_eq_getElem (by omega)⟩;have hjl:KL[j]?=some k:=by have:=congrArg (fun l=>l[0]?) hd;simpa using this
  have hjlt:=(List.getElem?_eq_some_iff.1 hjl).1;have hd1:KL.drop (j+1)=kidsT l to (endI l k n.depth):=by rw [drop_cons hjl] at hd;rw [<- depAt_eq hnk];exact (List.cons.inj hd).2
  (conv=>whnf);refine region_yield (c1:=keepA 30) (c2:=keepA 30) rfl rfl 2 rfl rfl rfl rfl rfl ?_;(conv=>whnf);skip;refine ⟨yl,_,rfl,rfl,?_⟩;intro X1 g1 w1 u1 hcw hu;obtain ⟨f,tmps,assign,body,hyr,hround⟩:=hy j (.int .i64 k) Hh (by rw [List.getElem?_map,hjl];rfl) hJ1 X1 g1 w1 u1 hcw hu;refine ⟨f,tmps,assign,body,hyr,hround.mono ?_⟩;rintro e w2 ⟨b,g2,H2,rfl,hb,hcw2,hst2⟩;refine ⟨b,g2,H2,rfl,?_,hcw2,hst2⟩;rcases hb with ⟨rfl,hJ2⟩|⟨rfl,hJ2⟩
  ·(conv=>whnf);skip;refine cF rfl ?_;(conv=>whnf);repeat (refine QCall.k0 (endW l k n hnk hl) ?_;conv=>whnf)
   refine ⟨to - endI l k n.depth,?_,j+1,endI l k n.depth,to,H2,rfl,rfl,rfl,hJ2,hto,by omega,hd1⟩;have:=(endI_in (l:=l) (i:=k) (d:=n.depth) (by omega)).1;omega
  (conv=>whnf);skip;refine cT rfl ?_;(conv=>whnf);skip;exact .inr hJ2
 have h1:¬ k<to:=fun h=>by rw [decide_eq_true (by omega)] at h1;cases h1
 rw [if_neg h1] at hd;have hlen:=congrArg List.length hd;rw [List.length_drop] at hlen;have:j=KL.length:=by simp at hlen;omega
 (conv=>whnf);skip;rw [<- this];exact .inl hJ1
end Go.Abs.Wall.Dic
namespace Go.Abs.Wall.Dic
open Go Go.Abs Go.Proofs Go.Abs.Wall
def c112:Cfg:=⟨[0,1,2,4],[],[],[],[],[]⟩
def c84:Cfg:=⟨[0,2],[],[],[],[],[]⟩
def kA2 (ks own:List Nat):Cfg:={ c112 with keep:=ks,own:=own,frz:=[],ords:=[] }
def natE (k:Nat):List AV:=[.int .i64 k]
def natV (ks:List Nat):AV:=.sl 1 none (ks.map natE)
def SeqJ (b:Nat) (ks:List Nat) (i:Nat) (H:Heap):Prop:=(i=0/\H=[(b,.vec [.nilS])])\/(0<i/\∃ q,H=[(q,.tok),(b,.vec [.sl 1 (some q) ((ks.take i).map natE)])])
theorem appendSeqW (gf:FuncId) (caps:List AV) (ks:List Nat) (hcall:Callable Tryz.prog gf) (hit:Iter Tryz.prog gf caps (ks.map fun (k:Nat)=>AV.int .i64 k)) (hlen:ks.length<=1048576) :
  QCall Tryz.prog 112 [.nilS,.fn gf caps] [] (natV ks):=by
 refine QCall.of (fxcalls (F:=Tryz.f112) rfl rfl rfl rfl fun X=>?_);refine HX.seq (HX.region (RO.plain (c:=kA2 [1,2,4] [2]) ?_));(conv=>whnf);repeat (intro (nb:Nat);conv=>whnf)
 refine HX.seq (HX.seq (HX.region (RO.plain (c:=kA2 [2,4,6] []) ?_)));(conv=>whnf);skip;refine (HX.block (HX.range (caps:=caps) (gf:=gf) (by simp) rfl hcall hit (SeqJ nb ks) (fun _=>False) (.inl ⟨rfl,rfl⟩) ?_ ?_ ?_))
 ·intro i k H hk hJ X' l;rw [List.getElem?_map] at hk
  obtain ⟨x,hx,rfl⟩:∃ x,ks[i]?=some x/\AV.int .i64 (x:Nat)=k:=by
   cases hh:ks[i]? with
   | none=>rw [hh] at hk;cases hk
   | some x=>rw [hh] at hk;exact ⟨x,rfl,Option.some.inj hk⟩
  have hlt:=(List.getElem?_eq_some_iff.1 hx).1;(conv=>whnf);refine HI.region rfl (RO.plain (c:=kA2 [2,4,5] []) ?_);(conv=>whnf);skip;refine ⟨rfl,HI.block (HI.region rfl (RO.plain (c:=kA2 [2,4] []) ?_))⟩;rcases hJ with ⟨rfl,rfl⟩|⟨hi,q,rfl⟩
  ·(conv=>whnf);repeat ((first|(refine ⟨Nat.le_of_ble_eq_true rfl,fun q=>?_⟩)|(refine ⟨_,_,.there (.here _),⟨Nat.le_of_ble_eq_true rfl,Nat.le_of_ble_eq_true rfl⟩,?_⟩)|refine ⟨_,_,.head _,rfl,?_⟩);conv=>whnf)
   refine .inr ⟨by omega,q,?_⟩;rw [List.take_add_one,hx];rfl
  (conv=>whnf);repeat ((first|(refine ⟨by simp;unfold AMAX;omega,fun q'=>⟨_,.here _,?_⟩⟩)|(refine ⟨_,_,.there (.here _),⟨Nat.le_of_ble_eq_true rfl,Nat.le_of_ble_eq_true rfl⟩,?_⟩)|refine ⟨_,_,.tail _ (.head _),rfl,?_⟩);conv=>whnf)
  refine .inr ⟨by omega,q',?_⟩;rw [List.take_add_one,hx,List.map_append];rfl
 ·intro d kd H hJ;rw [List.length_map] at hJ;rcases hJ with ⟨h0,rfl⟩|⟨hi,q,rfl⟩
  ·refine HX.seq (HX.region (RO.plain (c:=kA2 [4] []) ?_));(conv=>whnf);repeat (refine ⟨_,_,.head _,rfl,?_⟩;conv=>whnf)
   refine HX.ret ⟨d,kd,_,rfl,rfl,?_⟩;(conv=>whnf);have:ks=[]:=List.eq_nil_of_length_eq_zero h0;subst this;exact VLe.nil (by omega)
  refine HX.seq (HX.region (RO.plain (c:=kA2 [4] []) ?_));(conv=>whnf);repeat (refine ⟨_,_,.tail _ (.head _),rfl,?_⟩;conv=>whnf)
  refine HX.ret ⟨d,kd,_,rfl,rfl,?_⟩;(conv=>whnf);rw [List.take_length];exact VLe.sl
 intro d kd H hJ;exact hJ.elim
theorem collectW (gf:FuncId) (caps:List AV) (ks:List Nat) (hcall:Callable Tryz.prog gf) (hit:Iter Tryz.prog gf caps (ks.map fun (k:Nat)=>AV.int .i64 k)) (hlen:ks.length<=1048576) :
  QCall Tryz.prog 84 [.fn gf caps] [] (natV ks):=by
 refine fcalls (F:=Tryz.f84) c84 rfl rfl rfl mixed rfl fun X=>?_;(conv=>whnf);repeat (refine QCall.k0 (appendSeqW gf caps ks hcall hit hlen) ?_;conv=>whnf)
 exact ⟨rfl,rfl⟩
theorem kidsT_len (l:List Nod) (to:Nat):∀ (f k:Nat),to - k<=f->(kidsT l to k).length<=to - k
 | 0,k,h=>by rw [kidsT_eq,if_neg (by omega)];simp
 | f+1,k,h=>by
   rw [kidsT_eq];split
   ·have h1:=endI_gt l k (depAt l k);have:=kidsT_len l to f _ (by omega:to - endI l k (depAt l k)<=f);simp;omega
   simp
theorem kidsL_len {l:List Nod} {node:Int} (hn:node<l.length):(kidsL l node).length<=l.length:=by
 unfold kidsL;split
 ·have:=(endI_in (l:=l) (i:=node.toNat) (d:=depAt l node.toNat) (by omega)).2;have:=kidsT_len l (endI l node.toNat (depAt l node.toNat)) _ (node.toNat+1) (Nat.le_refl _);omega
 have:=kidsT_len l l.length _ 0 (Nat.le_refl _);omega
theorem kidsL_in {l:List Nod} {node:Int} (hn:node<l.length) (hlo:-1<=node):∀ x∈kidsL l node,node<(x:Int)/\x<l.length:=by
 intro x hx;unfold kidsL at hx;split at hx
 ·have h1:=(endI_in (l:=l) (i:=node.toNat) (d:=depAt l node.toNat) (by omega)).2;have:=kidsT_in l _ _ _ (Nat.le_refl _) x hx;omega
 have:=kidsT_in l _ _ _ (Nat.le_refl _) x hx;omega
theorem collectKids (l:List Nod) (node:Int) (hn:node<l.length) (hl:l.length<=1048576):QCall Tryz.prog 84 [.fn 110 [.iptr [nodesV l],.iptr [.int .i64 node]]] [] (natV (kidsL l node)):=
 collectW _ _ _ ⟨Tryz.f110,_,rfl,rfl,rfl⟩ (kidsIt l node hn hl) (by have:=kidsL_len hn;omega)
end Go.Abs.Wall.Dic
