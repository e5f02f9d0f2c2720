/- Small laws for the walks and contracts of functions; each theorem names its conditions. -/
import Derived.Test.YtdjdbggpgmddnaaGreatN7
/-
 The abstract layer,part J: the evaluator says what the code does.
-/
set_option linter.unusedVariables false
set_option linter.unusedSimpArgs false
namespace Go.Abs
open Go
variable {P:Program} {n:Nat} {X:Nat->Prop} {g0:Gh} {r:Regs} {h:Heap} {a:Act} {w:World}
theorem memT_false {d:Nat}:∀ {g:G},notIn.memT g d=false->∀ e∈g,e.1≠d
 | [],_,e,he=>by cases he
 | (t,b,w)::g,hm,e,he=>by
   unfold notIn.memT at hm;split at hm
   ·cases hm
   rename_i ht;rcases List.mem_cons.1 he with rfl|he
   ·intro e;subst e;rw [Nat.beq_refl] at ht;cases ht
   exact memT_false hm e he
theorem notIn_cons {t:Nat} {gg:G} {v:AV} {d:Nat} (hn:notIn ((t,gg,v)::r) d=true):(∀ e∈gg,e.1≠d)/\notIn r d=true:=by
 cases gg with
 | nil=>exact ⟨by simp,hn⟩
 | cons e g=>
   unfold notIn at hn;split at hn
   ·cases hn
   rename_i hm;exact ⟨memT_false hm,hn⟩
theorem notIn_look {d:Nat}:∀ {r:Regs} {t:Nat} {gg:G} {v:AV},notIn r d=true->lookR r t=some (gg,v)->∀ e∈gg,e.1≠d
 | [],t,gg,v,_,h=>by cases h
 | (t',g',v')::r,t,gg,v,hn,h=>by
   obtain ⟨h1,h2⟩:=notIn_cons hn;unfold lookR at h;split at h
   ·cases h;exact h1
   exact notIn_look h2 h
theorem holdsC_put {d:Nat} {u:Value} {gg:G} (hd:∀ e∈gg,e.1≠d):holdsC (a.put (some d) u) gg↔holdsC a gg:=by
 unfold holdsC;constructor
 ·intro hh e he;have:=hh e he;simpa [Act.put,Array.getElem?_setIfInBounds_ne (Ne.symm (hd e he))] using this
 intro hh e he;have:=hh e he;simpa [Act.put,Array.getElem?_setIfInBounds_ne (Ne.symm (hd e he))] using this
theorem Conc.step {g':Gh} {h':Heap} {w':World} (hc:Conc n X g0 r h a w) (hcw:CW X g' h' w') (hst:Step X g0 h w g' h' w'):Conc n X g' r h' a w':=
 ⟨hcw,fun t gg v hl=>⟨fun hh=>let ⟨h1,u,h2,h3⟩:=(hc.regs t gg v hl).1 hh;⟨h1,u,h2,Rep.mono (Step.le hst) _ _ h3⟩,(hc.regs t gg v hl).2⟩,hc.defers,hc.size⟩
theorem Conc.put {g':Gh} {h':Heap} {w':World} (hc:Conc n X g0 r h a w) (hcw:CW X g' h' w') (hst:Step X g0 h w g' h' w') {d:Nat} (hd:d<n) {gg:G} {v:AV} {u:Value}
  (hni:notIn ((d,gg,v)::r) d=true) (h1:holdsC a gg->(∀ e∈gg,e.2.1=e.2.2)/\Rep ⟨g',live X h',w'⟩ v u) (h2:¬ holdsC a gg->u=undef) :
  Conc n X g' ((d,gg,v)::r) h' (a.put (some d) u) w':=by
 obtain ⟨n1,n2⟩:=notIn_cons hni;have hget:(a.put (some d) u).tmps[d]?=some u:=by have:=hc.size;simp [Act.put,Array.getElem?_setIfInBounds,show d<a.tmps.size from by omega]
 refine ⟨hcw,?_,hc.defers,by simpa [Act.put] using hc.size⟩;intro t gg' v' hl;unfold lookR at hl;split at hl
 ·rename_i ht;have ht:=Nat.eq_of_beq_eq_true ht;subst ht;cases hl
  rw [holdsC_put n1,hget];exact ⟨fun hh=>⟨(h1 hh).1,u,rfl,(h1 hh).2⟩,fun hh=>by rw [h2 hh]⟩
 rename_i ht;have hne:t≠d:=by intro e;subst e;rw [Nat.beq_refl] at ht;cases ht
 rw [holdsC_put (notIn_look n2 hl)];have hg:(a.put (some d) u).tmps[t]?=a.tmps[t]?:=(by simp [Act.put,Array.getElem?_setIfInBounds_ne (Ne.symm hne)]);rw [hg];exact (hc.step hcw hst).regs t gg' v' hl
theorem setP_ok {g':Gh} {h':Heap} {w':World} {d:Option Tmp} {gg:G} {v:AV} {u:Value} {K:Regs->Prop} (hc:Conc n X g0 r h a w) (hcw:CW X g' h' w') (hst:Step X g0 h w g' h' w')
  (hs:setP n d gg v r K) (h1:holdsC a gg->(∀ e∈gg,e.2.1=e.2.2)/\Rep ⟨g',live X h',w'⟩ v u) (h2:¬ holdsC a gg->u=undef) :
  ∃ r',K r'/\Conc n X g' r' h' (a.put d u) w':=by
 unfold setP at hs;split at hs
 ·exact ⟨r,hs,by simpa [Act.put] using hc.step hcw hst⟩
 split at hs<;>try contradiction
 rename_i hlt;split at hs<;>try contradiction
 rename_i hni;rw [Nat.blt_eq] at hlt;exact ⟨_,hs,hc.put hcw hst hlt hni h1 h2⟩
theorem normK_ok:∀ {ts:List Nat} {k:Regs->Prop},normK r k ts->∃ l,k l/\∀ t gg v,lookR l t=some (gg,v)->lookR r t=some (gg,v)
 | [],k,h=>⟨[],h,fun t gg v hl=>by cases hl⟩
 | t::ts,k,h=>by
   unfold normK at h;split at h
   ·rename_i v hv;obtain ⟨l,h1,h2⟩:=normK_ok h;refine ⟨_,h1,fun t' gg v' hl=>?_⟩;unfold lookR at hl;split at hl
    ·rename_i ht;have ht:=Nat.eq_of_beq_eq_true ht;subst ht;cases hl
     exact hv
    exact h2 t' gg v' hl
   exact normK_ok (k:=k) h
theorem Conc.less {r':Regs} (hc:Conc n X g0 r h a w) (hl:∀ t gg v,lookR r' t=some (gg,v)->lookR r t=some (gg,v)):Conc n X g0 r' h a w:=
 ⟨hc.cw,fun t gg v h=>hc.regs t gg v (hl t gg v h),hc.defers,hc.size⟩
theorem setC_full {cs l:List AV} (hl:cs.length=l.length):setC cs 0 l=l:=by unfold setC;simp [<- hl]
theorem storeF_ok {t:TypeId} {d:Nat} {y:Operand} {K:Regs->Heap->Prop} {o:Oper} {next:Act->World->Prop} {Q:Exit->Act->World->Prop} (ho:o.op=.store t (.tmp d) y) (hdst:o.dst=none)
  (hs:storeF P r h t d y K) (hc:Conc n X g0 r h a w)
  (hn:∀ r' h' g' w',K r' h'->Conc n X g' r' h' a w'->Step X g0 h w g' h' w'->next a w'):o.wp P a w next Q:=by
 have hg0:holdsC a []:=fun e he=>by cases he
 unfold storeF at hs;split at hs<;>try contradiction
 rename_i b hx;split at hs<;>try contradiction
 rename_i v hy;split at hs<;>try contradiction
 rename_i l hv;split at hs<;>try contradiction
 rename_i hlen;have hlen:=Nat.eq_of_beq_eq_true hlen;obtain ⟨cs,h',hu,⟨hpos,hl⟩,hK⟩:=hs;obtain ⟨l1,l2,rfl,rfl⟩:=Rem.split hu;obtain ⟨r1,r2⟩:=cellsV_rep hv (hc.opnd hg0 hy);have hrx:=hc.opnd hg0 hx;obtain ⟨p,cc,tt,p1,p2,p3,p4,p5,p6⟩:=vec_store (o:=0) hc.cw (by omega) r1 (by intro u hu;exact r2 u (by simpa using hu));rw [setC_full hl] at p5 p6;rw [Rep] at hrx;obtain ⟨p',q1,q2,q3⟩:=hrx;simp only at q1;rw [p1] at q1;cases q1
 have hlu:=r1.length;simp at hlu
 obtain ⟨s1,s2⟩:=p5.sub (h':=l1++l2) (by
   intro k o hm;simp only [List.mem_append,List.mem_cons] at hm ⊢;rcases hm with h|h
   ·exact .inl h
   ·exact .inr (.inr h)) (by
   have:=p5.nodup;rw [keys_app] at this;simp only [keys,List.map_append,List.nodup_append,List.nodup_cons,List.mem_cons] at this ⊢;exact ⟨this.1,this.2.1.2,fun x hx y hy=>this.2.2 x hx y (.inr hy)⟩)
 have hrun:(execOp a.eval o).run P w=.ok .skip (w.setCells p.block (p.off+0) (a.eval y).cells.toList):=by have:=run_storeVar (P:=P) (w:=w) (t:=t) (b:=p.block) (o:=p.off+0) (u:=a.eval y) (by omega) (by omega) p3 (by simp at p4;omega) r2;simp only [Nat.add_zero] at this q3;simp [execOp,ho,q3,this]
 have hnm:=p5.notmem;have hsep:=p5.sep b (by rw [keys_mem];exact .inl rfl);have hob:=p5.obj b (.vec l) (by simp);refine wp_skipv hrun ?_;rw [hdst];refine hn _ _ g0 _ hK ?_ (p6.trans hc.cw.own s2);have hc2:=hc.step s1 (p6.trans hc.cw.own s2);refine ⟨s1,fun t' gg v' hl'=>?_,hc.defers,hc.size⟩;unfold lookR at hl';split at hl'
 ·rename_i ht;have ht:=Nat.eq_of_beq_eq_true ht;subst ht;cases hl'
  refine ⟨fun _=>⟨by simp,?_⟩,fun hh=>absurd hg0 hh⟩
  have hreg:∃ u,a.tmps[d]?=some u/\a.eval (.tmp d)=u:=by
   simp only [Abs.opnd] at hx;split at hx<;>try contradiction
   rename_i g' v' hlk;split at hx<;>try contradiction
   rename_i hsub;have hh:=subG_sound hg0 hsub;obtain ⟨_,u,hu,_⟩:=(hc.regs _ _ _ hlk).1 hh;exact ⟨u,hu,eval_tmp hu⟩
  obtain ⟨u,hu1,hu2⟩:=hreg;refine ⟨u,hu1,?_⟩;rw [Rep];rw [hu2] at q3;refine ⟨p.block,p.off+0,q3,?_⟩;obtain ⟨pp,cc2,t2,h1,h2,h3,h4,h5,h6⟩:=hob;simp only at h1 h3 h4;rw [p1] at h1;cases h1
  -- the cells,one by one
  have key:∀ (l':List AV) (o:Nat),(∀ i x,l'[i]?=some x->∃ u,cc2[p.off+(o+i)]?=some u/\u.oneCell'=true/\Rep ⟨g0,live X (l1++(b,.vec l)::l2),w.setCells p.block (p.off+0) (a.eval y).cells.toList⟩ x u) ->
    RepCs ⟨g0,live X (l1++l2),w.setCells p.block (p.off+0) (a.eval y).cells.toList⟩ l' p.block (p.off+o):=by
   intro l';induction l' with
   | nil=>intro o _;simp [RepCs]
   | cons x l' ih=>
     intro o hh;simp only [RepCs];obtain ⟨u,e1,e2,e3⟩:=hh 0 x (by simp);refine ⟨⟨u,?_,e2,?_,Rep.mono (Step.le s2) _ _ e3⟩,?_⟩
     ·rw [cell_of_row _ p.block _ cc2 t2 _ h4];simpa using e1
     ·intro k s hk hlv;simp only at hk;rw [h3] at hk;cases hk
      rcases hlv with hx|hk
      ·exact absurd hx hsep
      exact absurd hk hnm
     rw [show p.off+o+1=p.off+(o+1) from rfl];refine ih (o+1) (fun i x hx=>?_);have:=hh (i+1) x (by simpa using hx);rwa [show o+(i+1)=o+1+i from by omega] at this
  exact key l 0 (fun i x hx=>by simpa using h6 i x hx)
 exact hc2.regs t' gg v' hl'
theorem wanted_none {o:Oper} {f:Nat->Option Bool} (h:o.guard=none):Region.wanted o f=true:=by simp [Region.wanted,h]
theorem eqB_true {v w:Bool} (h:eqB v w=true):v=w:=by cases v<;>cases w<;>first|rfl|cases h
theorem ungG_holds {tj:Nat} {w:Bool} (hw:a.tmps[tj]?=some (.bool w)):∀ {g:G},holdsC a (ungG tj w g)↔holdsC a g
 | []=>Iff.rfl
 | (t,b,v)::g=>by
   have ih:=ungG_holds hw (g:=g)
   have hc:∀ {g':G},holdsC a ((t,b,v)::g')↔(a.tmps[t]?=some (.bool v)/\holdsC a g'):=by
    intro g';unfold holdsC
    exact ⟨fun hh=>⟨hh (t,b,v) (by simp),fun e he=>hh e (by simp [he])⟩,fun hh e he=>by
     rcases List.mem_cons.1 he with rfl|he
     ·exact hh.1
     exact hh.2 e he⟩
   unfold ungG;split
   ·rename_i ht;have ht:=Nat.eq_of_beq_eq_true ht;subst ht;split
    ·rename_i hv;have hv:=eqB_true hv;subst hv;rw [ih,hc];exact ⟨fun h1=>⟨hw,h1⟩,fun h1=>h1.2⟩
    rw [hc,hc,ih]
   rw [hc,hc,ih]
theorem ungG_mem {tj:Nat} {w:Bool}:∀ {g:G},∀ e∈ungG tj w g,e∈g
 | [],e,he=>he
 | (t,b,v)::g,e,he=>by
   unfold ungG at he;split at he
   ·split at he
    ·exact List.mem_cons_of_mem _ (ungG_mem e he)
    rcases List.mem_cons.1 he with rfl|he
    ·simp
    exact List.mem_cons_of_mem _ (ungG_mem e he)
   rcases List.mem_cons.1 he with rfl|he
   ·simp
   exact List.mem_cons_of_mem _ (ungG_mem e he)
theorem ung_look {tj:Nat} {w:Bool}:∀ {r:Regs} {t:Nat} {gg:G} {v:AV},lookR (ung tj w r) t=some (gg,v)->∃ g,lookR r t=some (g,v)/\gg=ungG tj w g
 | [],t,gg,v,h=>by cases h
 | (t',g',v')::r,t,gg,v,h=>by
   unfold ung lookR at h;unfold lookR;split at h
   ·rename_i e;cases h
    exact ⟨g',by first|rfl|rw [e],rfl⟩
   rename_i e;obtain ⟨g,h1,h2⟩:=ung_look h;exact ⟨g,by first|exact h1|(rw [e];exact h1),h2⟩
theorem Conc.ung {tj:Nat} {w0:Bool} (hc:Conc n X g0 r h a w) (hw:a.tmps[tj]?=some (.bool w0)) (he:∀ t g v,lookR r t=some (g,v)->holdsC a g->∀ e∈g,e.2.1=e.2.2):Conc n X g0 (ung tj w0 r) h a w:=by refine ⟨hc.cw,fun t gg v hl=>?_,hc.defers,hc.size⟩;obtain ⟨g,h1,rfl⟩:=ung_look hl;rw [ungG_holds hw];exact ⟨fun hh=>⟨fun e hm=>he t g v h1 hh e (ungG_mem e hm),((hc.regs t g v h1).1 hh).2⟩,fun hh=>(hc.regs t g v h1).2 hh⟩
theorem regP_pre {c:Cfg} {all:List Oper} {K:Regs->Heap->Prop} {Q:Exit->Act->World->Prop} (rest:List Nat):∀ (l:List Oper) (i:Nat) (r:Regs) (h:Heap) (g0:Gh) (a:Act) (w:World),
  (∀ (j:Nat) x,l[j]?=some x->all[i+j]?=some x)->regP P c n all K l r h->Conc n X g0 r h a w ->
  (∀ r' h' g' a' w',K r' h'->Conc n X g' r' h' a' w'->Step X g0 h w g' h' w'->wpOps P all.toArray Q rest a' w') ->
  wpOps P all.toArray Q (List.range' i l.length++rest) a w
 | [],i,r,h,g0,a,w,hi,hr,hc,hf=>by unfold regP at hr;obtain ⟨r',hK,hl⟩:=normK_ok (k:=fun r'=>K r' h) hr;exact hf r' h g0 a w hK (hc.less hl) (Step.refl _ _ _ _)
 | o::l,i,r,h,g0,a,w,hi,hr,hc,hf=>by
   have hg0:holdsC a []:=fun e he=>by cases he
   have hio:all.toArray[i]?=some o:=by have:=hi 0 o rfl;simpa using this
   have hi':∀ (j:Nat) x,l[j]?=some x->all[i+1+j]?=some x:=fun j x hx=>by have:=hi (j+1) x (by simpa using hx);rw [show i+1+j=i+(j+1) from by omega];exact this
   simp only [List.length_cons,List.range'_succ,List.cons_append,wpOps,hio]
   -- what follows
   have hnext:∀ (r':Regs) (h':Heap) (g':Gh) (a':Act) (w':World),regP P c n all K l r' h'->Conc n X g' r' h' a' w'->Step X g0 h w g' h' w' ->
     wpOps P all.toArray Q (List.range' (i+1) l.length++rest) a' w':=fun r' h' g' a' w' hr' hc' hst=>
    regP_pre rest l (i+1) r' h' g' a' w' hi' hr' hc' (fun r2 h2 g2 a2 w2 hK hc2 hst2=>hf r2 h2 g2 a2 w2 hK hc2 (hst.trans hc.cw.own hst2))
   have hnl:∀ {a':Act},NextL X g0 h w (fun v h'=>setP n o.dst [] v r fun r'=>regP P c n all K l r' h') o.dst a (wpOps P all.toArray Q (List.range' (i+1) l.length++rest)):=by intro _ v h' g' u w' hs hcw hrep hst;obtain ⟨r',hK,hc'⟩:=setP_ok (u:=u) hc hcw hst hs (fun _=>⟨by simp,hrep⟩) (fun hh=>absurd hg0 hh);exact hnext r' h' g' _ w' hK hc' hst
   unfold regP at hr;split at hr
   · -- no guard
    rename_i hgd;rw [if_pos (wanted_none hgd)];left;split at hr
    ·split at hr
     ·rename_i t d y hop hdst;split at hr
      ·refine storeF_ok hop hdst hr hc (fun r' h' g' w' hK hc' hst=>hnext r' h' g' a w' hK hc' hst)
      exact opL_ok hr hc (hnl (a':=a))
     exact opX_ok hr hc (hnl (a':=a))
    refine opQ_ok hr hc hg0 (by simp) ?_;intro v g' u w' hs hcw hrep hst;obtain ⟨r',hK,hc'⟩:=setP_ok (u:=u) hc hcw hst hs (fun _=>⟨by simp,hrep⟩) (fun hh=>absurd hg0 hh);exact hnext r' h g' _ w' hK hc' hst
   -- a guard
   rename_i j wt hgd;split at hr<;>try contradiction
   rename_i oj hoj;split at hr<;>try contradiction
   rename_i tj htj;split at hr<;>try contradiction
   rename_i gj b hlk;have hreg:=hc.regs tj gj (.bool b) hlk
   have hy:yielded all.toArray a.tmps j=match a.tmps[tj]? with|some (.bool b)=>some b|_=>none:=by
    unfold yielded;simp [hoj,htj];rcases a.tmps[tj]? with _|v
    ·rfl
    cases v<;>rfl
   have hwant:Region.wanted o (yielded all.toArray a.tmps)=(yielded all.toArray a.tmps j == some wt):=(by simp [Region.wanted,hgd]);have hyes:holdsC a gj->Region.wanted o (yielded all.toArray a.tmps)=decide (b=wt)/\a.tmps[tj]?=some (.bool b)/\∀ e∈gj,e.2.1=e.2.2:=by intro hh;obtain ⟨h1,u,h2,h3⟩:=hreg.1 hh;rw [Rep] at h3;subst h3;refine ⟨?_,h2,h1⟩;rw [hwant,hy,h2];simp only;cases b<;>cases wt<;>rfl
   have hnot:¬ holdsC a gj->Region.wanted o (yielded all.toArray a.tmps)=false/\a.tmps[tj]?=some undef:=by intro hh;have h1:=hreg.2 hh;refine ⟨?_,h1⟩;rw [hwant,hy,h1];rfl
   have hpath:holdsC a (gj++[(tj,b,wt)])↔(holdsC a gj/\b=wt):=by
    constructor
    ·intro hh;have h1:holdsC a gj:=fun e he=>hh e (by simp [he]);refine ⟨h1,?_⟩;have h2:=hh (tj,b,wt) (by simp);simp only at h2;rw [(hyes h1).2.1] at h2;cases h2;rfl
    rintro ⟨h1,rfl⟩ e he;simp only [List.mem_append,List.mem_singleton] at he;rcases he with he|rfl
    ·exact h1 e he
    exact (hyes h1).2.1
   split at hr
   · -- a call that is split
    split at hr<;>try contradiction
    obtain ⟨hr1,hr2⟩:=hr;obtain ⟨y1,y2,y3⟩:=hyes hg0;rw [y1];by_cases hb:b=wt
    ·simp only [hb,decide_true,if_true];left;have hc2:=hc.ung (w0:=wt) (by rw [y2,hb]) (fun t g v hl hh=>((hc.regs t g v hl).1 hh).1);refine opL_ok (hr1 hb) hc2 ?_;intro v h' g' u w' hs hcw hrep hst;obtain ⟨r',hK,hc'⟩:=setP_ok (u:=u) hc2 hcw hst hs (fun _=>⟨by simp,hrep⟩) (fun hh=>absurd hg0 hh);exact hnext r' h' g' _ w' hK hc' hst
    simp only [hb,decide_false,Bool.false_eq_true,if_false]
    obtain ⟨r',hK,hc'⟩:=setP_ok (u:=undef) hc hc.cw (Step.refl _ _ _ _) (hr2 hb) (fun hh=>by
     have:=hh (tj,b,wt) (by simp);simp only at this;rw [y2] at this;cases this;exact absurd rfl hb) (fun _=>rfl)
    exact hnext r' h g0 _ w hK hc' (Step.refl _ _ _ _)
   split at hr<;>try contradiction
   by_cases hh:holdsC a (gj++[(tj,b,wt)])
   ·obtain ⟨h1,h2⟩:=hpath.1 hh;obtain ⟨y1,y2,y3⟩:=hyes h1;rw [y1];simp only [h2,decide_true,if_true];left
    have he:∀ e∈gj++[(tj,b,wt)],e.2.1=e.2.2:=by
     intro e he;simp only [List.mem_append,List.mem_singleton] at he;rcases he with he|rfl
     ·exact y3 e he
     exact h2
    refine opQ_ok hr hc hh he ?_;intro v g' u w' hs hcw hrep hst;obtain ⟨r',hK,hc'⟩:=setP_ok (u:=u) hc hcw hst hs (fun _=>⟨he,hrep⟩) (fun hn=>absurd hh hn);exact hnext r' h g' _ w' hK hc' hst
   have hw:Region.wanted o (yielded all.toArray a.tmps)=false:=by
    by_cases h1:holdsC a gj
    ·rw [(hyes h1).1];simp only [decide_eq_false_iff_not];intro hb;exact hh (hpath.2 ⟨h1,hb⟩)
    exact (hnot h1).1
   rw [hw];simp only [Bool.false_eq_true,if_false];obtain ⟨v,hs⟩:=opQ_some hr;obtain ⟨r',hK,hc'⟩:=setP_ok (u:=undef) hc hc.cw (Step.refl _ _ _ _) hs (fun hy=>absurd hy hh) (fun _=>rfl);exact hnext r' h g0 _ w hK hc' (Step.refl _ _ _ _)
theorem regP_ok {c:Cfg} {all:List Oper} {K:Regs->Heap->Prop} {Q:Exit->Act->World->Prop} (l:List Oper) (i:Nat) (r:Regs) (h:Heap) (g0:Gh) (a:Act) (w:World)
  (hi:∀ j,all[i+j]?=l[j]?) (hr:regP P c n all K l r h) (hc:Conc n X g0 r h a w)
  (hf:∀ r' h' g' a' w',K r' h'->Conc n X g' r' h' a' w'->Step X g0 h w g' h' w'->Q .normal a' w') :
  wpOps P all.toArray Q (List.range' i l.length) a w:=by
 have:=regP_pre (Q:=Q) [] l i r h g0 a w (fun j x hx=>(hi j).trans hx) hr hc hf;rwa [List.append_nil] at this
end Go.Abs
/-
 The abstract layer,part K: what a quiet operation depends on.
-/
namespace Go.Abs
open Go
variable {P:Program} {n:Nat} {X:Nat->Prop} {g0:Gh} {r:Regs} {h:Heap} {a:Act} {w:World}
theorem opQ_val {g:G} {K:AV->Prop} {op:Op} (hq:opQ P r g h K op):∃ v,K v/\opQ P r g h (fun x=>x=v) op:=by
 have har:∀ {k:IntKind} {m:Int} {K:AV->Prop},arith g k m K->∃ v,K v/\arith g k m (fun x=>x=v):=by intro k m K hh;unfold arith at hh ⊢;cases k<;>first|exact ⟨_,hh.2,hh.1,rfl⟩|exact ⟨_,hh,rfl⟩
 have hld:∀ {t:TypeId} {cs:List AV} {K:AV->Prop},loadI P t cs K->∃ v,K v/\loadI P t cs (fun x=>x=v):=by
  intro t cs K hh;unfold loadI at hh ⊢
  (repeat' split at hh)<;>first|exact ⟨_,hh,rfl⟩|exact hh.elim
 have hbin:∀ {t:TypeId} {op:BinOp} {x y:AV} {K:AV->Prop},binP P g t op x y K->∃ v,K v/\binP P g t op x y (fun x=>x=v):=by
  intro t op x y K;unfold binP;simp only [eqK_iff];repeat' split
  all_goals first
   | exact fun hh=>hh.elim
   | exact fun hh=>⟨_,hh,rfl⟩
   | exact fun hh=>⟨_,hh.2,hh.1,rfl⟩
   | exact fun hh=>let ⟨v,h1,h2⟩:=har hh.2;⟨v,h1,hh.1,h2⟩
   | exact fun hh=>let ⟨v,h1,h2⟩:=har hh.2.2;⟨v,h1,hh.1,hh.2.1,h2⟩
   | exact fun hh=>⟨_,hh.2.2,hh.1,hh.2.1,rfl⟩
 have hlen:∀ {d:Option TypeDesc} {x:AV} {K:AV->Prop},lenP d x K->∃ v,K v/\lenP d x (fun x=>x=v):=by
  intro d x K;unfold lenP;repeat' split
  all_goals first
   | exact fun hh=>hh.elim
   | exact fun hh=>⟨_,hh,rfl⟩
 have hsl:∀ {x:AV} {lo hi:Int} {b:Bool} {K:AV->Prop},sliceP g x lo hi b K->∃ v,K v/\sliceP g x lo hi b (fun x=>x=v):=by
  intro x lo hi b K;unfold sliceP;repeat' split
  all_goals first
   | exact fun hh=>hh.elim
   | exact fun hh=>⟨_,hh.2,hh.1,rfl⟩
 have hru:∀ {s:TypeId} {xs:List (List AV)} {K:AV->Prop},runesP P s xs K->∃ v,K v/\runesP P s xs (fun x=>x=v):=by
  intro s xs K;unfold runesP;repeat' split
  all_goals first
   | exact fun hh=>hh.elim
   | exact fun ⟨ns,h1,hh⟩=>⟨_,hh,ns,h1,rfl⟩
 revert hq;unfold opQ;repeat' split
 all_goals first
  | exact fun hh=>hh.elim
  | exact fun hh=>⟨_,hh,rfl⟩
  | exact hru
  | exact hld
  | exact har
  | exact hbin
  | exact hlen
  | exact hsl
  | exact fun ⟨cs,l,h1,h2,hq⟩=>let ⟨v,k1,k2⟩:=hld hq;⟨v,k1,cs,l,h1,h2,k2⟩
  | exact fun ⟨j,y,h1,hq⟩=>⟨_,hq,j,y,h1,rfl⟩
  | exact fun ⟨es,v,f,h1,h2,hq⟩=>⟨_,hq,es,v,f,h1,h2,rfl⟩
  | exact fun ⟨j,l,h1,h2,hq⟩=>⟨_,hq,j,l,h1,h2,rfl⟩
  | exact fun ⟨h1,hq⟩=>⟨_,hq,h1,rfl⟩
  | exact fun ⟨j,h1,hq⟩=>⟨_,hq,j,h1,rfl⟩
theorem mem_readsX {t:Nat}:∀ {xs:List Operand},Operand.tmp t∈xs->t∈readsX xs
 | x::xs,h=>by
   rcases List.mem_cons.1 h with rfl|h
   ·simp [readsX]
   have:=mem_readsX h;cases x<;>simp [readsX,this]
theorem opnd_congr {r1 r2:Regs} {g:G} {x:Operand} (h:∀ t,x=.tmp t->lookR r1 t=lookR r2 t):opnd r1 g x=opnd r2 g x:=by
 cases x with
 | tmp t=>simp only [opnd,h t rfl]
 | _=>rfl
theorem opnds_congr {r1 r2:Regs} {g:G}:∀ {xs:List Operand},(∀ x∈xs,opnd r1 g x=opnd r2 g x)->opnds r1 g xs=opnds r2 g xs
 | [],_=>rfl
 | x::xs,h=>by unfold opnds;rw [h x (by simp),opnds_congr fun y hy=>h y (by simp [hy])]
theorem partsOf_congr {r1 r2:Regs} {g:G}:∀ {xs:List (Nat × Operand)},(∀ x∈xs.map (·.2),opnd r1 g x=opnd r2 g x)->partsOf r1 g xs=partsOf r2 g xs
 | [],_=>rfl
 | (i,x)::xs,h=>by unfold partsOf;rw [h x (by simp),partsOf_congr fun y hy=>h y (by simp only [List.map_cons,List.mem_cons];exact .inr hy)]
theorem elemsOf_congr {r1 r2:Regs} {g:G} {size:Nat}:∀ {xs:List (Nat × Operand)} {k:Nat},(∀ x∈xs.map (·.2),opnd r1 g x=opnd r2 g x)->elemsOf r1 g size k xs=elemsOf r2 g size k xs
 | [],_,_=>rfl
 | (i,x)::xs,k,h=>by unfold elemsOf;rw [h x (by simp),elemsOf_congr fun y hy=>h y (by simp only [List.map_cons,List.mem_cons];exact .inr hy)]
theorem optInt_congr {r1 r2:Regs} {g:G} {x:Option Operand} {d:Int} (h:∀ y,x=some y->opnd r1 g y=opnd r2 g y):optInt r1 g x d=optInt r2 g x d:=by
 cases x with
 | none=>rfl
 | some y=>simp only [optInt,h y rfl]
theorem opQ_congr {r1 r2:Regs} {g:G} {K:AV->Prop} {op:Op} (h':∀ t∈readsX op.operands.toList,lookR r1 t=lookR r2 t) (hq:opQ P r1 g h K op):opQ P r2 g h K op:=by
 have hx:∀ g,∀ x∈op.operands.toList,opnd r1 g x=opnd r2 g x:=by intro g x hx;exact opnd_congr fun t ht=>h' t (mem_readsX (ht ▸ hx))
 clear h';cases op
 case pick c x y=>
  have h1:=fun g=>hx g c (by simp [Op.operands]);have h2:=fun g=>hx g x (by simp [Op.operands]);have h3:=fun g=>hx g y (by simp [Op.operands]);clear hx;revert hq;unfold opQ;split;all_goals first|exact fun hh=>hh.elim|skip
  all_goals simp_all
 case call cl=>
  have hargs:∀ g,opnds r1 g cl.args.toList=opnds r2 g cl.args.toList:=fun g=>opnds_congr fun x hx'=>hx g x (by simp [Op.operands,Call.operands];exact .inr (by simpa using hx'));have hcal:∀ g t,cl.callee=.value (.tmp t)->opnd r1 g (.tmp t)=opnd r2 g (.tmp t):=fun g t ht=>hx g _ (by simp [Op.operands,Call.operands,ht]);clear hx;revert hq;unfold opQ;simp only [hargs];split;all_goals first|exact fun hh=>hh|skip
  rename_i t ht;rw [hcal _ _ ht];exact fun hh=>hh
 case build t ps=>
  simp only [opQ] at hq ⊢;rw [<- partsOf_congr (r1:=r1) (fun x hx'=>hx g x (by simpa [Op.operands] using hx'))];exact hq
 case buildSlice t m ps=>
  simp only [opQ] at hq ⊢;revert hq;split
  ·rw [<- elemsOf_congr (r1:=r1) (fun x hx'=>hx g x (by simpa [Op.operands] using hx'))];exact fun hh=>hh
  exact fun hh=>hh
 case makeFunc f first caps=>
  have hargs:∀ g,opnds r1 g caps.toList=opnds r2 g caps.toList:=fun g=>opnds_congr fun x hx'=>hx g x (by simp [Op.operands];exact .inr (by simpa using hx'));cases f<;>simp only [opQ] at hq ⊢<;>first|exact hq|skip
  rw [<- hargs];exact hq
 case slice t x lo hi mx=>
  cases mx<;>simp only [opQ] at hq ⊢<;>try exact hq
  rw [<- hx g x (by simp [Op.operands])];have h2:∀ d,optInt r1 g lo d=optInt r2 g lo d:=fun d=>optInt_congr fun y hy=>hx g y (by subst hy;simp [Op.operands]);have h3:∀ d,optInt r1 g hi d=optInt r2 g hi d:=fun d=>optInt_congr fun y hy=>hx g y (by subst hy;simp [Op.operands]);simp only [<- h2,<- h3];exact hq
 case makeMap t rr=>simp [opQ] at hq
 case unOp o t x=>
  have h1:=hx g x (by simp [Op.operands]);cases o<;>first|(simp [opQ] at hq;done)|(simp only [opQ] at hq ⊢;rw [<- h1];exact hq)
 all_goals first
  | (simp [opQ] at hq;done)
  | (simp only [Op.operands] at hx
     simp only [opQ] at hq ⊢
     (try simp at hx)
     (try simp only [hx] at hq)
     exact hq)
theorem opQ_free {g:G} {K:AV->Prop} {op:Op} (hf:hfree r g op=true) {h':Heap} (hq:opQ P r g h K op):opQ P r g h' K op:=by
 cases op
 case load t x=>
  simp only [opQ,hfree] at hq hf ⊢;split at hf
  ·rename_i cs hx;simp only [hx] at hq ⊢;exact hq
  cases hf
 case call cl=>
  unfold hfree at hf;simp only at hf;split at hf
  ·rename_i b hb;unfold opQ at hq ⊢;simp only [hb] at hq ⊢;cases b<;>exact hq
  cases hf
 case pick c x y=>
  revert hq;unfold opQ;split;all_goals first|exact fun hh=>hh|contradiction|(rename_i hh;cases hh)
 case lookup t x i ok=>simp [hfree] at hf
 case unOp o t x=>cases o<;>first|(simp [opQ] at hq;done)|(simp only [opQ] at hq ⊢;exact hq)
 case slice t x lo hi mx=>cases mx<;>first|(simp [opQ] at hq;done)|(simp only [opQ] at hq ⊢;exact hq)
 case makeFunc f first caps=>cases f<;>first|(simp [opQ] at hq;done)|(simp only [opQ] at hq ⊢;exact hq)
 all_goals first|exact hq|(simp [opQ] at hq;done)
end Go.Abs
/-
 The abstract layer,part L: calls in a wider heap,weaker arguments and results.
-/
namespace Go.Abs
open Go
variable {P:Program} {n:Nat} {X:Nat->Prop} {g0:Gh} {r:Regs} {h:Heap} {a:Act} {w:World}
theorem keys_append (h1 h2:Heap):keys (h1++h2)=keys h1++keys h2:=by simp [keys]
theorem live_shift (h1 h2:Heap):live (fun k=>X k\/k∈keys h2) h1=live X (h1++h2):=by
 funext k;simp only [live,keys_append,List.mem_append,eq_iff_iff];constructor
 ·rintro ((h|h)|h)
  ·exact .inl h
  ·exact .inr (.inr h)
  exact .inr (.inl h)
 rintro (h|h|h)
 ·exact .inl (.inl h)
 ·exact .inr h
 exact .inl (.inr h)
theorem keys_of_mem {k:Nat} {o:Ob} (hm:(k,o)∈h):k∈keys h:=by simp only [keys,List.mem_map];exact ⟨_,hm,rfl⟩
theorem ACalls.frame {f:FuncId} {args:List AV} {R:AV->Heap->Prop} (hf:ACalls P f args h R) (h2:Heap) :
  ACalls P f args (h++h2) fun v h'=>∃ h1,R v h1/\h'=h1++h2:=by
 refine ⟨fun X g w us hc hr=>?_⟩;have hnd:=hc.nodup;rw [keys_append,List.nodup_append] at hnd;obtain ⟨nd1,nd2,nd3⟩:=hnd;have hlv:=live_shift (X:=X) h h2
 have hc':CW (fun k=>X k\/k∈keys h2) g h w:=by
  refine ⟨hc.own,?_,nd1,?_,?_⟩
  ·obtain ⟨N,hN⟩:=hc.bound;refine ⟨N,fun k hk=>hN k ?_⟩;rw [keys_append,List.mem_append];rcases hk with (h|h)|h|h
   ·exact .inl h
   ·exact .inr (.inl (.inr h))
   ·exact .inr (.inl (.inl h))
   exact .inr (.inr h)
  ·rintro k hk (hx|hk2)
   ·exact hc.sep k (by rw [keys_append,List.mem_append];exact .inl hk) hx
   exact nd3 k hk k hk2 rfl
  intro k o hm;rw [hlv];exact hc.obj k o (List.mem_append.2 (.inl hm))
 refine (hf.1 _ g w us hc' (by rw [hlv];exact hr)).mono fun e w' he=>?_;obtain ⟨v,u,g',h1,rfl,hR,hc1,hu,hs⟩:=he;have hlv1:=live_shift (X:=X) h1 h2
 have hst:Step X g (h++h2) w g' (h1++h2) w':=by
  refine ⟨hs.os,hs.say,hs.output,hs.size,hs.pl,fun b k s e x=>hs.xow b k s e (.inl x),fun b k s e x=>hs.xow' b k s e (.inl x),fun k x e=>hs.xpl k (.inl x) e,?_,?_,?_⟩
  ·intro b hb hno;obtain ⟨e1,e2⟩:=hs.old b hb (fun k s e hk=>hno k s e (by rw [keys_append,List.mem_append];exact .inl hk));refine ⟨e1,fun k s e hk=>?_⟩;rw [keys_append,List.mem_append] at hk;rcases hk with hk|hk
   ·exact e2 k s e hk
   exact hno k s (hs.xow' b k s e (.inr hk)) (by rw [keys_append,List.mem_append];exact .inr hk)
  ·intro b k s e hk cc t f hcc;rw [keys_append,List.mem_append] at hk;rcases hk with hk|hk
   ·exact hs.mine b k s e hk cc t f hcc
   obtain ⟨e1,_⟩:=hs.old b (hc.own _ _ _ e) (fun k' s' e' hk'=>by rw [e] at e';cases e';exact nd3 k hk' k hk rfl);exact ⟨cc,e1.trans hcc,rfl,fun _ _=>rfl⟩
  intro b k s e hk k' s' e' hl;rw [keys_append,List.mem_append] at hk;rcases hk with hk|hk
  ·exact hs.minefree b k s e hk k' s' e' (by rw [hlv1];exact hl)
  have:=hs.xow b k s e (.inr hk);rw [this] at e';cases e';exact Nat.le_refl _
 have hc2:CW X g' (h1++h2) w':=by
  refine ⟨hc1.own,?_,?_,?_,?_⟩
  ·obtain ⟨N,hN⟩:=hc1.bound;refine ⟨N,fun k hk=>hN k ?_⟩;rw [keys_append,List.mem_append] at hk;rcases hk with h|(h|h)|h
   ·exact .inl (.inl h)
   ·exact .inr (.inl h)
   ·exact .inl (.inr h)
   exact .inr (.inr h)
  ·rw [keys_append,List.nodup_append];exact ⟨hc1.nodup,nd2,fun x hx y hy e=>hc1.sep x hx (.inr (e ▸ hy))⟩
  ·intro k hk hx;rw [keys_append,List.mem_append] at hk;rcases hk with hk|hk
   ·exact hc1.sep k hk (.inl hx)
   exact hc.sep k (by rw [keys_append,List.mem_append];exact .inr hk) hx
  intro k o hm;rcases List.mem_append.1 hm with hm|hm
  ·have:=hc1.obj k o hm;rw [hlv1] at this;exact this
  have hk:=keys_of_mem hm;refine ObjRep.keep (c:=⟨g,live X (h++h2),w⟩) (Step.le hst) (hc.obj k o (List.mem_append.2 (.inr hm))) ?_ (fun e=>hs.xpl k (.inr hk) e);intro p hp ⟨s,ho⟩;obtain ⟨e1,_⟩:=hs.old p.block (hc.own _ _ _ ho) (fun k' s' e' hk'=>by simp only at ho;rw [ho] at e';cases e';exact nd3 k hk' k hk rfl);exact ⟨e1,(hs.xow _ _ _ ho (.inr hk)).trans ho.symm⟩
 exact ⟨v,u,g',h1++h2,rfl,⟨h1,hR,rfl⟩,hc2,by rw [<- hlv1];exact hu,hst⟩
theorem ACalls.pre {f:FuncId} {args:List AV} {R:AV->Heap->Prop} {h':Heap} (hf:ACalls P f args h R) (hsub:∀ k o,(k,o)∈h->(k,o)∈h')
  (hnd:(keys h').Nodup->(keys h).Nodup):ACalls P f args h' R:=by
 refine ⟨fun X g w us hc hr=>?_⟩;obtain ⟨c1,s1⟩:=hc.sub hsub (hnd hc.nodup);refine (hf.1 X g w us c1 (RepVs.mono (Step.le s1) _ _ hr)).mono fun e w' he=>?_;obtain ⟨v,u,g',h1,rfl,hR,hc1,hu,hs⟩:=he;exact ⟨v,u,g',h1,rfl,hR,hc1,hu,s1.trans hc.own hs⟩
def VLe (x y:AV):Prop:=∀ c u,Rep c x u->Rep c y u
theorem VLe.refl (x:AV):VLe x x:=fun _ _ h=>h
theorem VLe.sl {k:Nat} {t:Option Nat} {xs:List (List AV)}:VLe (.sl k t xs) (.sl k none xs):=by intro c u h;simp only [Rep] at h ⊢;obtain ⟨base,cap,hv,h1,h2,h3,h4,h5,h6,h7⟩:=h;exact ⟨base,cap,hv,h1,h2,h3,h4,h5,h6,by simp⟩
theorem VLe.nil {k:Nat} (hk:0<k):VLe .nilS (.sl k none []):=by intro c u h;simp only [Rep] at h ⊢;exact ⟨none,0,by simpa using h,by simp,by simp,hk,by simp,by simp,by simp,by simp⟩
inductive VsLe:List AV->List AV->Prop
 | nil:VsLe [] []
 | cons {x y:AV} {xs ys:List AV}:VLe x y->VsLe xs ys->VsLe (x::xs) (y::ys)
theorem VsLe.refl:∀ xs,VsLe xs xs
 | []=>.nil
 | x::xs=>.cons (VLe.refl x) (VsLe.refl xs)
theorem VsLe.rep {c:Cx}:∀ {xs ys:List AV} {us:List Value},VsLe xs ys->RepVs c xs us->RepVs c ys us
 | _,_,us,.nil,h=>h
 | _,_,us,.cons h1 h2,h=>by simp only [RepVs] at h ⊢;obtain ⟨u,r,rfl,a1,a2⟩:=h;exact ⟨u,r,rfl,h1 _ _ a1,h2.rep a2⟩
theorem VLe.tup {xs ys:List AV} (h:VsLe xs ys):VLe (.tup xs) (.tup ys):=by intro c u hu;simp only [Rep] at hu ⊢;obtain ⟨us,hv,hr⟩:=hu;exact ⟨us,hv,h.rep hr⟩
theorem VLe.agg {xs ys:List AV} (h:VsLe xs ys):VLe (.agg xs) (.agg ys):=by intro c u hu;simp only [Rep] at hu ⊢;obtain ⟨us,hv,h1,hr⟩:=hu;exact ⟨us,hv,h1,h.rep hr⟩
theorem ACalls.args {f:FuncId} {args args':List AV} {R:AV->Heap->Prop} (hf:ACalls P f args' h R) (hl:VsLe args args'):ACalls P f args h R:=
 ⟨fun X g w us hc hr=>hf.1 X g w us hc (hl.rep hr)⟩
theorem ACalls.post {f:FuncId} {args:List AV} {R R':AV->Heap->Prop} (hf:ACalls P f args h R)
  (hp:∀ v h1,R v h1->∃ v' h',R' v' h'/\VLe v v'/\(∀ k o,(k,o)∈h'->(k,o)∈h1)/\((keys h1).Nodup->(keys h').Nodup)):ACalls P f args h R':=by
 refine ⟨fun X g w us hc hr=>?_⟩;refine (hf.1 X g w us hc hr).mono fun e w' he=>?_;obtain ⟨v,u,g',h1,rfl,hR,hc1,hu,hs⟩:=he;obtain ⟨v',h',k1,k2,k3,k4⟩:=hp v h1 hR;obtain ⟨d1,d2⟩:=hc1.sub k3 (k4 hc1.nodup);exact ⟨v',u,g',h',rfl,k1,d1,Rep.mono (Step.le d2) _ _ (k2 _ _ hu),hs.trans hc.own d2⟩
theorem QCall.wide {f:FuncId} {args:List AV} {v:AV} (hq:QCall P f args [] v) (h:Heap):QCall P f args h v:=by have:=ACalls.frame hq h;refine ACalls.post (by simpa using this) ?_;rintro v' h' ⟨h1,⟨h2,rfl⟩,rfl⟩;exact ⟨v',_,⟨h2,rfl⟩,VLe.refl _,by simp,by simp⟩
theorem QCall.more {f:FuncId} {args:List AV} {v:AV} {x:Nat × Ob} (hq:QCall P f args h v):QCall P f args (x::h) v:=by
 have:=ACalls.frame hq [x]
 have hnd:∀ {l:Heap},(keys (x::l)).Nodup↔(keys (l++[x])).Nodup:=by
  intro l;simp only [keys,List.map_cons,List.map_append,List.map_nil,List.nodup_cons,List.nodup_append];constructor
  ·rintro ⟨a,b⟩;exact ⟨b,by simp,fun y hy z hz=>by simp at hz;subst hz;rintro rfl;exact a hy⟩
  rintro ⟨a,b,c⟩;exact ⟨fun hm=>c _ hm _ (by simp) rfl,a⟩
 refine ACalls.post (ACalls.pre this (h':=x::h) ?_ hnd.1) ?_
 ·intro k o hm;simp only [List.mem_append,List.mem_singleton,List.mem_cons,List.not_mem_nil,or_false] at hm ⊢;exact hm.symm
 rintro v' h' ⟨h1,⟨rfl,rfl⟩,rfl⟩;refine ⟨v',x::h1,⟨rfl,rfl⟩,VLe.refl _,?_,hnd.2⟩;intro k o hm;simp only [List.mem_append,List.mem_singleton,List.mem_cons,List.not_mem_nil,or_false] at hm ⊢;exact hm.symm
theorem QCall.args {f:FuncId} {args args':List AV} {v:AV} (hq:QCall P f args' h v) (hl:VsLe args args'):QCall P f args h v:=ACalls.args hq hl
theorem gP_mono {g:G} {p q:Prop} (h:p->q):gP g p->gP g q:=by
 induction g with
 | nil=>exact h
 | cons e g ih=>exact fun hp he=>ih (hp he)
theorem opQ_more {g:G} {K:AV->Prop} {op:Op} {x:Nat × Ob} (hq:opQ P r g h K op):opQ P r g (x::h) K op:=by
 by_cases hf:hfree r g op=true
 ·exact opQ_free hf hq
 cases op
 case load t y=>
  simp only [opQ] at hq ⊢;split at hq
  ·exact hq
  ·obtain ⟨cs,l,h1,h2⟩:=hq;exact ⟨cs,l,List.mem_cons_of_mem _ h1,h2⟩
  exact hq
 case call cl=>
  revert hq;unfold opQ;simp only;split
  ·exact fun hh=>hh
  ·exact fun hh=>hh
  ·exact fun hh=>hh
  ·exact fun hh=>hh
  ·split
   ·rintro ⟨v,h1,h2⟩;exact ⟨v,gP_mono QCall.more h1,h2⟩
   exact fun hh=>hh
  ·split
   ·split
    ·rintro ⟨v,h1,h2⟩;exact ⟨v,gP_mono QCall.more h1,h2⟩
    exact fun hh=>hh
   exact fun hh=>hh
  exact fun hh=>hh
 case lookup t x i ok=>
  revert hq;unfold opQ;simp only;repeat' split
  all_goals first
   | exact fun hh=>hh
   | exact fun ⟨es,v,f,h1,h2⟩=>⟨es,v,f,List.mem_cons_of_mem _ h1,h2⟩
 all_goals exact absurd rfl hf
end Go.Abs
/-
 The abstract layer,part M: regions whose order is drawn.
-/
namespace Go.Abs
open Go
variable {P:Program} {n:Nat} {X:Nat->Prop} {g0:Gh} {r:Regs} {h:Heap} {a:Act} {w:World}
theorem opL_congr {r1 r2:Regs} {K:AV->Heap->Prop} {op:Op} (h':∀ t∈readsX op.operands.toList,lookR r1 t=lookR r2 t) (hq:opL P r1 h K op):opL P r2 h K op:=by
 have hx:∀ g,∀ x∈op.operands.toList,opnd r1 g x=opnd r2 g x:=by intro g x hx;exact opnd_congr fun t ht=>h' t (mem_readsX (ht ▸ hx))
 clear h';cases op
 case call cl=>
  have hargs:∀ g,opnds r1 g cl.args.toList=opnds r2 g cl.args.toList:=fun g=>opnds_congr fun x hx'=>hx g x (by simp [Op.operands,Call.operands];exact .inr (by simpa using hx'));have hcal:∀ g t,cl.callee=.value (.tmp t)->opnd r1 g (.tmp t)=opnd r2 g (.tmp t):=fun g t ht=>hx g _ (by simp [Op.operands,Call.operands,ht]);clear hx;revert hq;unfold opL;simp only [hargs];split;all_goals first|exact fun hh=>hh|skip
  rename_i t ht;rw [hcal _ _ ht];exact fun hh=>hh
 case buildSlice t m ps=>
  simp only [opL] at hq ⊢;revert hq;split
  ·rw [<- elemsOf_congr (r1:=r1) (fun x hx'=>hx [] x (by simpa [Op.operands] using hx'))];exact fun hh=>hh
  exact fun hh=>hh
 case makeMap t rr=>cases rr<;>first|exact hq|(simp [opL] at hq;done)
 case binOp op t x y yt=>
  cases op<;>try (simp [opL] at hq;done)
  simp only [opL] at hq ⊢;rw [<- hx [] x (by simp [Op.operands]),<- hx [] y (by simp [Op.operands])];exact hq
 case box t x=>
  simp only [opL] at hq ⊢;rw [<- hx [] x (by simp [Op.operands])];exact hq
 case store t x y=>
  simp only [opL] at hq ⊢;rw [<- hx [] x (by simp [Op.operands]),<- hx [] y (by simp [Op.operands])];exact hq
 case makeSlice t x y=>
  simp only [opL] at hq ⊢;rw [<- hx [] x (by simp [Op.operands]),<- hx [] y (by simp [Op.operands])];exact hq
 case alloc t=>exact hq
 case range t x=>
  simp only [opL] at hq ⊢;rw [<- hx [] x (by simp [Op.operands])];exact hq
 case next x sb=>
  cases sb
  ·simp only [opL] at hq ⊢;rw [<- hx [] x (by simp [Op.operands])];exact hq
  simp only [opL] at hq ⊢;rw [<- hx [] x (by simp [Op.operands])];exact hq
 case entry x=>
  simp only [opL] at hq ⊢;rw [<- hx [] x (by simp [Op.operands])];exact hq
 case mapUpdate t m k x=>
  simp only [opL] at hq ⊢;rw [<- hx [] m (by simp [Op.operands]),<- hx [] k (by simp [Op.operands]),<- hx [] x (by simp [Op.operands])];exact hq
 all_goals (simp [opL] at hq)
theorem opL_alloc {K:AV->Heap->Prop} {op:Op} (ha:allocLike op=true) (hq:opL P r h K op):opL P r h (fun v h'=>K v h'/\∃ x,h'=x::h) op:=by
 cases op
 case alloc t=>
  simp only [opL] at hq ⊢;revert hq;split
  ·exact fun hh b=>⟨hh b,_,rfl⟩
  exact fun hh=>hh
 case box t x=>
  simp only [opL] at hq ⊢;revert hq;repeat' split
  all_goals first|exact fun hh=>hh.elim|exact fun hh b=>⟨hh b,_,rfl⟩
 case makeMap t rr=>
  cases rr
  ·simp only [opL] at hq ⊢;exact fun b=>⟨hq b,_,rfl⟩
  simp [opL] at hq
 case makeSlice t x y=>
  simp only [opL] at hq ⊢;revert hq;repeat' split
  all_goals first|exact fun hh=>hh.elim|exact fun hh=>⟨hh.1,fun b=>⟨hh.2 b,_,rfl⟩⟩
 case buildSlice t m ps=>
  simp only [opL] at hq ⊢;revert hq;repeat' split
  all_goals first|exact fun hh=>hh.elim|exact fun hh b=>⟨hh b,_,rfl⟩
 all_goals (simp [allocLike] at ha)
theorem opX_congr {r1 r2:Regs} {K:AV->Heap->Prop} {op:Op} {own own2:List Nat} {d:Option Nat} (h':∀ t∈readsX op.operands.toList,lookR r1 t=lookR r2 t) (hq:opX P own own2 d r1 h K op):opX P own own2 d r2 h K op:=by
 have hx:∀ g,∀ x∈op.operands.toList,opnd r1 g x=opnd r2 g x:=by intro g x hx;exact opnd_congr fun t ht=>h' t (mem_readsX (ht ▸ hx))
 unfold opX at hq ⊢;split at hq
 ·rename_i cl d;split at hq
  ·skip;have hargs:∀ g,opnds r1 g cl.args.toList=opnds r2 g cl.args.toList:=fun g=>opnds_congr fun x hx'=>hx g x (by simp [Op.operands,Call.operands];exact .inr (by simpa using hx'));unfold opO at hq ⊢;simp only [hargs] at hq;exact hq
  skip;exact opL_congr h' hq
 ·rename_i t m parts d;split at hq
  ·skip;unfold opB at hq ⊢;revert hq;split
   ·rw [<- elemsOf_congr (r1:=r1) (fun x hx'=>hx [] x (by simpa [Op.operands] using hx'))];exact fun hh=>hh
   exact fun hh=>hh
  skip;exact opL_congr h' hq
 exact opL_congr h' hq
theorem opX_alloc {K:AV->Heap->Prop} {op:Op} {own own2:List Nat} {d:Option Nat} (ha:allocLike op=true) (hq:opX P own own2 d r h K op):opX P own own2 d r h (fun v h'=>K v h'/\∃ x,h'=x::h) op:=by
 unfold opX at hq ⊢;split at hq
 ·simp [allocLike] at ha
 ·split at hq
  ·skip;unfold opB at hq ⊢;revert hq;repeat' split
   all_goals first|exact fun hh=>hh.elim|exact fun hh b=>⟨hh b,_,rfl⟩
  skip;exact opL_alloc ha hq
 exact opL_alloc ha hq
theorem entryQ_val {all:List Oper} {K:G->AV->Prop} {o:Oper} (hq:entryQ P all r h K o):∃ g v,K g v/\entryQ P all r h (fun g' v'=>g'=g/\v'=v) o:=by
 unfold entryQ at hq ⊢;split at hq
 ·obtain ⟨v,h1,h2⟩:=opQ_val hq;exact ⟨_,v,h1,by simpa using h2⟩
 split at hq<;>try contradiction
 split at hq<;>try contradiction
 split at hq<;>try contradiction
 obtain ⟨v,h1,h2⟩:=opQ_val hq;exact ⟨_,v,h1,by simp [*]⟩
theorem opQ_mono {g:G} {K K':AV->Prop} {op:Op} (hk:∀ v,K v->K' v) (hq:opQ P r g h K op):opQ P r g h K' op:=by
 obtain ⟨v,h1,h2⟩:=opQ_val hq;have:(fun x=>x=v)=fun x=>x=v/\K' x:=by funext x;simp only [eq_iff_iff];exact ⟨fun e=>⟨e,e ▸ hk v h1⟩,fun e=>e.1⟩
 rw [this] at h2;clear this
 -- from the conjunction to its second half,by the same road
 have key:∀ {K1 K2:AV->Prop},(∀ v,K1 v->K2 v)->opQ P r g h K1 op->opQ P r g h K2 op:=by
  intro K1 K2 hk;have har:∀ {k:IntKind} {m:Int},arith g k m K1->arith g k m K2:=by intro k m hh;unfold arith at hh ⊢;cases k<;>first|exact ⟨hh.1,hk _ hh.2⟩|exact hk _ hh
  have hld:∀ {t:TypeId} {cs:List AV},loadI P t cs K1->loadI P t cs K2:=by
   intro t cs;unfold loadI;repeat' split
   all_goals first|exact hk _|exact fun hh=>hh
  have hbin:∀ {t:TypeId} {op:BinOp} {x y:AV},binP P g t op x y K1->binP P g t op x y K2:=by
   intro t op x y;unfold binP;simp only [eqK_iff];repeat' split
   all_goals first
    | exact fun hh=>hh.elim
    | exact hk _
    | exact fun hh=>⟨hh.1,hk _ hh.2⟩
    | exact fun hh=>⟨hh.1,har hh.2⟩
    | exact fun hh=>⟨hh.1,hh.2.1,har hh.2.2⟩
    | exact fun hh=>⟨hh.1,hh.2.1,hk _ hh.2.2⟩
  have hlen:∀ {d:Option TypeDesc} {x:AV},lenP d x K1->lenP d x K2:=by
   intro d x;unfold lenP;repeat' split
   all_goals first|exact hk _|exact fun hh=>hh
  have hsl:∀ {x:AV} {lo hi:Int} {b:Bool},sliceP g x lo hi b K1->sliceP g x lo hi b K2:=by
   intro x lo hi b;unfold sliceP;repeat' split
   all_goals first|exact fun hh=>hh.elim|exact fun hh=>⟨hh.1,hk _ hh.2⟩
  have hru:∀ {s:TypeId} {xs:List (List AV)},runesP P s xs K1->runesP P s xs K2:=by
   intro s xs;unfold runesP;repeat' split
   all_goals first|exact fun hh=>hh.elim|exact fun ⟨ns,h1,hh⟩=>⟨ns,h1,hk _ hh⟩
  unfold opQ;repeat' split
  all_goals first
   | exact fun hh=>hh.elim
   | exact hk _
   | exact hru
   | exact hld
   | exact har
   | exact hbin
   | exact hlen
   | exact hsl
   | exact fun ⟨cs,l,h1,h2,hq⟩=>⟨cs,l,h1,h2,hld hq⟩
   | exact fun ⟨j,y,h1,hq⟩=>⟨j,y,h1,hk _ hq⟩
   | exact fun ⟨es,v,f,h1,h2,hq⟩=>⟨es,v,f,h1,h2,hk _ hq⟩
   | exact fun ⟨j,l,h1,h2,hq⟩=>⟨j,l,h1,h2,hk _ hq⟩
   | exact fun ⟨h1,hq⟩=>⟨h1,hk _ hq⟩
   | exact fun ⟨j,h1,hq⟩=>⟨j,h1,hk _ hq⟩
 exact key (fun v h=>h.2) h2
theorem entryQ_heap {all:List Oper} {K:G->AV->Prop} {o:Oper} {h':Heap} (hh:∀ g K,opQ P r g h K o.op->opQ P r g h' K o.op) (hq:entryQ P all r h K o):entryQ P all r h' K o:=by
 unfold entryQ at hq ⊢;split at hq
 ·rename_i hgd;try simp only [hgd]
  exact hh _ _ hq
 rename_i j wt hgd;split at hq<;>try contradiction
 rename_i oj h1;split at hq<;>try contradiction
 rename_i tj h2;split at hq<;>try contradiction
 rename_i gj b h3;try simp only [hgd,h1,h2,h3]
 exact hh _ _ hq
theorem entryQ_free {all:List Oper} {g:G} {v:AV} {o:Oper} {h':Heap} (hf:hfree r g o.op=true) (hq:entryQ P all r h (fun g' v'=>g'=g/\v'=v) o) :
  entryQ P all r h' (fun g' v'=>g'=g/\v'=v) o:=by
 unfold entryQ at hq ⊢;split at hq
 ·rename_i hg;obtain ⟨_,hgg,_⟩:=opQ_some hq;subst hgg;exact opQ_free hf hq
 rename_i j wt hgd;split at hq<;>try contradiction
 rename_i oj h1;split at hq<;>try contradiction
 rename_i tj h2;split at hq<;>try contradiction
 rename_i gj b h3;try simp only [hgd,h1,h2,h3]
 obtain ⟨_,hgg,_⟩:=opQ_some hq;subst hgg;exact opQ_free hf hq
theorem entryQ_congr {all:List Oper} {r1 r2:Regs} {K:G->AV->Prop} {o:Oper} (h':∀ t∈readsOf all o,lookR r1 t=lookR r2 t) (hq:entryQ P all r1 h K o):entryQ P all r2 h K o:=by
 have hop:∀ t∈readsX o.op.operands.toList,lookR r1 t=lookR r2 t:=fun t ht=>h' t (by unfold readsOf;exact List.mem_append_right _ ht);unfold entryQ at hq ⊢;split at hq
 ·rename_i hgd;try simp only [hgd]
  exact opQ_congr hop hq
 rename_i j wt hgd;split at hq<;>try contradiction
 rename_i oj h1;split at hq<;>try contradiction
 rename_i tj h2;have:=h' tj (by unfold readsOf;simp [hgd,h1,h2]);rw [this] at hq;split at hq<;>try contradiction
 rename_i gj b h3;try simp only [hgd,h1,h2,h3]
 exact opQ_congr hop hq
theorem entryQ_ok {all:List Oper} {gg:G} {vv:AV} {o:Oper} {i:Nat} {K:Act->World->Prop} {Q:Exit->Act->World->Prop} (hE:entryQ P all r h (fun g v=>g=gg/\v=vv) o) (hc:Conc n X g0 r h a w)
  (hi:all.toArray[i]?=some o)
  (hn:∀ g' u w',CW X g' h w'->Step X g0 h w g' h w'->(holdsC a gg->(∀ e∈gg,e.2.1=e.2.2)/\Rep ⟨g',live X h,w'⟩ vv u)->(¬ holdsC a gg->u=undef)->K (a.put o.dst u) w') :
  wpOp P all.toArray Q i K a w:=by
 have hg0:holdsC a []:=fun e he=>by cases he
 unfold wpOp;simp only [hi];unfold entryQ at hE;split at hE
 ·rename_i hgd;rw [if_pos (wanted_none hgd)];left;obtain ⟨_,hgg,_⟩:=opQ_some hE;subst hgg;refine opQ_ok hE hc hg0 (by simp) ?_;rintro v g' u w' ⟨_,rfl⟩ hcw hrep hst;exact hn g' u w' hcw hst (fun _=>⟨by simp,hrep⟩) (fun hh=>absurd hg0 hh)
 rename_i j wt hgd;split at hE<;>try contradiction
 rename_i oj hoj;split at hE<;>try contradiction
 rename_i tj htj;split at hE<;>try contradiction
 rename_i gj b hlk;obtain ⟨_,hgg,_⟩:=opQ_some hE;have hreg:=hc.regs tj gj (.bool b) hlk
 have hy:yielded all.toArray a.tmps j=match a.tmps[tj]? with|some (.bool b)=>some b|_=>none:=by
  unfold yielded;simp [hoj,htj];rcases a.tmps[tj]? with _|v
  ·rfl
  cases v<;>rfl
 have hwant:Region.wanted o (yielded all.toArray a.tmps)=(yielded all.toArray a.tmps j == some wt):=(by simp [Region.wanted,hgd]);have hyes:holdsC a gj->Region.wanted o (yielded all.toArray a.tmps)=decide (b=wt)/\a.tmps[tj]?=some (.bool b)/\∀ e∈gj,e.2.1=e.2.2:=by intro hh;obtain ⟨h1,u,h2,h3⟩:=hreg.1 hh;rw [Rep] at h3;subst h3;refine ⟨?_,h2,h1⟩;rw [hwant,hy,h2];simp only;cases b<;>cases wt<;>rfl
 have hnot:¬ holdsC a gj->Region.wanted o (yielded all.toArray a.tmps)=false:=by intro hh;have h1:=hreg.2 hh;rw [hwant,hy,h1];rfl
 have hpath:holdsC a (gj++[(tj,b,wt)])↔(holdsC a gj/\b=wt):=by
  constructor
  ·intro hh;have h1:holdsC a gj:=fun e he=>hh e (by simp [he]);refine ⟨h1,?_⟩;have h2:=hh (tj,b,wt) (by simp);simp only at h2;rw [(hyes h1).2.1] at h2;cases h2;rfl
  rintro ⟨h1,rfl⟩ e he;simp only [List.mem_append,List.mem_singleton] at he;rcases he with he|rfl
  ·exact h1 e he
  exact (hyes h1).2.1
 by_cases hh:holdsC a (gj++[(tj,b,wt)])
 ·obtain ⟨h1,h2⟩:=hpath.1 hh;obtain ⟨y1,y2,y3⟩:=hyes h1;rw [y1];simp only [h2,decide_true,if_true];left
  have he:∀ e∈gj++[(tj,b,wt)],e.2.1=e.2.2:=by
   intro e he;simp only [List.mem_append,List.mem_singleton] at he;rcases he with he|rfl
   ·exact y3 e he
   exact h2
  refine opQ_ok hE hc hh he ?_;rintro v g' u w' ⟨_,rfl⟩ hcw hrep hst;exact hn g' u w' hcw hst (fun _=>⟨hgg ▸ he,hrep⟩) (fun hno=>absurd (hgg ▸ hh) hno)
 have hw:Region.wanted o (yielded all.toArray a.tmps)=false:=by
  by_cases h1:holdsC a gj
  ·rw [(hyes h1).1];simp only [decide_eq_false_iff_not];intro hb;exact hh (hpath.2 ⟨h1,hb⟩)
  exact hnot h1
 rw [hw];simp only [Bool.false_eq_true,if_false];exact hn g0 undef w hc.cw (Step.refl _ _ _ _) (fun hy=>absurd (hgg ▸ hy) hh) (fun _=>rfl)
end Go.Abs
/-
 The abstract layer,part N: whatever the order,a drawn region comes to the same abstract state.
-/
namespace Go.Abs
open Go
variable {P:Program} {n:Nat} {X:Nat->Prop} {g0:Gh} {r:Regs} {h:Heap} {a:Act} {w:World}
theorem lookR_cons {d t:Nat} {x:G × AV}:lookR ((d,x)::r) t=if d=t then some x else lookR r t:=by
 conv=>lhs;unfold lookR
 split
 ·rename_i hb;rw [if_pos (Nat.eq_of_beq_eq_true hb)]
 rename_i hb;rw [if_neg (fun e=>by subst e;rw [Nat.beq_refl] at hb;cases hb)]
def Cl (cl:List Nat) (i j:Nat):Prop:=(clN cl i).testBit j=true
theorem cloAt_bit {cl:List Nat} {j:Nat}:∀ {es:List Edge},(cloAt cl es).testBit j=true↔∃ e∈es,Region.binds .any e=true/\(e.on=j\/Cl cl e.on j)
 | []=>by simp [cloAt]
 | e::es=>by
   unfold cloAt;have ih:=cloAt_bit (cl:=cl) (j:=j) (es:=es);split
   ·rename_i hb;have e1:∀ a b:Nat,Nat.lor a b=a ||| b:=fun _ _=>rfl;rw [e1,e1,Nat.testBit_or,Nat.testBit_or,Nat.testBit_two_pow];simp only [Bool.or_eq_true,decide_eq_true_eq,ih,List.mem_cons];constructor
    ·rintro ((h|h)|⟨e',h1,h2⟩)
     ·exact ⟨e,.inl rfl,hb,.inl h⟩
     ·exact ⟨e,.inl rfl,hb,.inr h⟩
     exact ⟨e',.inr h1,h2⟩
    rintro ⟨e',rfl|h1,h2,h3⟩
    ·exact .inl h3
    exact .inr ⟨e',h1,h2,h3⟩
   rename_i hb;rw [ih];constructor
   ·rintro ⟨e',h1,h2⟩;exact ⟨e',by simp [h1],h2⟩
   rintro ⟨e',h1,h2⟩;rcases List.mem_cons.1 h1 with rfl|h1
   ·rw [h2.1] at hb;cases hb
   exact ⟨e',h1,h2⟩
structure DrawS (all:List Oper) (cl:List Nat) (ord:List Nat):Prop where
 e1:∀ i o,all[i]?=some o->∀ e∈o.after.toList,Region.binds .any e=true->e.on<i
 e2:∀ i o,all[i]?=some o->clN cl i=cloAt cl o.after.toList
 p2:∀ i,i<all.length->i∈ord
 p3:ord.Nodup
 p4:∀ pre i post,ord=pre++i::post->∃ o,all[i]?=some o/\∀ e∈o.after.toList,Region.binds .any e=true->e.on∈pre
 n1:∀ (i:Nat) (o:Oper) (t:Nat),all[i]?=some o->t∈readsOf all o->∀ (j:Nat) (o':Oper),all[j]?=some o'->o'.dst=some t->Cl cl i j\/Cl cl j i
 d1:∀ (i j:Nat) (o o':Oper) (d:Nat),all[i]?=some o->all[j]?=some o'->o.dst=some d->o'.dst=some d->i=j
theorem nodupB_ok:∀ {l:List Nat},drawOK.nodupB l=true->l.Nodup
 | [],_=>List.nodup_nil
 | x::l,h=>by simp only [drawOK.nodupB,Bool.and_eq_true,Bool.not_eq_true',List.contains_eq_mem,decide_eq_false_iff_not] at h;exact List.nodup_cons.2 ⟨h.1,nodupB_ok h.2⟩
theorem ordOK_ok {all:List Oper}:∀ {l pre0:List Nat},drawOK.ordOK all pre0 l=true->∀ pre i post,l=pre++i::post ->
  ∃ o,all[i]?=some o/\∀ e∈o.after.toList,Region.binds .any e=true->e.on∈pre0\/e.on∈pre
 | [],_,_,pre,i,post,he=>by simp at he
 | x::l,pre0,h,pre,i,post,he=>by
   simp only [drawOK.ordOK,Bool.and_eq_true] at h;cases pre with
   | nil=>
     simp at he;obtain ⟨rfl,rfl⟩:=he;have h1:=h.1;split at h1
     ·rename_i o ho;refine ⟨o,ho,fun e he hb=>.inl ?_⟩;have:=List.all_eq_true.1 h1 e he;simpa [hb] using this
     cases h1
   | cons y pre=>
     simp at he;obtain ⟨rfl,he⟩:=he;obtain ⟨o,ho,h2⟩:=ordOK_ok h.2 pre i post he;refine ⟨o,ho,fun e he hb=>?_⟩;rcases h2 e he hb with h3|h3
     ·rcases List.mem_cons.1 h3 with h3|h3
      ·exact .inr (by simp [h3])
      exact .inl h3
     exact .inr (by simp [h3])
theorem zip_mem {all:List Oper} {i:Nat} {o:Oper}:(i,o)∈(all.zipIdx.map fun (o,i)=>(i,o))↔all[i]?=some o:=by
 simp only [List.mem_map,Prod.exists,Prod.mk.injEq,List.mem_zipIdx_iff_getElem?];constructor
 ·rintro ⟨a,b,h,rfl,rfl⟩;exact h
 intro h;exact ⟨o,i,h,rfl,rfl⟩
theorem isDst_iff {t:Nat} {o:Oper}:isDst t o=true↔o.dst=some t:=by
 unfold isDst;split
 ·rename_i d hd;rw [hd];constructor
  ·intro h;rw [Nat.eq_of_beq_eq_true h]
  intro h;cases h;exact Nat.beq_refl _
 rename_i hd;simp [hd]
theorem drawS {all:List Oper} {ord:List Nat} (hk:drawOK all ord=true):DrawS all (clos all []) ord:=by
 unfold drawOK at hk;simp only [Bool.and_eq_true] at hk;obtain ⟨⟨⟨⟨⟨⟨h1,h2⟩,h3⟩,h4⟩,h5⟩,h6⟩,h7⟩:=hk;have h1:=List.all_eq_true.1 h1;have h3:=List.all_eq_true.1 h3;have h6:=List.all_eq_true.1 h6;have h7:=List.all_eq_true.1 h7;refine ⟨?_,?_,?_,nodupB_ok h4,?_,?_,?_⟩
 ·intro i o ho e he hb;have:=h1 (i,o) (zip_mem.2 ho);simp only [Bool.and_eq_true] at this;have:=List.all_eq_true.1 this.1 e he;simp only [hb,Bool.not_true,Bool.false_or,Nat.blt_eq] at this;exact this
 ·intro i o ho;have:=h1 (i,o) (zip_mem.2 ho);simp only [Bool.and_eq_true] at this;exact Nat.eq_of_beq_eq_true this.2
 ·intro i hi;have:=h3 i (List.mem_range.2 hi);simpa using this
 ·intro pre i post he;obtain ⟨o,ho,hh⟩:=ordOK_ok h5 pre i post he;exact ⟨o,ho,fun e he hb=>(hh e he hb).resolve_left (by simp)⟩
 ·intro i o t ho ht j o' ho' hd;have:=h6 (i,o) (zip_mem.2 ho);simp only at this;have:=List.all_eq_true.1 this t ht;unfold nearOK at this;have:=List.all_eq_true.1 this (j,o') (zip_mem.2 ho');simp only [isDst_iff.2 hd,Bool.not_true,Bool.false_or,Bool.or_eq_true] at this;exact this
 intro i j o o' d ho ho' hd hd';have:=h7 (i,o) (zip_mem.2 ho);simp only at this;have:=List.all_eq_true.1 this (j,o') (zip_mem.2 ho');simp only [Bool.or_eq_true,hd,isDst_iff.2 hd',Bool.not_true,or_false,Bool.false_eq_true] at this;exact Nat.eq_of_beq_eq_true this
section
variable {all:List Oper} {cl:List Nat} {ord:List Nat}
theorem clo_closed (hs:DrawS all cl ord) {S:Nat->Prop} (hS:∀ i,S i->∃ o,all[i]?=some o/\∀ e∈o.after.toList,Region.binds .any e=true->S e.on) :
  ∀ i,S i->∀ j,Cl cl i j->S j/\j<i:=by
 intro i;induction i using Nat.strongRecOn with
 | _ i ih=>
   intro hi j hj;obtain ⟨o,ho,hc⟩:=hS i hi;unfold Cl at hj;rw [hs.e2 i o ho,cloAt_bit] at hj;obtain ⟨e,he,hb,h1⟩:=hj;have hlt:=hs.e1 i o ho e he hb;rcases h1 with rfl|h1
   ·exact ⟨hc e he hb,hlt⟩
   obtain ⟨k1,k2⟩:=ih e.on hlt (hc e he hb) j h1;exact ⟨k1,by omega⟩
def entR (ents:List (Nat × Nat × G × AV)) (r:Regs):Regs:=ents.map (·.2)++r
theorem look_none {ents:List (Nat × Nat × G × AV)} {t:Nat} (h:∀ x∈ents,x.2.1≠t):lookR (entR ents r) t=lookR r t:=by
 induction ents with
 | nil=>rfl
 | cons x ents ih=>
   obtain ⟨i,d,g,v⟩:=x;have hne:=h _ List.mem_cons_self;simp only at hne;show lookR ((d,g,v)::entR ents r) t=_;rw [lookR_cons,if_neg hne];exact ih fun x hx=>h x (List.mem_cons_of_mem _ hx)
theorem look_some {ents:List (Nat × Nat × G × AV)} {t j:Nat} {g:G} {v:AV} (hm:(j,t,g,v)∈ents) (hu:∀ x∈ents,x.2.1=t->x=(j,t,g,v)) :
  lookR (entR ents r) t=some (g,v):=by
 induction ents with
 | nil=>cases hm
 | cons x ents ih=>
   by_cases hx:x.2.1=t
   ·have:=hu x List.mem_cons_self hx;subst this;show lookR ((t,g,v)::entR ents r) t=_;rw [lookR_cons,if_pos rfl]
   have hm':(j,t,g,v)∈ents:=by
    rcases List.mem_cons.1 hm with rfl|hm
    ·exact absurd rfl hx
    exact hm
   obtain ⟨i,d,g',v'⟩:=x;show lookR ((d,g',v')::entR ents r) t=_;rw [lookR_cons,if_neg hx];exact ih hm' fun x hx=>hu x (List.mem_cons_of_mem _ hx)
def Look (all:List Oper) (cl:List Nat) (ents:List (Nat × Nat × G × AV)) (r:Regs) (k t:Nat) (x:Option (G × AV)):Prop:=
 (∃ j g v,Cl cl k j/\(j,t,g,v)∈ents/\x=some (g,v))\/((∀ j o,all[j]?=some o->o.dst=some t->Cl cl j k)/\x=lookR r t)
structure DInv (n:Nat) (P:Program) (all:List Oper) (cl ord:List Nat) (r:Regs) (kn rest nf:List Nat) (ents:List (Nat × Nat × G × AV)) (h:Heap) (L:Array Bool):Prop where
 split:ord=kn++rest
 lsize:L.size=all.length
 lsub:∀ i,L.getD i false=true->i∈kn
 lclosed:∀ i,L.getD i false=true->∃ o,all[i]?=some o/\∀ e∈o.after.toList,Region.binds .any e=true->L.getD e.on false=true
 ent1:∀ x∈ents,x.1∈kn/\∃ o,all[x.1]?=some o/\o.dst=some x.2.1
 ent2:∀ x∈ents,∀ y∈ents,x.1=y.1->x=y
 ent3:∀ k∈kn,∀ o d,all[k]?=some o->o.dst=some d->∃ g v,(k,d,g,v)∈ents
 path:∀ x∈ents,∀ e∈x.2.2.1,∀ j o,all[j]?=some o->o.dst=some e.1->Cl cl x.1 j
 fact:∀ k∈kn,L.getD k false=false->∃ o g v Rk,all[k]?=some o/\entryQ P all Rk h (fun g' v'=>g'=g/\v'=v) o /\
  (∀ t∈readsOf all o,Look all cl ents r k t (lookR Rk t)) /\
  (∀ d,o.dst=some d->(k,d,g,v)∈ents/\d<n/\(∀ e∈g,e.1≠d)/\∀ t gg v,lookR r t=some (gg,v)->∀ e∈gg,e.1≠d) /\
  (k ∉ nf->∀ h',entryQ P all Rk h' (fun g' v'=>g'=g/\v'=v) o)
variable {kn rest nf:List Nat} {ents:List (Nat × Nat × G × AV)} {L:Array Bool}
theorem DInv.kn_closed (hi:DInv n P all cl ord r kn rest nf ents h L) (hs:DrawS all cl ord) (i:Nat) (hk:i∈kn):∃ o,all[i]?=some o/\∀ e∈o.after.toList,Region.binds .any e=true->e.on∈kn:=by obtain ⟨pre,post,rfl⟩:=List.append_of_mem hk;obtain ⟨o,ho,hh⟩:=hs.p4 pre i (post++rest) (by rw [hi.split];simp);exact ⟨o,ho,fun e he hb=>by have:=hh e he hb;simp [this]⟩
theorem DInv.kn_clo (hi:DInv n P all cl ord r kn rest nf ents h L) (hs:DrawS all cl ord) {i j:Nat} (hk:i∈kn) (hc:Cl cl i j):j∈kn/\j<i:=
 clo_closed hs (S:=fun i=>i∈kn) (fun i hk=>hi.kn_closed hs i hk) i hk j hc
theorem look_of (hi:DInv n P all cl ord r kn rest nf ents h L) (hs:DrawS all cl ord) {k:Nat} {o:Oper} (hk:all[k]?=some o) {ents':List (Nat × Nat × G × AV)} (hsub:∀ x∈ents',x∈ents)
  (hcl:∀ j,Cl cl k j->j∈kn/\∀ x∈ents,x.1=j->x∈ents') (hno:∀ x∈ents',¬ Cl cl x.1 k) (t:Nat) (ht:t∈readsOf all o):Look all cl ents r k t (lookR (entR ents' r) t):=by
 have huniq:∀ x∈ents,∀ j o',all[j]?=some o'->o'.dst=some t->x.2.1=t->x.1=j:=by intro x hx j o' ho' hd' hxt;obtain ⟨_,o2,ho2,hd2⟩:=hi.ent1 x hx;rw [hxt] at hd2;exact hs.d1 _ _ _ _ _ ho2 ho' hd2 hd'
 by_cases hw:∃ (j:Nat) (o':Oper),all[j]?=some o'/\o'.dst=some t
 ·obtain ⟨j,o',ho',hd'⟩:=hw;rcases hs.n1 k o t hk ht j o' ho' hd' with hc|hc
  ·obtain ⟨hj,hin⟩:=hcl j hc;obtain ⟨g,v,hm⟩:=hi.ent3 j hj o' t ho' hd';refine .inl ⟨j,g,v,hc,hm,look_some (hin _ hm rfl) ?_⟩;intro x hx hxt;exact hi.ent2 x (hsub x hx) _ hm (huniq x (hsub x hx) j o' ho' hd' hxt)
  refine .inr ⟨fun j2 o2 ho2 hd2=>by rw [hs.d1 _ _ _ _ _ ho2 ho' hd2 hd'];exact hc,look_none ?_⟩;intro x hx hxt;have:=huniq x (hsub x hx) j o' ho' hd' hxt;exact hno x hx (this ▸ hc)
 refine .inr ⟨fun j o' ho' hd'=>absurd ⟨j,o',ho',hd'⟩ hw,look_none ?_⟩;intro x hx hxt;obtain ⟨_,o2,ho2,hd2⟩:=hi.ent1 x (hsub x hx);exact hw ⟨_,o2,ho2,hxt ▸ hd2⟩
theorem look_fun (hi:DInv n P all cl ord r kn rest nf ents h L) (hs:DrawS all cl ord) {k t:Nat} {x y:Option (G × AV)} (hx:Look all cl ents r k t x) (hy:Look all cl ents r k t y)
  (hac:∀ j,Cl cl k j->Cl cl j k->False):x=y:=by
 rcases hx with ⟨j,g,v,h1,h2,rfl⟩|⟨h1,rfl⟩<;>rcases hy with ⟨j',g',v',k1,k2,rfl⟩|⟨k1,rfl⟩
 ·obtain ⟨_,o,ho,hd⟩:=hi.ent1 _ h2;obtain ⟨_,o',ho',hd'⟩:=hi.ent1 _ k2;have:=hs.d1 _ _ _ _ _ ho ho' hd hd';have:=hi.ent2 _ h2 _ k2 this;cases this;rfl
 ·obtain ⟨_,o,ho,hd⟩:=hi.ent1 _ h2;exact (hac j h1 (k1 _ _ ho hd)).elim
 ·obtain ⟨_,o,ho,hd⟩:=hi.ent1 _ k2;exact (hac j' k1 (h1 _ _ ho hd)).elim
 rfl
def entL (L:Array Bool) (ents:List (Nat × Nat × G × AV)):List (Nat × Nat × G × AV):=ents.filter fun x=>L.getD x.1 false
theorem mem_entL {x:Nat × Nat × G × AV}:x∈entL L ents↔x∈ents/\L.getD x.1 false=true:=by simp [entL,List.mem_filter]
theorem look_filter {p q:(Nat × Nat × G × AV)->Bool} {t:Nat}:∀ {ents:List (Nat × Nat × G × AV)},(∀ x∈ents,x.2.1=t->p x=q x)->lookR (entR (ents.filter p) r) t=lookR (entR (ents.filter q) r) t
 | [],_=>rfl
 | x::ents,h=>by
   have ih:=look_filter (p:=p) (q:=q) (t:=t) (ents:=ents) fun y hy=>h y (List.mem_cons_of_mem _ hy);have skip:∀ l:List (Nat × Nat × G × AV),x.2.1≠t->lookR (entR (x::l) r) t=lookR (entR l r) t:=by intro l hne;obtain ⟨i,d,g,v⟩:=x;show lookR ((d,g,v)::entR l r) t=_;rw [lookR_cons,if_neg hne]
   have keep:∀ l l':List (Nat × Nat × G × AV),lookR (entR l r) t=lookR (entR l' r) t->lookR (entR (x::l) r) t=lookR (entR (x::l') r) t:=by intro l l' he;obtain ⟨i,d,g,v⟩:=x;show lookR ((d,g,v)::entR l r) t=lookR ((d,g,v)::entR l' r) t;rw [lookR_cons,lookR_cons,he]
   simp only [List.filter_cons];by_cases hx:x.2.1=t
   ·rw [h x List.mem_cons_self hx];split
    ·exact keep _ _ ih
    exact ih
   split<;>split
   ·exact keep _ _ ih
   ·rw [skip _ hx];exact ih
   ·rw [skip _ hx];exact ih
   exact ih
theorem Conc.put' {g':Gh} {h':Heap} {w':World} (hc:Conc n X g0 r h a w) (hcw:CW X g' h' w') (hst:Step X g0 h w g' h' w') {d:Nat} (hd:d<n) {gg:G} {v:AV} {u:Value}
  (n1:∀ e∈gg,e.1≠d) (n2:∀ t gg v,lookR r t=some (gg,v)->∀ e∈gg,e.1≠d) (h1:holdsC a gg->(∀ e∈gg,e.2.1=e.2.2)/\Rep ⟨g',live X h',w'⟩ v u) (h2:¬ holdsC a gg->u=undef) :
  Conc n X g' ((d,gg,v)::r) h' (a.put (some d) u) w':=by
 have hget:(a.put (some d) u).tmps[d]?=some u:=by have:=hc.size;simp [Act.put,Array.getElem?_setIfInBounds,show d<a.tmps.size from by omega]
 refine ⟨hcw,?_,hc.defers,by simpa [Act.put] using hc.size⟩;intro t gg' v' hl;unfold lookR at hl;split at hl
 ·rename_i ht;have ht:=Nat.eq_of_beq_eq_true ht;subst ht;cases hl
  rw [holdsC_put n1,hget];exact ⟨fun hh=>⟨(h1 hh).1,u,rfl,(h1 hh).2⟩,fun hh=>by rw [h2 hh]⟩
 rename_i ht;have hne:t≠d:=by intro e;subst e;rw [Nat.beq_refl] at ht;cases ht
 rw [holdsC_put (n2 t gg' v' hl)];have hg:(a.put (some d) u).tmps[t]?=a.tmps[t]?:=(by simp [Act.put,Array.getElem?_setIfInBounds_ne (Ne.symm hne)]);rw [hg];exact (hc.step hcw hst).regs t gg' v' hl
theorem look_entR {ents:List (Nat × Nat × G × AV)} {t:Nat} {gg:G} {v:AV} (h:lookR (entR ents r) t=some (gg,v)):(∃ x∈ents,x.2=(t,gg,v))\/lookR r t=some (gg,v):=by
 induction ents with
 | nil=>exact .inr h
 | cons x ents ih=>
   obtain ⟨i,d,g',v'⟩:=x;have h2:lookR ((d,g',v')::entR ents r) t=some (gg,v):=h;clear h;rw [lookR_cons] at h2;split at h2
   ·rename_i hb;subst hb;cases h2
    exact .inl ⟨_,List.mem_cons_self,rfl⟩
   rcases ih h2 with ⟨x,hx,e⟩|h
   ·exact .inl ⟨x,List.mem_cons_of_mem _ hx,e⟩
   exact .inr h
theorem getD_set {L:Array Bool} {i j:Nat}:(L.setIfInBounds i true).getD j false=true->i=j\/L.getD j false=true:=by
 intro hh;by_cases e:i=j
 ·exact .inl e
 rw [getD_set_ne false e] at hh;exact .inr hh
theorem getD_true_false {L:Array Bool} {i:Nat} (h:i<L.size):L.getD i true=L.getD i false:=by simp [h]
theorem conc_listed (hi:DInv n P all cl ord r kn rest nf ents h L) (hs:DrawS all cl ord) {k:Nat} {o:Oper} (hk:k∈kn) (hko:all[k]?=some o) (hkl:L.getD k false=false)
  (hlt:k<L.size) {g v} (hdst:∀ d,o.dst=some d->(k,d,g,v)∈ents) :
  ∀ t gg vv,lookR (entR (entL (L.setIfInBounds k true) ents) r) t=some (gg,vv)->lookR (match o.dst with|some d=>(d,g,v)::entR (entL L ents) r|none=>entR (entL L ents) r) t=some (gg,vv):=by
 intro t gg vv hl;have hset:(L.setIfInBounds k true).getD k false=true:=(by simp [hlt]);cases hd:o.dst with
 | none=>
   simp only;rw [<- hl];refine look_filter fun x hx hxt=>?_
   have hne:k≠x.1:=by
    intro e;obtain ⟨_,o2,ho2,hd2⟩:=hi.ent1 x hx;rw [<- e,hko] at ho2;cases ho2
    rw [hd] at hd2;cases hd2
   simp only [getD_set_ne false hne]
 | some d=>
   simp only;have hm:=hdst d hd;have huniq:∀ x∈ents,x.2.1=d->x=(k,d,g,v):=by intro x hx hxd;obtain ⟨_,o2,ho2,hd2⟩:=hi.ent1 x hx;rw [hxd] at hd2;exact hi.ent2 x hx _ hm (hs.d1 _ _ _ _ _ ho2 hko hd2 hd)
   by_cases ht:t=d
   ·subst ht
    have:lookR (entR (entL (L.setIfInBounds k true) ents) r) t=some (g,v):=
     look_some (mem_entL.2 ⟨hm,hset⟩) fun x hx hxt=>huniq x (mem_entL.1 hx).1 hxt
    rw [this] at hl;rw [lookR_cons,if_pos rfl];exact hl
   rw [lookR_cons,if_neg (Ne.symm ht),<- hl];refine look_filter fun x hx hxt=>?_
   have hne:k≠x.1:=by
    intro e;obtain ⟨_,o2,ho2,hd2⟩:=hi.ent1 x hx;rw [<- e,hko] at ho2;cases ho2
    rw [hd] at hd2;have hd3:d=x.2.1:=(by injection hd2);exact ht (hxt.symm.trans hd3.symm)
   simp only [getD_set_ne false hne]
end
end Go.Abs
