/- Small laws for the walks and contracts of functions; each theorem names its conditions. -/
import Derived.Test.YtdjdbggpgmddnaaGreatN9
/-
 The abstract layer,part T: the evaluator again,over places in a function's code instead of the code itself,so that a goal stays small.
-/
set_option linter.unusedVariables false
namespace Go.Abs
open Go
def child:Bool->Code->Code
 | false,.seq a _=>a
 | true,.seq _ b=>b
 | false,.cond _ a _=>a
 | true,.cond _ _ b=>b
 | _,.block _ a=>a
 | _,.loop a=>a
 | _,_=>.skip
def bodyOf (F:Func):Code:=match F.body with|some c=>c|none=>.skip
def cat (F:Func):List Bool->Code
 | []=>bodyOf F
 | b::p=>child b (cat F p)
def opsAt (F:Func) (p:List Bool):List Oper:=match cat F p with|.region _ ops _=>ops.toList|_=>[]
theorem setP_mono {n:Nat} {d:Option Nat} {g:G} {v:AV} {r:Regs} {K K':Regs->Prop} (hk:∀ r,K r->K' r) (h:setP n d g v r K):setP n d g v r K':=by
 cases d with
 | none=>exact hk _ h
 | some d=>
   unfold setP at h ⊢;simp only at h ⊢;cases h1:Nat.blt d n with
   | false=>rw [h1] at h;exact h.elim
   | true=>
     rw [h1] at h;simp only at h ⊢;cases h2:notIn ((d,g,v)::r) d with
     | false=>rw [h2] at h;exact h.elim
     | true=>rw [h2] at h;exact hk _ h
theorem storeF_mono {P:Program} {r:Regs} {h:Heap} {t:TypeId} {d:Nat} {y:Operand} {K K':Regs->Heap->Prop} (hk:∀ r h,K r h->K' r h) (hs:storeF P r h t d y K):storeF P r h t d y K':=by
 unfold storeF at hs ⊢;split at hs<;>try contradiction
 split at hs<;>try contradiction
 split at hs<;>try contradiction
 split at hs<;>try contradiction
 obtain ⟨cs,h',a,b,e⟩:=hs;exact ⟨cs,h',a,b,hk _ _ e⟩
theorem normK_mono {r:Regs} {k k':Regs->Prop} (hk:∀ r,k r->k' r):∀ {ts:List Nat},normK r k ts->normK r k' ts
 | [],h=>hk _ h
 | t::ts,h=>by
   unfold normK at h ⊢;split at h
   ·exact normK_mono (fun l hl=>hk _ hl) h
   exact normK_mono hk h
theorem frzP_mono {K K':Regs->Heap->Prop} (hk:∀ r h,K r h->K' r h):∀ {ds:List Nat} {r:Regs} {h:Heap},frzP K ds r h->frzP K' ds r h
 | [],r,h,hh=>hk _ _ hh
 | d::ds,r,h,hh=>by
   unfold frzP at hh ⊢;split at hh<;>try contradiction
   obtain ⟨cs,h',a,b⟩:=hh;exact ⟨cs,h',a,frzP_mono hk b⟩
theorem entryQ_mono {P:Program} {all:List Oper} {r:Regs} {h:Heap} {K K':G->AV->Prop} {o:Oper} (hk:∀ g v,K g v->K' g v) (hh:entryQ P all r h K o):entryQ P all r h K' o:=by
 unfold entryQ at hh ⊢;split at hh
 ·exact opQ_mono (hk _) hh
 split at hh<;>try contradiction
 split at hh<;>try contradiction
 split at hh<;>try contradiction
 exact opQ_mono (hk _) hh
def aft (R:Regs->Heap->Prop) (n:Nat) (d:Option Nat) (g:G) (r:Regs) (h:Heap) (v:AV):Prop:=setP n d g v r fun r'=>R r' h
def aftL (R:Regs->Heap->Prop) (n:Nat) (d:Option Nat) (r:Regs) (v:AV) (h:Heap):Prop:=setP n d [] v r fun r'=>R r' h
def aftD (R:List Nat->Regs->Heap->Prop) (all:List Oper) (i n:Nat) (o:Oper) (nf:List Nat) (r:Regs) (h:Heap) (g:G) (v:AV):Prop:=
 match pathOK (clos all []) all i g with
 | true=>setP n o.dst g v r fun r'=>R (match hfree r g o.op with|true=>nf|false=>i::nf) r' h
 | false=>False
def rdraw (P:Program) (c:Cfg) (n:Nat) (all:List Oper) (K:Regs->Heap->Prop):List Nat->List Nat->Regs->Heap->Prop
 | [],_,r,h=>K r h
 | i::rest,nf,r,h=>match all[i]? with
   | none=>False
   | some o=>match loudD c o with
     | true=>(match o.guard with
       | none=>(match lateOK (clos all []) i rest with
         | true=>(match (match allocLike o.op with|true=>true|false=>(match calm r o.op with|true=>nfOKc (clos all []) all i nf|false=>nfOK (clos all []) i nf)) with
           | true=>opX P c.own c.lc o.dst r h (aftL (rdraw P c n all K rest nf) n o.dst r) o.op
           | false=>False)
         | false=>False)
       | some _=>False)
     | false=>entryQ P all r h (aftD (rdraw P c n all K rest) all i n o nf r h) o
theorem rdraw_ok {P:Program} {c:Cfg} {n:Nat} {all:List Oper} {K K':Regs->Heap->Prop} (hk:∀ r h,K r h->K' r h):∀ {l nf:List Nat} {r:Regs} {h:Heap},rdraw P c n all K l nf r h->regD P c n all (clos all []) K' l nf r h
 | [],nf,r,h,hh=>hk _ _ hh
 | i::l,nf,r,h,hh=>by
   unfold rdraw at hh;unfold regD;split at hh<;>try contradiction
   rename_i o ho;split at hh
   ·split at hh<;>try contradiction
    split at hh<;>try contradiction
    split at hh<;>try contradiction
    rename_i h1 _ h2 _ h3 _ h4;simp only [ho,h1,h2,h3];cases ha:allocLike o.op with
    | true=>exact opX_mono (fun v h'=>setP_mono fun _=>rdraw_ok hk) hh
    | false=>
      cases hcm:calm r o.op with
      | true=>
        simp only [ha,hcm] at h4 ⊢;rw [h4];exact opX_mono (fun v h'=>setP_mono fun _=>rdraw_ok hk) hh
      | false=>
        simp only [ha,hcm] at h4 ⊢;rw [h4];exact opX_mono (fun v h'=>setP_mono fun _=>rdraw_ok hk) hh
   rename_i h1;simp only [ho,h1];refine entryQ_mono (fun g v hv=>?_) hh;unfold aftD at hv;split at hv<;>try contradiction
   rename_i h2;simp only [h2];exact setP_mono (fun _=>rdraw_ok hk) hv
theorem rdraw_mono {P:Program} {c:Cfg} {n:Nat} {all:List Oper} {K K':Regs->Heap->Prop} (hk:∀ r h,K r h->K' r h):∀ {l nf:List Nat} {r:Regs} {h:Heap},rdraw P c n all K l nf r h->rdraw P c n all K' l nf r h
 | [],nf,r,h,hh=>hk _ _ hh
 | i::l,nf,r,h,hh=>by
   unfold rdraw at hh ⊢;split at hh<;>try contradiction
   rename_i o ho;split at hh
   ·split at hh<;>try contradiction
    split at hh<;>try contradiction
    split at hh<;>try contradiction
    exact opX_mono (fun v h'=>setP_mono fun _=>rdraw_mono hk) hh
   refine entryQ_mono (fun g v hv=>?_) hh;unfold aftD at hv ⊢;split at hv<;>try contradiction
   exact setP_mono (fun _=>rdraw_mono hk) hv
inductive Fr where
 | seq (p:List Bool)
 | blk (id:Nat)
 | head (J:Regs->Heap->Prop)
inductive Mode where
 | go (p:List Bool)
 | op (p:List Bool) (i:Nat)
 | ex (e:Ex)
structure En where
 n:Nat
 X:Nat->Prop
 Q:Ex->Regs->Heap->Prop
def run (P:Program) (c:Cfg) (F:Func) (E:En):Nat->Mode->List Fr->Regs->Heap->Prop
 | 0,_,_,_,_=>False
 | k+1,.ex e,[],r,h=>E.Q e r h
 | k+1,.ex e,.seq p::S,r,h=>(match e with
   | .normal=>run P c F E k (.go p) S r h
   | _=>run P c F E k (.ex e) S r h)
 | k+1,.ex e,.blk id::S,r,h=>(match e with
   | .exit i=>(match Nat.beq i id with
     | true=>run P c F E k (.ex .normal) S r h
     | false=>run P c F E k (.ex (.exit i)) S r h)
   | _=>run P c F E k (.ex e) S r h)
 | k+1,.ex e,.head J::S,r,h=>(match e with
   | .normal=>J r h
   | _=>run P c F E k (.ex e) S r h)
 | k+1,.op p i,S,r,h=>(match (opsAt F p)[i]? with
   | none=>normK r (fun r'=>run P c F E k (.ex .normal) S r' h) c.keep
   | some o=>match o.guard with
     | none=>(match loud c o.dst o.op with
       | true=>(match o.op,o.dst with
         | .store t (.tmp d) y,none=>(match memN c.frz d with
           | true=>storeF P r h t d y (run P c F E k (.op p (i+1)) S)
           | false=>opL P r h (aftL (run P c F E k (.op p (i+1)) S) E.n o.dst r) o.op)
         | _,_=>opX P c.own c.lc o.dst r h (aftL (run P c F E k (.op p (i+1)) S) E.n o.dst r) o.op)
       | false=>opQ P r [] h (aft (run P c F E k (.op p (i+1)) S) E.n o.dst [] r h) o.op)
     | some (j,w)=>match (opsAt F p)[j]? with
       | some oj=>(match oj.dst with
         | some tj=>(match lookR r tj with
           | some (gj,.bool b)=>(match isCallV o.op,(match o.dst with|some d=>memN c.spl d|none=>false) with
             | true,true=>(match gj with
               | []=>(b=w->opL P (ung tj w r) h (aftL (run P c F E k (.op p (i+1)) S) E.n o.dst (ung tj w r)) o.op) /\
                  (b≠w->aft (run P c F E k (.op p (i+1)) S) E.n o.dst [(tj,b,w)] r h (.bool false))
               | _=>False)
             | _,_=>(match (match isCallV o.op with|true=>false|false=>loud c o.dst o.op) with
               | true=>False
               | false=>opQ P r (gj++[(tj,b,w)]) h (aft (run P c F E k (.op p (i+1)) S) E.n o.dst (gj++[(tj,b,w)]) r h) o.op))
           | _=>False)
         | none=>False)
       | none=>False)
 | k+1,.go p,S,r,h=>(match cat F p with
   | .skip=>run P c F E k (.ex .normal) S r h
   | .region id _ draw=>(match draw with
     | false=>(match findOrd c.ords id with
       | none=>run P c F E k (.op p 0) S r h
       | some _=>Holds P E.n E.X (cat F p) (fun e r h=>run P c F E k (.ex e) S r h) r h)
     | true=>(match findOrd c.ords id with
       | some (ord,fz)=>drawOK (opsAt F p) ord=true /\
          rdraw P c E.n (opsAt F p) (fun r' h'=>frzP (fun r'' h''=>normK r'' (fun r3=>run P c F E k (.ex .normal) S r3 h'') c.keep) fz r' h') ord [] r h
       | none=>Holds P E.n E.X (cat F p) (fun e r h=>run P c F E k (.ex e) S r h) r h))
   | .seq _ _=>run P c F E k (.go (false::p)) (.seq (true::p)::S) r h
   | .cond x _ _=>(match opnd r [] x with
     | some (.bool t)=>(t=true->run P c F E k (.go (false::p)) S r h)/\(t=false->run P c F E k (.go (true::p)) S r h)
     | _=>False)
   | .block id _=>run P c F E k (.go (false::p)) (.blk id::S) r h
   | .loop _=>Holds P E.n E.X (cat F p) (fun e r h=>run P c F E k (.ex e) S r h) r h
   | .exit i=>run P c F E k (.ex (.exit i)) S r h
   | .ret=>run P c F E k (.ex .ret) S r h
   | _=>False)
theorem aft_mono {R:Regs->Heap->Prop} {K:Regs->Heap->Prop} {n:Nat} {d:Option Nat} {g:G} {r:Regs} {h:Heap} {v:AV} (hk:∀ r h,R r h->K r h) (hh:aft R n d g r h v):setP n d g v r fun r'=>K r' h:=
 setP_mono (fun r=>hk r h) hh
theorem aftL_mono {R:Regs->Heap->Prop} {K:Regs->Heap->Prop} {n:Nat} {d:Option Nat} {r:Regs} {h:Heap} {v:AV} (hk:∀ r h,R r h->K r h) (hh:aftL R n d r v h):setP n d [] v r fun r'=>K r' h:=
 setP_mono (fun r=>hk r h) hh
theorem holds_mono {P:Program} {n:Nat} {X:Nat->Prop} {c:Code} {Q Q':Ex->Regs->Heap->Prop} (hq:∀ e r h,Q e r h->Q' e r h) {r:Regs} {h:Heap} (hh:Holds P n X c Q r h):Holds P n X c Q' r h:=by refine ⟨fun g a w hc=>wp_mono (hh.holds g a w hc) ?_⟩;rintro e a' w' ⟨ex,g',r',h',rfl,hQ,hc',hst⟩;exact ⟨ex,g',r',h',rfl,hq _ _ _ hQ,hc',hst⟩
theorem aft_m {R R':Regs->Heap->Prop} {n:Nat} {d:Option Nat} {g:G} {r:Regs} {h:Heap} {v:AV} (hk:∀ {r h},R r h->R' r h) (hh:aft R n d g r h v):aft R' n d g r h v:=
 setP_mono (fun r=>hk) hh
theorem aftL_m {R R':Regs->Heap->Prop} {n:Nat} {d:Option Nat} {r:Regs} {h:Heap} {v:AV} (hk:∀ {r h},R r h->R' r h) (hh:aftL R n d r v h):aftL R' n d r v h:=
 setP_mono (fun r=>hk) hh
theorem run_mono {P:Program} {c:Cfg} {F:Func} {E:En}:∀ (k k':Nat) (m:Mode) (S:List Fr) {r:Regs} {h:Heap},k<=k'->run P c F E k m S r h->run P c F E k' m S r h
 | 0,k',m,S,r,h,hB,hh=>hh.elim
 | k+1,0,m,S,r,h,hB,hh=>absurd hB (by omega)
 | k+1,k'+1,m,S,r,h,hB,hh=>by
   have ih:∀ {m:Mode} {S:List Fr} {r:Regs} {h:Heap},run P c F E k m S r h->run P c F E k' m S r h:=run_mono k k' _ _ (by omega);cases m with
   | ex e=>
     cases S with
     | nil=>exact hh
     | cons f S=>
       cases f with
       | seq p=>unfold run at hh ⊢;cases e<;>exact ih hh
       | blk id=>
         unfold run at hh ⊢;cases e with
         | exit i=>
           simp only at hh ⊢;cases hb:Nat.beq i id<;>simp only [hb] at hh ⊢<;>exact ih hh
         | _=>exact ih hh
       | head J=>unfold run at hh ⊢;cases e<;>first|exact hh|exact ih hh
   | go p=>
     unfold run at hh ⊢;cases hcat:cat F p with
     | skip=>rw [hcat] at hh;exact ih hh
     | region id ops draw=>
       rw [hcat] at hh;cases draw with
       | false=>
         simp only at hh ⊢;split at hh
         ·exact ih hh
         exact holds_mono (fun e r h=>ih) hh
       | true=>
         simp only at hh ⊢;split at hh
         ·exact ⟨hh.1,rdraw_mono (fun r h=>frzP_mono fun r h=>normK_mono fun r' hr=>ih hr) hh.2⟩
         exact holds_mono (fun e r h=>ih) hh
     | seq x y=>rw [hcat] at hh;exact ih hh
     | cond x t f=>
       rw [hcat] at hh;simp only at hh ⊢;split at hh<;>try contradiction
       exact ⟨fun hb=>ih (hh.1 hb),fun hb=>ih (hh.2 hb)⟩
     | block id x=>rw [hcat] at hh;exact ih hh
     | loop x=>rw [hcat] at hh;exact holds_mono (fun e r h=>ih) hh
     | exit i=>rw [hcat] at hh;exact ih hh
     | ret=>rw [hcat] at hh;exact ih hh
     | _=>rw [hcat] at hh;exact hh.elim
   | op p i=>
     unfold run at hh ⊢;cases ho:(opsAt F p)[i]? with
     | none=>rw [ho] at hh;exact normK_mono (fun r' hr=>ih hr) hh
     | some o=>
       rw [ho] at hh;simp only at hh ⊢;cases hg:o.guard with
       | none=>
         simp only [hg] at hh ⊢;cases hl:loud c o.dst o.op with
         | true=>
           simp only [hl] at hh ⊢;split at hh
           ·rename_i t d y e1 e2;cases hm:memN c.frz d with
            | true=>simp only [hm] at hh ⊢;exact storeF_mono (fun _ _=>ih) hh
            | false=>simp only [hm] at hh ⊢;exact opL_mono (fun v h'=>aftL_m ih) hh
           exact opX_mono (fun v h'=>aftL_m ih) hh
         | false=>simp only [hl] at hh ⊢;exact opQ_mono (fun v=>aft_m ih) hh
       | some jw=>
         obtain ⟨j,w⟩:=jw;simp only [hg] at hh ⊢;split at hh<;>try contradiction
         split at hh<;>try contradiction
         split at hh<;>try contradiction
         cases hcv:isCallV o.op with
         | false=>
           simp only [hcv] at hh ⊢;split at hh<;>try contradiction
           exact opQ_mono (fun v=>aft_m ih) hh
         | true=>
           simp only [hcv] at hh ⊢;split at hh
           ·split at hh<;>try contradiction
            exact ⟨fun hb=>opL_mono (fun v h'=>aftL_m ih) (hh.1 hb),fun hb=>aft_m ih (hh.2 hb)⟩
           exact opQ_mono (fun v=>aft_m ih) hh
theorem op_ok {P:Program} {c:Cfg} {F:Func} {E:En} {p:List Bool} {S:List Fr} (B:Nat):∀ (k i:Nat) {r:Regs} {h:Heap},k<=B->run P c F E k (.op p i) S r h->regP P c E.n (opsAt F p) (run P c F E B (.ex .normal) S) ((opsAt F p).drop i) r h
 | 0,i,r,h,hB,hh=>hh.elim
 | k+1,i,r,h,hB,hh=>by
   have ih:∀ {r:Regs} {h:Heap},run P c F E k (.op p (i+1)) S r h->regP P c E.n (opsAt F p) (run P c F E B (.ex .normal) S) ((opsAt F p).drop (i+1)) r h:=op_ok B k (i+1) (by omega);unfold run at hh;cases ho:(opsAt F p)[i]? with
   | none=>
     rw [ho] at hh;rw [List.drop_of_length_le (by simpa using ho)];unfold regP;exact normK_mono (fun r' hr=>run_mono k B _ _ (by omega) hr) hh
   | some o=>
     rw [ho] at hh;obtain ⟨hlt,he⟩:=List.getElem?_eq_some_iff.1 ho;rw [List.drop_eq_getElem_cons hlt,he];unfold regP;simp only at hh ⊢;split
     ·rename_i hg;rw [hg] at hh;simp only at hh;split
      ·rename_i hl;rw [hl] at hh;simp only at hh;split
       ·rename_i t d y e1 e2;rw [e1,e2] at hh;simp only at hh;split
        ·rename_i hm;rw [hm] at hh;exact storeF_mono (fun _ _=>ih) hh
        rename_i hm;rw [hm] at hh;simp only at hh;rw [e1,e2];exact opL_mono (fun v h'=>aftL_mono fun _ _=>ih) hh
       rename_i hne;refine opX_mono (K:=aftL (run P c F E k (.op p (i+1)) S) E.n o.dst r) (fun v h'=>aftL_mono fun _ _=>ih) ?_;split at hh
       ·rename_i t d y e1 e2;exact absurd e2 (hne t d y e1)
       exact hh
      rename_i hl;rw [hl] at hh;exact opQ_mono (fun v=>aft_mono fun _ _=>ih) hh
     rename_i j w hg;rw [hg] at hh;simp only at hh;split at hh<;>try contradiction
     rename_i oj hoj;split at hh<;>try contradiction
     rename_i tj htj;split at hh<;>try contradiction
     rename_i gj b hlk;simp only [hoj,htj,hlk];cases hcv:isCallV o.op with
     | false=>
       simp only [hcv] at hh ⊢;split at hh<;>try contradiction
       rename_i e4;simp only [e4];exact opQ_mono (fun v=>aft_mono fun _ _=>ih) hh
     | true=>
       simp only [hcv] at hh ⊢;cases hd:o.dst with
       | none=>
         simp only [hd] at hh ⊢;exact opQ_mono (fun v=>aft_mono fun _ _=>ih) hh
       | some d=>
         simp only [hd] at hh ⊢;cases hm:memN c.spl d with
         | false=>
           simp only [hm] at hh ⊢;exact opQ_mono (fun v=>aft_mono fun _ _=>ih) hh
         | true=>
           simp only [hm] at hh ⊢;cases gj with
           | nil=>exact ⟨fun hb=>opL_mono (fun v h'=>aftL_mono fun _ _=>ih) (hh.1 hb),fun hb=>aft_mono (fun _ _=>ih) (hh.2 hb)⟩
           | cons _ _=>exact hh.elim
theorem opsAt_eq {F:Func} {p:List Bool} {id:Nat} {ops:Array Oper} {dr:Bool} (h:cat F p=.region id ops dr):opsAt F p=ops.toList:=by unfold opsAt;rw [h]
abbrev Post (P:Program) (c:Cfg) (F:Func) (E:En) (k:Nat) (S:List Fr):Ex->Regs->Heap->Prop:=fun e r h=>run P c F E k (.ex e) S r h
theorem run_ok {P:Program} {c:Cfg} {F:Func} {E:En} (hm:P.follows .mixedOrders=true):∀ (k:Nat) (p:List Bool) (S:List Fr) {r:Regs} {h:Heap},
  run P c F E k (.go p) S r h->Holds P E.n E.X (cat F p) (Post P c F E k S) r h
 | 0,p,S,r,h,hh=>hh.elim
 | k+1,p,S,r,h,hh=>by
   have ih:∀ (p:List Bool) (S:List Fr) {r:Regs} {h:Heap},run P c F E k (.go p) S r h->Holds P E.n E.X (cat F p) (Post P c F E k S) r h:=run_ok hm k;have step:∀ {e:Ex} {S:List Fr} {r:Regs} {h:Heap},run P c F E k (.ex e) S r h->run P c F E (k+1) (.ex e) S r h:=run_mono k (k+1) _ _ (by omega);have up:∀ {S:List Fr} {cc:Code} {r:Regs} {h:Heap},Holds P E.n E.X cc (Post P c F E k S) r h->Holds P E.n E.X cc (Post P c F E (k+1) S) r h:=holds_mono fun _ _ _=>step;have ihf:∀ {S:List Fr} {r:Regs} {h:Heap},run P c F E k (.go (false::p)) S r h->Holds P E.n E.X (child false (cat F p)) (Post P c F E k S) r h:=ih (false::p) _;have iht:∀ {S:List Fr} {r:Regs} {h:Heap},run P c F E k (.go (true::p)) S r h->Holds P E.n E.X (child true (cat F p)) (Post P c F E k S) r h:=ih (true::p) _;unfold run at hh;cases hcat:cat F p with
   | skip=>
     rw [hcat] at hh;exact up (cw_ok (c:=c) hm .skip (Q:=Post P c F E k S) hh)
   | region id ops draw=>
     have ho:=opsAt_eq hcat;rw [hcat] at hh;simp only at hh;split at hh
     ·split at hh
      ·refine up (cw_ok (c:=c) hm (.region id ops false) (?_:regP P c E.n ops.toList (Post P c F E k S .normal) ops.toList r h));rw [<- ho];simpa using op_ok k k 0 (Nat.le_refl _) hh
      exact up hh
     refine up (cw_ok (c:=c) hm (.region id ops true) ?_);unfold cw;simp only;split at hh
     ·rename_i ord fz hf;simp only [hf];rw [<- ho];exact ⟨hh.1,rdraw_ok (fun _ _ h=>h) hh.2⟩
     rename_i hf;simp only [hf];exact hh
   | seq x y=>
     rw [hcat] at hh ihf iht;simp only [child] at hh ihf iht;refine ⟨fun g a w hc=>?_⟩;refine wp_seq (wp_mono ((ihf hh).holds g a w hc) ?_);rintro e a' w' ⟨ex,g',r',h',rfl,hQ,hc',hst⟩;cases k with
     | zero=>exact hQ.elim
     | succ k=>
       cases ex with
       | normal=>
         simp only [Post] at hQ;unfold run at hQ;refine wp_mono ((iht (run_mono k (k+1) _ _ (by omega) hQ)).holds g' a' w' hc') ?_;rintro e a2 w2 ⟨ex,g2,r2,h2,rfl,hQ,hc2,hst2⟩;exact ⟨ex,g2,r2,h2,rfl,step hQ,hc2,hst.trans hc.cw.own hst2⟩
       | exit i=>simp only [Post] at hQ;unfold run at hQ;exact ⟨.exit i,g',r',h',rfl,run_mono k _ _ _ (by omega) hQ,hc',hst⟩
       | ret=>simp only [Post] at hQ;unfold run at hQ;exact ⟨.ret,g',r',h',rfl,run_mono k _ _ _ (by omega) hQ,hc',hst⟩
       | pan v=>simp only [Post] at hQ;unfold run at hQ;exact ⟨.pan v,g',r',h',rfl,run_mono k _ _ _ (by omega) hQ,hc',hst⟩
   | cond x t f=>
     rw [hcat] at hh ihf iht;simp only [child] at hh ihf iht;split at hh<;>try contradiction
     rename_i b hx;refine up ⟨fun g a w hc=>?_⟩;have hr:=hc.opnd (g:=[]) (fun e he=>by cases he) hx;rw [Rep] at hr;refine wp_cond_split hr (fun hb=>(ihf (hh.1 hb)).holds g a w hc) (fun hb=>(iht (hh.2 hb)).holds g a w hc)
   | block id x=>
     rw [hcat] at hh ihf;simp only [child] at hh ihf;refine ⟨fun g a w hc=>?_⟩;refine wp_block (wp_mono ((ihf hh).holds g a w hc) ?_);rintro e a' w' ⟨ex,g',r',h',rfl,hQ,hc',hst⟩;cases k with
     | zero=>exact hQ.elim
     | succ k=>
       simp only [Post] at hQ;unfold run at hQ;cases ex with
       | normal=>exact ⟨.normal,g',r',h',rfl,run_mono k _ _ _ (by omega) hQ,hc',hst⟩
       | exit i=>
         simp only at hQ;simp only [Ex.toExit,Exit.inBlock];split at hQ
         ·rename_i hi;rw [if_pos (Nat.eq_of_beq_eq_true hi)];exact ⟨.normal,g',r',h',rfl,run_mono k _ _ _ (by omega) hQ,hc',hst⟩
         rename_i hi;rw [if_neg (fun e=>by subst e;rw [Nat.beq_refl] at hi;cases hi)];exact ⟨.exit i,g',r',h',rfl,run_mono k _ _ _ (by omega) hQ,hc',hst⟩
       | ret=>exact ⟨.ret,g',r',h',rfl,run_mono k _ _ _ (by omega) hQ,hc',hst⟩
       | pan v=>exact ⟨.pan v,g',r',h',rfl,run_mono k _ _ _ (by omega) hQ,hc',hst⟩
   | loop x=>rw [hcat] at hh;exact up hh
   | exit i=>rw [hcat] at hh;exact up (cw_ok (c:=c) hm (.exit i) (Q:=Post P c F E k S) hh)
   | ret=>rw [hcat] at hh;exact up (cw_ok (c:=c) hm .ret (Q:=Post P c F E k S) hh)
   | _=>rw [hcat] at hh;exact hh.elim
theorem fcalls {P:Program} {f:FuncId} {F:Func} (c:Cfg) {args:List AV} {R:AV->Heap->Prop} {h:Heap} (hf:P.funcs[f]?=some F) (hb:F.body.isSome=true) (hname:(F.name == "runtime.NumGoroutine")=false)
  (hm:P.follows .mixedOrders=true) (hn:Nat.ble args.length F.ntmps=true) (hst:∀ X,run P c F ⟨F.ntmps,X,endP P F R⟩ 4000 (.go []) [] (argRegs 0 args) h):ACalls P f args h R:=by
 obtain ⟨code,hb'⟩:=Option.isSome_iff_exists.1 hb;have hcode:bodyOf F=code:=by unfold bodyOf;rw [hb']
 refine ⟨fun X g w us hc hr=>.inl ⟨⟨F,code,hf,hb',hname⟩,?_⟩⟩;have hlen:=hr.length;simp at hlen;have hn:=Nat.le_of_ble_eq_true hn;have hH:Holds P F.ntmps X code (endP P F R) (argRegs 0 args) h:=by have:=run_ok (c:=c) (F:=F) (E:=⟨F.ntmps,X,endP P F R⟩) hm 4000 [] [] (hst X);simp only [cat,hcode] at this;exact this
 refine calls_of_wp hf hb' (wp_mono (hH.holds g _ w ⟨hc,?_,rfl,by simp;omega⟩) ?_)
 ·intro t gg v hl;obtain ⟨rfl,_,hx⟩:=argRegs_look hl;obtain ⟨u,hu,hrep⟩:=hr.get t v (by simpa using hx);refine ⟨fun _=>⟨by simp,u,?_,hrep⟩,fun hh=>absurd (fun e he=>by cases he) hh⟩;have hu':us[t]?=some u:=(by simpa using hu);have:=(Array.getElem?_eq_some_iff.1 hu').1;rw [Array.getElem?_append_left this];exact hu'
 rintro e a' w' ⟨ex,g',r',h',rfl,hQ,hc',hst⟩;cases ex with
 | normal=>
   obtain ⟨v,u,h1,h2,h3⟩:=resP_ok (P:=P) hc' hQ;exact ⟨hc'.defers,u,h2,v,u,g',h',rfl,h1,hc'.cw,h3,hst⟩
 | ret=>
   obtain ⟨v,u,h1,h2,h3⟩:=resP_ok (P:=P) hc' hQ;exact ⟨hc'.defers,u,h2,v,u,g',h',rfl,h1,hc'.cw,h3,hst⟩
 | exit i=>exact hQ.elim
 | pan v=>exact hQ.elim
theorem sloop {P:Program} {c:Cfg} {F:Func} {E:En} {p:List Bool} {S:List Fr} {k:Nat} {body:Code} {r:Regs} {h:Heap} (hcat:cat F p=.loop body) (hm:P.follows .mixedOrders=true) (ks:List Nat) (ts:List (Nat × Nat)) (J:Nat->Regs->Heap->Prop)
  (h0:atHead ks ts (fun r h=>∃ m,J m r h) r h)
  (hb:∀ m r h,J m r h->run P c F E k (.go (false::p)) (.head (atHead ks ts (fun r h=>∃ m',m'<m/\J m' r h))::S) r h) :
  Holds P E.n E.X (cat F p) (fun e r h=>run P c F E k (.ex e) S r h) r h:=by
 rw [hcat];refine holds_loop ks ts J h0 fun m r h hJ=>?_;have:=run_ok hm k (false::p) _ (hb m r h hJ);have e:cat F (false::p)=body:=(by simp [cat,hcat,child]);rw [e] at this;refine holds_mono (fun e r h hQ=>?_) this;cases k with
 | zero=>exact hQ.elim
 | succ k=>
   simp only [Post] at hQ;unfold run at hQ;cases e with
   | normal=>exact hQ
   | exit i=>exact run_mono k _ _ _ (by omega) hQ
   | ret=>exact run_mono k _ _ _ (by omega) hQ
   | pan v=>exact run_mono k _ _ _ (by omega) hQ
end Go.Abs
/-
 The abstract layer,part U: small laws for the steps of a walk.
-/
namespace Go.Abs
open Go
theorem leOK {a b c d:Nat} (h1:Nat.ble a b=true:=by rfl) (h2:Nat.ble c d=true:=by rfl):a<=b/\c<=d:=⟨Nat.le_of_ble_eq_true h1,Nat.le_of_ble_eq_true h2⟩
theorem gP_of {p:Prop}:∀ {g:G},p->gP g p
 | [],h=>h
 | (_,_,_)::g,h=>fun _=>gP_of (g:=g) h
theorem ix {α:Type} {enc:α->List AV} {l:List α} {x:α} {i:Nat} {g:G} {K:AV->Prop} (hx:l[i]?=some x) (hk:K (.iptr (enc x))) :
  ∃ (j:Nat) (y:List AV),gP g ((i:Int)=(j:Int)/\(l.map enc)[j]?=some y)/\K (.iptr y):=
 ⟨i,enc x,gP_of ⟨rfl,by simp [hx]⟩,hk⟩
theorem ixg {α:Type} {enc:α->List AV} {l:List α} {g:G} (d:α) {n:Int} {K:AV->Prop} (h:gP g (0<=n/\n<l.length)) (hk:K (.iptr (enc (l.getD n.toNat d)))) :
  ∃ (j:Nat) (y:List AV),gP g (n=(j:Int)/\(l.map enc)[j]?=some y)/\K (.iptr y):=by
 refine ⟨n.toNat,_,gP_mono ?_ h,hk⟩;rintro ⟨h1,h2⟩;have:n.toNat<l.length:=(by omega);exact ⟨by omega,by simp [List.getD,List.getElem?_eq_getElem this]⟩
theorem sx {s:List UInt8} {y:UInt8} {i:Nat} {g:G} {K:AV->Prop} (hx:s[i]?=some y) (hk:K (.int .u8 y.toNat)) :
  ∃ (j:Nat) (y:UInt8),gP g ((i:Int)=(j:Int)/\s[j]?=some y)/\K (.int .u8 y.toNat):=⟨i,y,gP_of ⟨rfl,hx⟩,hk⟩
theorem sxg {s:List UInt8} {g:G} {n:Int} {K:AV->Prop} (h:gP g (0<=n/\n<s.length)) (hk:K (.int .u8 (s.getD n.toNat 0).toNat)) :
  ∃ (j:Nat) (y:UInt8),gP g (n=(j:Int)/\s[j]?=some y)/\K (.int .u8 y.toNat):=by
 refine ⟨n.toNat,_,gP_mono ?_ h,hk⟩;rintro ⟨h1,h2⟩;have:n.toNat<s.length:=(by omega);exact ⟨by omega,by simp [List.getD,List.getElem?_eq_getElem this]⟩
theorem get_lt {α:Type} {l:List α} {i:Nat} (h:i<l.length):∃ x,l[i]?=some x:=⟨_,List.getElem?_eq_getElem h⟩
theorem drop_cons {α:Type} {l:List α} {i:Nat} {x:α} (h:l[i]?=some x):l.drop i=x::l.drop (i+1):=by obtain ⟨h1,h2⟩:=List.getElem?_eq_some_iff.1 h;rw [List.drop_eq_getElem_cons h1,h2]
theorem drop_nil {α:Type} {l:List α} {i:Nat} (h:l.length<=i):l.drop i=[]:=List.drop_eq_nil_of_le h
theorem gcall {P:Program} {g:G} {f:FuncId} {vs:List AV} {v:AV} {h:Heap} {K:AV->Prop} (hq:QCall P f vs [] v) (hk:K v):∃ v,gP g (QCall P f vs h v)/\K v:=
 ⟨v,gP_of (hq.wide h),hk⟩
theorem QCall.of {P:Program} {f:FuncId} {args:List AV} {v:AV} (hq:ACalls P f args [] (fun v' _=>VLe v' v)):QCall P f args [] v:=
 ACalls.post hq fun v' h1 hv=>⟨v,[],⟨rfl,rfl⟩,hv,by simp,by simp [keys]⟩
theorem QCall.of' {P:Program} {f:FuncId} {args:List AV} {v:AV} (hq:ACalls P f args [] (fun v' _=>v'=v)):QCall P f args [] v:=
 QCall.of (ACalls.mono (by rintro v' h rfl;exact VLe.refl _) hq)
theorem ACalls.nilOr {P:Program} {f:FuncId} {k:Nat} {as:List AV} {h:Heap} {R:AV->Heap->Prop} (h1:ACalls P f (.nilS::as) h R) (h2:ACalls P f (.slz k::as) h R):ACalls P f (.sl k none []::as) h R:=by
 refine ⟨fun X g w us hc hr=>?_⟩;simp only [RepVs] at hr;obtain ⟨u,r,hu,hx,hr⟩:=hr;simp only [Rep] at hx;obtain ⟨base,cap,rfl,_,_,hk,hn,_⟩:=hx;cases base with
 | none=>
   refine h1.1 X g w us hc ?_;simp only [RepVs];exact ⟨_,r,hu,by simp [Rep,hn rfl],hr⟩
 | some a=>
   refine h2.1 X g w us hc ?_;simp only [RepVs];exact ⟨_,r,hu,by simp [Rep,hk],hr⟩
section
variable {κ ν:Type} [DecidableEq κ]
def lookA (k:κ):List (κ × ν)->Option ν
 | []=>none
 | (x,v)::es=>if k=x then some v else lookA k es
def setA (k:κ) (v:ν):List (κ × ν)->List (κ × ν)
 | []=>[(k,v)]
 | (x,u)::es=>if k=x then (k,v)::es else (x,u)::setA k v es
def encA (ek:κ->AV) (ev:ν->AV) (es:List (κ × ν)):List (AV × AV):=es.map fun p=>(ek p.1,ev p.2)
variable {P:Program} {t:TypeId} {ek:κ->AV} {ev:ν->AV}
theorem mget_encA (heq:∀ a b,eqV P t (ek a) (ek b)=some (decide (a=b))) (k:κ):∀ es:List (κ × ν),mget P t (ek k) (encA ek ev es)=some ((lookA k es).map ev)
 | []=>rfl
 | (x,v)::es=>by
   have ih:=mget_encA heq k es;unfold encA at ih ⊢;rw [List.map_cons,mget];simp only [heq,lookA];by_cases h:k=x
   ·simp [h]
   simp [h,ih]
theorem mset_encA (heq:∀ a b,eqV P t (ek a) (ek b)=some (decide (a=b))) (k:κ) (v:ν):∀ es:List (κ × ν),mset P t (ek k) (ev v) (encA ek ev es)=encA ek ev (setA k v es)
 | []=>rfl
 | (x,u)::es=>by
   have ih:=mset_encA heq k v es;unfold encA at ih ⊢;rw [List.map_cons,mset];simp only [heq,setA];by_cases h:k=x
   ·simp [h]
   simp [h,ih]
theorem mlook_encA (heq:∀ a b,eqV P t (ek a) (ek b)=some (decide (a=b))) (k:κ) (es:List (κ × ν)) (z:AV) :
  mlook P t (ek k) (encA ek ev es) z=some (((lookA k es).map ev).getD z,(lookA k es).isSome):=by
 unfold mlook;rw [mget_encA heq];cases lookA k es<;>rfl
theorem keyFits_of (heq:∀ a b,eqV P t (ek a) (ek b)=some (decide (a=b))) (hp:plainT P t=true) (k:κ):keyFits P t (ek k):=⟨hp,by rw [heq];simp⟩
theorem lkI {es:List (κ × Int)} {k:κ} {b:Nat} {h:Heap} {g:G} {ok:Bool} {K:AV->Prop} (hm:(b,Ob.map (encA ek (AV.int .i64) es))∈h) (heq:∀ a b,eqV P t (ek a) (ek b)=some (decide (a=b))) (hp:plainT P t=true)
  (hk:K (okTup ok (.int .i64 ((lookA k es).getD 0)) (lookA k es).isSome)) :
  ∃ es v f,(b,Ob.map es)∈h/\gP g (keyFits P t (ek k)/\mlook P t (ek k) es (.int .i64 0)=some (v,f))/\K (okTup ok v f):=by
 refine ⟨_,_,_,hm,gP_of ⟨keyFits_of heq hp k,mlook_encA heq k es _⟩,?_⟩;have:((lookA k es).map (AV.int .i64)).getD (.int .i64 0)=.int .i64 ((lookA k es).getD 0):=by cases lookA k es<;>rfl
 rw [this];exact hk
theorem upA {es:List (κ × ν)} {k:κ} {v:ν} {b:Nat} {h h':Heap} {K:AV->Heap->Prop} (heq:∀ a b,eqV P t (ek a) (ek b)=some (decide (a=b))) (hp:plainT P t=true)
  (hu:Upd b (.map (encA ek ev es)) b (.map (encA ek ev (setA k v es))) h h') (hk:K .unit h') :
  ∃ es h',Upd b (.map es) b (.map (mset P t (ek k) (ev v) es)) h h'/\(keyFits P t (ek k)/\mget P t (ek k) es≠none)/\K .unit h':=
 ⟨encA ek ev es,h',by rw [mset_encA heq];exact hu,⟨keyFits_of heq hp k,by rw [mget_encA heq];simp⟩,hk⟩
end
end Go.Abs
/-
 The abstract layer,part V: steps of the ghost state alone: a value said less exactly,an object left behind,a row of one's own that nobody writes any more.
-/
namespace Go.Abs
open Go
variable {P:Program} {n:Nat} {X:Nat->Prop} {g0:Gh} {r:Regs} {h:Heap} {a:Act} {w:World}
mutual
inductive FzV (b:Nat) (cs:List AV):AV->AV->Prop
 | refl (x:AV):FzV b cs x x
 | le {x y:AV}:VLe x y->FzV b cs x y
 | row {off len k:Nat} {xs pre post:List (List AV)} {xs':List (List AV)} (e:cs=pre.flatten++xs.flatten++post.flatten) (ho:pre.flatten.length=off) (hl:xs.length=len) (hk:∀ x∈xs,x.length=k):FzV b cs (.osl b off len k) (.sl k none xs)
 | ptr {off:Nat} {l:List AV} (e:cs.drop off=l):FzV b cs (.optr b off) (.iptr l)
 | tup {xs ys:List AV}:FzVs b cs xs ys->FzV b cs (.tup xs) (.tup ys)
 | agg {xs ys:List AV}:FzVs b cs xs ys->FzV b cs (.agg xs) (.agg ys)
inductive FzVs (b:Nat) (cs:List AV):List AV->List AV->Prop
 | nil:FzVs b cs [] []
 | cons {x y:AV} {xs ys:List AV}:FzV b cs x y->FzVs b cs xs ys->FzVs b cs (x::xs) (y::ys)
end
inductive FzR (b:Nat) (cs:List AV):Regs->Regs->Prop
 | nil:FzR b cs [] []
 | cons {t:Nat} {g:G} {x y:AV} {r r':Regs}:FzV b cs x y->FzR b cs r r'->FzR b cs ((t,g,x)::r) ((t,g,y)::r')
inductive FzH (b:Nat) (cs:List AV):Heap->Heap->Prop
 | nil:FzH b cs [] []
 | same {k:Nat} {o:Ob} {h h':Heap}:FzH b cs h h'->FzH b cs ((k,o)::h) ((k,o)::h')
 | vec {k:Nat} {xs ys:List AV} {h h':Heap}:FzVs b cs xs ys->FzH b cs h h'->FzH b cs ((k,.vec xs)::h) ((k,.vec ys)::h')
theorem FzVs.refl {b:Nat} {cs:List AV}:∀ xs,FzVs b cs xs xs
 | []=>.nil
 | x::xs=>.cons (.refl x) (FzVs.refl xs)
theorem FzR.refl {b:Nat} {cs:List AV}:∀ r,FzR b cs r r
 | []=>.nil
 | (t,g,x)::r=>.cons (.refl x) (FzR.refl r)
theorem FzH.refl {b:Nat} {cs:List AV}:∀ h,FzH b cs h h
 | []=>.nil
 | (k,o)::h=>.same (FzH.refl h)
theorem FzVs.get {b:Nat} {cs:List AV}:∀ {xs ys:List AV},FzVs b cs xs ys->xs.length=ys.length/\∀ (i:Nat) y,ys[i]?=some y->∃ x,xs[i]?=some x/\FzV b cs x y
 | _,_,.nil=>⟨rfl,fun i y h=>by cases h⟩
 | _,_,.cons h1 h2=>by
   have ih:=h2.get;refine ⟨by simp [ih.1],fun i y hi=>?_⟩;cases i with
   | zero=>cases hi;exact ⟨_,rfl,h1⟩
   | succ i=>exact ih.2 i y (by simpa using hi)
mutual
theorem FzV.rep {c c':Cx} {b:Nat} {cs:List AV} (h0:∀ x u,Rep c x u->Rep c' x u)
  (hrow:∀ (off k:Nat) (xs pre post:List (List AV)),cs=pre.flatten++xs.flatten++post.flatten->pre.flatten.length=off->(∀ x∈xs,x.length=k)->∀ u,Rep c (.osl b off xs.length k) u->Rep c' (.sl k none xs) u)
  (hptr:∀ (off:Nat) (l:List AV),cs.drop off=l->∀ u,Rep c (.optr b off) u->Rep c' (.iptr l) u):∀ {x y:AV},FzV b cs x y->∀ u,Rep c x u->Rep c' y u
 | _,_,.refl x,u,h=>h0 x u h
 | _,_,.le hle,u,h=>h0 _ _ (hle _ _ h)
 | _,_,.row e ho hl hk,u,h=>by subst hl;exact hrow _ _ _ _ _ e ho hk u h
 | _,_,.ptr e,u,h=>hptr _ _ e u h
 | _,_,.tup hs,u,h=>by simp only [Rep] at h ⊢;obtain ⟨us,hv,hr⟩:=h;exact ⟨us,hv,FzVs.rep h0 hrow hptr hs _ hr⟩
 | _,_,.agg hs,u,h=>by simp only [Rep] at h ⊢;obtain ⟨us,hv,h1,hr⟩:=h;exact ⟨us,hv,h1,FzVs.rep h0 hrow hptr hs _ hr⟩
theorem FzVs.rep {c c':Cx} {b:Nat} {cs:List AV} (h0:∀ x u,Rep c x u->Rep c' x u)
  (hrow:∀ (off k:Nat) (xs pre post:List (List AV)),cs=pre.flatten++xs.flatten++post.flatten->pre.flatten.length=off->(∀ x∈xs,x.length=k)->∀ u,Rep c (.osl b off xs.length k) u->Rep c' (.sl k none xs) u)
  (hptr:∀ (off:Nat) (l:List AV),cs.drop off=l->∀ u,Rep c (.optr b off) u->Rep c' (.iptr l) u):∀ {xs ys:List AV},FzVs b cs xs ys->∀ us,RepVs c xs us->RepVs c' ys us
 | _,_,.nil,us,h=>by simpa [RepVs] using h
 | _,_,.cons h1 h2,us,h=>by simp only [RepVs] at h ⊢;obtain ⟨u,r,rfl,a,d⟩:=h;exact ⟨u,r,rfl,FzV.rep h0 hrow hptr h1 u a,FzVs.rep h0 hrow hptr h2 r d⟩
end
theorem FzH.keys {b:Nat} {cs:List AV} {h h':Heap} (hz:FzH b cs h h'):Abs.keys h'=Abs.keys h:=by
 induction hz with
 | nil=>rfl
 | same _ ih=>simp only [Abs.keys,List.map_cons] at ih ⊢;rw [ih]
 | vec _ _ ih=>simp only [Abs.keys,List.map_cons] at ih ⊢;rw [ih]
theorem FzH.get {b:Nat} {cs:List AV} {h h':Heap} (hz:FzH b cs h h'):∀ k o,(k,o)∈h'->(k,o)∈h\/∃ xs ys,o=.vec ys/\(k,Ob.vec xs)∈h/\FzVs b cs xs ys:=by
 induction hz with
 | nil=>intro k o hm;cases hm
 | same _ ih=>
   intro k o hm;cases List.mem_cons.1 hm with
   | inl e=>cases e;exact .inl (by simp)
   | inr e=>
     rcases ih k o e with h1|⟨xs,ys,e1,e2,e3⟩
     ·exact .inl (by simp [h1])
     exact .inr ⟨xs,ys,e1,by simp [e2],e3⟩
 | vec hv _ ih=>
   intro k o hm;cases List.mem_cons.1 hm with
   | inl e=>cases e;exact .inr ⟨_,_,rfl,by simp,hv⟩
   | inr e=>
     rcases ih k o e with h1|⟨xs,ys,e1,e2,e3⟩
     ·exact .inl (by simp [h1])
     exact .inr ⟨xs,ys,e1,by simp [e2],e3⟩
theorem FzR.look {b:Nat} {cs:List AV} {r r':Regs} (hz:FzR b cs r r'):∀ t gg y,lookR r' t=some (gg,y)->∃ x,lookR r t=some (gg,x)/\FzV b cs x y:=by
 induction hz with
 | nil=>intro t gg y h;cases h
 | cons h1 _ ih=>
   intro t gg y h;rw [lookR_cons] at h ⊢;split at h
   ·rename_i e;cases h;subst e;exact ⟨_,by simp,h1⟩
   rename_i e;rw [if_neg e];exact ih t gg y h
theorem CW.objs {h':Heap} (hc:CW X g0 h w) (hk:keys h'=keys h) (ho:∀ k o',(k,o')∈h'->ObjRep ⟨g0,live X h,w⟩ k o'):CW X g0 h' w/\Step X g0 h w g0 h' w:=by
 have hlive:live X h'=live X h:=by unfold live;rw [hk]
 refine ⟨⟨hc.own,?_,by rw [hk];exact hc.nodup,fun k hm=>hc.sep k (by rw [<- hk];exact hm),fun k o hm=>by rw [hlive];exact ho k o hm⟩,?_⟩
 ·obtain ⟨N,hN⟩:=hc.bound;exact ⟨N,fun k hh=>hN k (by rw [hk] at hh;exact hh)⟩
 have:=Step.refl X g0 h w;exact ⟨this.os,this.say,this.output,this.size,this.pl,this.xow,this.xow',this.xpl,fun b hb hn=>⟨rfl,fun k s e=>by rw [hk];exact hn k s e⟩,this.mine,fun b k s e hm k' s' e' hl=>this.minefree b k s e hm k' s' e' (by rw [hlive] at hl;exact hl)⟩
theorem rep_row {c:Cx} {k:Nat} {b:Nat}:∀ {xs:List (List AV)} {o:Nat},(∀ x∈xs,x.length=k)->RepCs c xs.flatten b o->RepEs c k xs b o
 | [],o,_,_=>by simp [RepEs]
 | x::xs,o,hk,h=>by simp only [List.flatten_cons] at h;have hx:=hk x (by simp);have h1:=RepCs.take x.length h;have h2:=RepCs.drop x.length (by simp) h;simp only [List.take_left,List.drop_left] at h1 h2;simp only [RepEs];exact ⟨⟨hx,h1⟩,rep_row (fun y hy=>hk y (by simp [hy])) (by rw [<- hx];exact h2)⟩
theorem freeze {b:Nat} {cs:List AV} {h1:Heap} (hr:Rem b (.vec cs) h h1) (hc:CW X g0 h w) :
  CW X g0 h1 w/\Step X g0 h w g0 h1 w/\∀ x y,FzV b cs x y->∀ u,Rep ⟨g0,live X h,w⟩ x u->Rep ⟨g0,live X h1,w⟩ y u:=by
 obtain ⟨l1,l2,rfl,rfl⟩:=Rem.split hr
 obtain ⟨s1,s2⟩:=hc.sub (h':=l1++l2) (by
   intro k o hm;simp only [List.mem_append,List.mem_cons] at hm ⊢;rcases hm with h|h
   ·exact .inl h
   ·exact .inr (.inr h)) (by
   have:=hc.nodup;rw [keys_app] at this;simp only [keys,List.map_append,List.nodup_append,List.nodup_cons,List.mem_cons] at this ⊢;exact ⟨this.1,this.2.1.2,fun x hx y hy=>this.2.2 x hx y (.inr hy)⟩)
 refine ⟨s1,s2,?_⟩;have hnm:=hc.notmem;have hsep:=hc.sep b (by rw [keys_mem];exact .inl rfl);have hob:=hc.obj b (.vec cs) (by simp);obtain ⟨p,cc,t,q1,q2,q3,q4,q5,q6⟩:=hob
 have hcs:RepCs ⟨g0,live X (l1++l2),w⟩ cs p.block p.off:=by
  have key:∀ (xs:List AV) (o:Nat),(∀ (i:Nat) x,xs[i]?=some x->∃ u,cc[p.off+(o+i)]?=some u/\u.oneCell'=true/\Rep ⟨g0,live X (l1++(b,.vec cs)::l2),w⟩ x u)->RepCs ⟨g0,live X (l1++l2),w⟩ xs p.block (p.off+o):=by
   intro xs;induction xs with
   | nil=>intro o _;simp [RepCs]
   | cons x xs ih=>
     intro o hh;simp only [RepCs];obtain ⟨u,h1,h2,h3⟩:=hh 0 x (by simp);refine ⟨⟨u,?_,h2,?_,Rep.mono (Step.le s2) _ _ h3⟩,?_⟩
     ·have q4':w.heap[p.block]?=some (.cells cc t (0,0)):=q4;show w.cell? _=_;simpa [World.cell?,q4'] using h1
     ·intro k s ho hlv;rw [q3] at ho;cases ho
      rcases hlv with hx|hk
      ·exact absurd hx hsep
      exact absurd hk hnm
     rw [show p.off+o+1=p.off+(o+1) from rfl];refine ih (o+1) (fun i x hx=>?_);have:=hh (i+1) x (by simpa using hx);rwa [show o+(i+1)=o+1+i from by omega] at this
  exact key cs 0 (fun i x hx=>by simpa using q6 i x hx)
 intro x y hxy u hu;refine FzV.rep (c:=⟨g0,live X (l1++(b,.vec cs)::l2),w⟩) (fun x u h=>Rep.mono (Step.le s2) _ _ h) ?_ ?_ hxy u hu
 ·intro off k xs pre post e ho hk u hu;simp only [Rep] at hu ⊢;obtain ⟨p',cap,o',e1,e2,rfl,e3,e4,e5,e6,e7,e8⟩:=hu;rw [q1] at e1;cases e1
  refine ⟨_,cap,rfl,by omega,by omega,e5,by simp,by simp,?_,by simp⟩;rintro ad ⟨⟩;by_cases hx0:xs=[]
  ·subst hx0;simp [RepEs]
  rw [e7 (by have:=List.length_pos_iff.2 hx0;omega)];have hd:=RepCs.drop off (by rw [e,List.length_append,List.length_append,ho];omega) hcs;have hd2:=RepCs.take xs.flatten.length hd;rw [e,List.append_assoc,<- ho,List.drop_left,List.take_left] at hd2;rw [ho] at hd2;exact rep_row hk hd2
 intro off l e u hu;simp only [Rep] at hu ⊢;obtain ⟨p',e1,e2,rfl⟩:=hu;rw [q1] at e1;cases e1
 refine ⟨_,_,rfl,?_⟩;subst e;by_cases ho:off<=cs.length
 ·exact RepCs.drop off ho hcs
 rw [List.drop_eq_nil_of_le (by omega)];simp [RepCs]
def Turn (r:Regs) (h:Heap) (r':Regs) (h':Heap):Prop:=∀ n X g a w,Conc n X g r h a w->∃ g',Conc n X g' r' h' a w/\Step X g h w g' h' w
theorem Turn.refl (r:Regs) (h:Heap):Turn r h r h:=fun n X g a w hc=>⟨g,hc,Step.refl _ _ _ _⟩
theorem Turn.trans {r1 r2 r3:Regs} {h1 h2 h3:Heap} (a:Turn r1 h1 r2 h2) (b:Turn r2 h2 r3 h3):Turn r1 h1 r3 h3:=by intro n X g ac w hc;obtain ⟨g1,c1,s1⟩:=a n X g ac w hc;obtain ⟨g2,c2,s2⟩:=b n X g1 ac w c1;exact ⟨g2,c2,s1.trans hc.cw.own s2⟩
theorem Turn.freeze {r r':Regs} {h h1 h':Heap} {b:Nat} {cs:List AV} (hr:Rem b (.vec cs) h h1) (hh:FzH b cs h1 h') (hz:FzR b cs r r'):Turn r h r' h':=by
 intro n X g a w hc;obtain ⟨c1,s1,hv⟩:=Abs.freeze hr hc.cw
 have hsub:∀ k o,(k,o)∈h1->(k,o)∈h:=by
  obtain ⟨l1,l2,rfl,rfl⟩:=Rem.split hr;intro k o hm;simp only [List.mem_append,List.mem_cons] at hm ⊢;rcases hm with h|h
  ·exact .inl h
  exact .inr (.inr h)
 obtain ⟨c2,s2⟩:=c1.objs hh.keys (fun k o' hm=>by
  rcases hh.get k o' hm with h1|⟨xs,ys,rfl,h2,h3⟩
  ·exact c1.obj k o' h1
  obtain ⟨p,cc,t,q1,q2,q3,q4,q5,q6⟩:=hc.cw.obj k (.vec xs) (hsub _ _ h2);obtain ⟨l,hg⟩:=h3.get;refine ⟨p,cc,t,q1,q2,q3,q4,by rw [<- l];exact q5,fun i y hy=>?_⟩;obtain ⟨x,hx,hxy⟩:=hg i y hy;obtain ⟨u,u1,u2,u3⟩:=q6 i x hx;exact ⟨u,u1,u2,hv x y hxy u u3⟩)
 refine ⟨g,⟨c2,fun t gg y hl=>?_,hc.defers,hc.size⟩,s1.trans hc.cw.own s2⟩;obtain ⟨x,hx,hxy⟩:=hz.look t gg y hl;obtain ⟨k1,k2⟩:=hc.regs t gg x hx;refine ⟨fun hh=>?_,k2⟩;obtain ⟨m1,u,m2,m3⟩:=k1 hh;exact ⟨m1,u,m2,Rep.mono (Step.le s2) _ _ (hv x y hxy u m3)⟩
inductive RLe:Regs->Regs->Prop
 | nil:RLe [] []
 | cons {t:Nat} {g:G} {x y:AV} {r r':Regs}:VLe x y->RLe r r'->RLe ((t,g,x)::r) ((t,g,y)::r')
theorem RLe.refl:∀ r,RLe r r
 | []=>.nil
 | (t,g,x)::r=>.cons (VLe.refl x) (RLe.refl r)
theorem RLe.look {r r':Regs} (hz:RLe r r'):∀ t gg y,lookR r' t=some (gg,y)->∃ x,lookR r t=some (gg,x)/\VLe x y:=by
 induction hz with
 | nil=>intro t gg y h;cases h
 | cons h1 _ ih=>
   intro t gg y h;rw [lookR_cons] at h ⊢;split at h
   ·rename_i e;cases h;subst e;exact ⟨_,by simp,h1⟩
   rename_i e;rw [if_neg e];exact ih t gg y h
theorem Turn.weak {r r':Regs} {h:Heap} (hz:RLe r r'):Turn r h r' h:=by intro n X g a w hc;refine ⟨g,⟨hc.cw,fun t gg y hl=>?_,hc.defers,hc.size⟩,Step.refl _ _ _ _⟩;obtain ⟨x,hx,hxy⟩:=hz.look t gg y hl;obtain ⟨k1,k2⟩:=hc.regs t gg x hx;refine ⟨fun hh=>?_,k2⟩;obtain ⟨m1,u,m2,m3⟩:=k1 hh;exact ⟨m1,u,m2,hxy _ u m3⟩
theorem Turn.cells {r:Regs} {h h':Heap} {b:Nat} {xs ys:List AV} (hu:Upd b (.vec xs) b (.vec ys) h h') (hv:VsLe xs ys):Turn r h r h':=by
 intro n X g a w hc
 have hkeys:keys h'=keys h:=by
  clear hc;induction hu with
  | here l=>rfl
  | there _ ih=>simp only [keys,List.map_cons] at ih ⊢;rw [ih]
 have hget:∀ k o',(k,o')∈h'->(k,o')∈h\/(k=b/\o'=.vec ys/\(b,Ob.vec xs)∈h):=by
  clear hc hkeys;induction hu with
  | here l=>intro k o' hm;cases List.mem_cons.1 hm with
    | inl e=>cases e;exact .inr ⟨rfl,rfl,by simp⟩
    | inr e=>exact .inl (by simp [e])
  | there _ ih=>intro k o' hm;cases List.mem_cons.1 hm with
    | inl e=>subst e;exact .inl (by simp)
    | inr e=>
      rcases ih k o' e with h1|⟨h1,h2,h3⟩
      ·exact .inl (by simp [h1])
      exact .inr ⟨h1,h2,by simp [h3]⟩
 have hlen:∀ {xs ys:List AV},VsLe xs ys->xs.length=ys.length/\∀ (i:Nat) y,ys[i]?=some y->∃ x,xs[i]?=some x/\VLe x y:=by
  intro xs ys hv;induction hv with
  | nil=>exact ⟨rfl,fun i y h=>by cases h⟩
  | cons h1 _ ih=>
    refine ⟨by simp [ih.1],fun i y hi=>?_⟩;cases i with
    | zero=>cases hi;exact ⟨_,rfl,h1⟩
    | succ i=>exact ih.2 i y (by simpa using hi)
 obtain ⟨c2,s2⟩:=hc.cw.objs hkeys (fun k o' hm=>by
  rcases hget k o' hm with h1|⟨rfl,rfl,h2⟩
  ·exact hc.cw.obj k o' h1
  obtain ⟨p,cc,t,q1,q2,q3,q4,q5,q6⟩:=hc.cw.obj k (.vec xs) h2;obtain ⟨l,hg⟩:=hlen hv;refine ⟨p,cc,t,q1,q2,q3,q4,by rw [<- l];exact q5,fun i y hy=>?_⟩;obtain ⟨x,hx,hxy⟩:=hg i y hy;obtain ⟨u,u1,u2,u3⟩:=q6 i x hx;exact ⟨u,u1,u2,hxy _ _ u3⟩)
 exact ⟨g,hc.step c2 s2,s2⟩
theorem Turn.cut {r:Regs} {h h':Heap} {b:Nat} {xs ys:List AV} (hu:Upd b (.vec (xs++ys)) b (.vec xs) h h'):Turn r h r h':=by
 intro n X g a w hc
 have hkeys:keys h'=keys h:=by
  clear hc;induction hu with
  | here l=>rfl
  | there _ ih=>simp only [keys,List.map_cons] at ih ⊢;rw [ih]
 have hget:∀ k o',(k,o')∈h'->(k,o')∈h\/(k=b/\o'=.vec xs/\(b,Ob.vec (xs++ys))∈h):=by
  clear hc hkeys;induction hu with
  | here l=>intro k o' hm;cases List.mem_cons.1 hm with
    | inl e=>cases e;exact .inr ⟨rfl,rfl,by simp⟩
    | inr e=>exact .inl (by simp [e])
  | there _ ih=>intro k o' hm;cases List.mem_cons.1 hm with
    | inl e=>subst e;exact .inl (by simp)
    | inr e=>
      rcases ih k o' e with h1|⟨h1,h2,h3⟩
      ·exact .inl (by simp [h1])
      exact .inr ⟨h1,h2,by simp [h3]⟩
 obtain ⟨c2,s2⟩:=hc.cw.objs hkeys (fun k o' hm=>by
  rcases hget k o' hm with h1|⟨rfl,rfl,h2⟩
  ·exact hc.cw.obj k o' h1
  obtain ⟨p,cc,t,q1,q2,q3,q4,q5,q6⟩:=hc.cw.obj k (.vec (xs++ys)) h2;simp only [List.length_append] at q5;exact ⟨p,cc,t,q1,q2,q3,q4,by omega,fun i y hy=>q6 i y (by rw [List.getElem?_append_left (List.getElem?_eq_some_iff.1 hy).1];exact hy)⟩)
 exact ⟨g,hc.step c2 s2,s2⟩
theorem Turn.sub {r:Regs} {h h':Heap} (hsub:∀ k o,(k,o)∈h'->(k,o)∈h) (hnd:(keys h).Nodup->(keys h').Nodup):Turn r h r h':=by intro n X g a w hc;obtain ⟨c1,s1⟩:=hc.cw.sub hsub (hnd hc.cw.nodup);exact ⟨g,hc.step c1 s1,s1⟩
theorem Turn.drop {r:Regs} {h h':Heap} {b:Nat} {o:Ob} (hr:Rem b o h h'):Turn r h r h':=by
 obtain ⟨l1,l2,rfl,rfl⟩:=Rem.split hr;refine Turn.sub ?_ ?_
 ·intro k o hm;simp only [List.mem_append,List.mem_cons] at hm ⊢;rcases hm with h|h
  ·exact .inl h
  exact .inr (.inr h)
 intro this;rw [keys_app] at this;simp only [keys,List.map_append,List.nodup_append,List.nodup_cons,List.mem_cons] at this ⊢;exact ⟨this.1,this.2.1.2,fun x hx y hy=>this.2.2 x hx y (.inr hy)⟩
theorem holds_turn {c:Code} {Q:Ex->Regs->Heap->Prop} {r r':Regs} {h h':Heap} (ht:Turn r h r' h') (hh:Holds P n X c Q r' h'):Holds P n X c Q r h:=by refine ⟨fun g a w hc=>?_⟩;obtain ⟨g',c1,s1⟩:=ht n X g a w hc;refine wp_mono (hh.holds g' a w c1) ?_;rintro e a' w' ⟨ex,g2,r2,h2,rfl,hQ,hc2,hst⟩;exact ⟨ex,g2,r2,h2,rfl,hQ,hc2,s1.trans hc.cw.own hst⟩
def TurnTo (J:Regs->Heap->Prop) (r:Regs) (h:Heap):Prop:=∃ r' h',Turn r h r' h'/\J r' h'
theorem region_turn {P:Program} {c:Cfg} {F:Func} {E:En} {p:List Bool} {S:List Fr} {k id:Nat} {ops:Array Oper} {r r':Regs} {h h':Heap} (hcat:cat F p=.region id ops false) (hm:P.follows .mixedOrders=true)
  (ht:Turn r h r' h') (hr:run P c F E k (.op p 0) S r' h'):Holds P E.n E.X (cat F p) (fun e r h=>run P c F E k (.ex e) S r h) r h:=by
 refine holds_turn ht ?_;rw [hcat];refine cw_ok (c:=c) hm (.region id ops false) (?_:regP P c E.n ops.toList (Post P c F E k S .normal) ops.toList r' h');rw [<- opsAt_eq hcat];simpa using op_ok k k 0 (Nat.le_refl _) hr
theorem tloop {P:Program} {c:Cfg} {F:Func} {E:En} {p:List Bool} {S:List Fr} {k:Nat} {body:Code} {r:Regs} {h:Heap} (hcat:cat F p=.loop body) (hm:P.follows .mixedOrders=true) (ks:List Nat) (ts:List (Nat × Nat)) (J:Nat->Regs->Heap->Prop)
  (h0:atHead ks ts (TurnTo fun r h=>∃ m,J m r h) r h)
  (hb:∀ m r h,J m r h->run P c F E k (.go (false::p)) (.head (atHead ks ts (TurnTo fun r h=>∃ m',m'<m/\J m' r h))::S) r h) :
  Holds P E.n E.X (cat F p) (fun e r h=>run P c F E k (.ex e) S r h) r h:=by
 rw [hcat]
 have hat:∀ {J J':Regs->Heap->Prop} {r:Regs} {h:Heap},(∀ r h,J r h->J' r h)->atHead ks ts J r h->atHead ks ts J' r h:=by
  intro J J' r h hj;unfold atHead
  have:∀ {l:List (Nat × Nat)} {K K':Regs->Heap->Prop},(∀ r h,K r h->K' r h)->∀ {r:Regs} {h:Heap},retok l r h K->retok l r h K':=by
   intro l;induction l with
   | nil=>intro K K' hk r h hr;exact hk _ _ hr
   | cons x l ih=>
     obtain ⟨t,k⟩:=x;intro K K' hk r h hr;unfold retok at hr ⊢;split at hr
     ·exact ⟨hr.1,fun q=>ih hk (hr.2 q)⟩
     exact ih hk hr
  exact this fun r h=>normK_mono fun r'=>hj r' h
 refine holds_loop ks ts (fun m=>TurnTo (J m)) (hat ?_ h0) fun m r h hJ=>?_
 ·rintro r h ⟨r',h',ht,m,hj⟩;exact ⟨m,r',h',ht,hj⟩
 obtain ⟨r1,h1,ht,hJ⟩:=hJ;refine holds_turn ht ?_;have:=run_ok hm k (false::p) _ (hb m r1 h1 hJ);have e:cat F (false::p)=body:=(by simp [cat,hcat,child]);rw [e] at this;refine holds_mono (fun e r h hQ=>?_) this;cases k with
 | zero=>exact hQ.elim
 | succ k=>
   simp only [Post] at hQ;unfold run at hQ;cases e with
   | normal=>
     refine hat ?_ hQ;rintro r h ⟨r',h',ht,m',hlt,hj⟩;exact ⟨m',hlt,r',h',ht,hj⟩
   | exit i=>exact run_mono k _ _ _ (by omega) hQ
   | ret=>exact run_mono k _ _ _ (by omega) hQ
   | pan v=>exact run_mono k _ _ _ (by omega) hQ
theorem ACalls.frz {f:FuncId} {args:List AV} {R R':AV->Heap->Prop} {h:Heap} (hf:ACalls P f args h R)
  (hp:∀ v h1,R v h1->∃ b cs h2 h3 v',Rem b (.vec cs) h1 h2/\FzH b cs h2 h3/\FzV b cs v v'/\R' v' h3):ACalls P f args h R':=by
 refine ⟨fun X g w us hc hr=>?_⟩;refine (hf.1 X g w us hc hr).mono fun e w' he=>?_;obtain ⟨v,u,g',h1,rfl,hR,hc1,hu,hs⟩:=he;obtain ⟨b,cs,h2,h3,v',e1,e2,e3,e4⟩:=hp v h1 hR;obtain ⟨c1,s1,hv⟩:=Abs.freeze e1 hc1
 have hsub:∀ k o,(k,o)∈h2->(k,o)∈h1:=by
  obtain ⟨l1,l2,rfl,rfl⟩:=Rem.split e1;intro k o hm;simp only [List.mem_append,List.mem_cons] at hm ⊢;rcases hm with h|h
  ·exact .inl h
  exact .inr (.inr h)
 obtain ⟨c2,s2⟩:=c1.objs e2.keys (fun k o' hm=>by
  rcases e2.get k o' hm with h1|⟨xs,ys,rfl,h2,h3⟩
  ·exact c1.obj k o' h1
  obtain ⟨p,cc,t,q1,q2,q3,q4,q5,q6⟩:=hc1.obj k (.vec xs) (hsub _ _ h2);obtain ⟨l,hg⟩:=h3.get;refine ⟨p,cc,t,q1,q2,q3,q4,by rw [<- l];exact q5,fun i y hy=>?_⟩;obtain ⟨x,hx,hxy⟩:=hg i y hy;obtain ⟨u,u1,u2,u3⟩:=q6 i x hx;exact ⟨u,u1,u2,hv x y hxy u u3⟩)
 exact ⟨v',u,g',h3,rfl,e4,c2,Rep.mono (Step.le s2) _ _ (hv v v' e3 u hu),hs.trans hc.own (s1.trans hc1.own s2)⟩
end Go.Abs
/-
 The abstract layer,part X: rows of one's own,of one cell an element.
-/
namespace Go.Abs
open Go
theorem dropN_some:∀ {n:Nat} {cs:List AV},n<=cs.length->dropN n cs=some (cs.drop n)
 | 0,cs,_=>by cases cs<;>rfl
 | n+1,[],h=>by simp at h
 | n+1,c::cs,h=>by have:=dropN_some (n:=n) (cs:=cs) (by simpa using h);simpa [dropN] using this
theorem setC_row {vs:List AV} {j:Nat} {v:AV} (h:j<vs.length):setC vs j [v]=vs.set j v:=by unfold setC;rw [List.set_eq_take_append_cons_drop];simp [h]
theorem repC_one (n:Nat) (v:AV):repC n [v]=List.replicate n v:=by
 unfold repC;induction n with
 | zero=>rfl
 | succ n ih=>simp only [List.replicate_succ,List.flatten_cons,ih];rfl
theorem ixo {g:G} {b off len k i:Nat} {K:AV->Prop} (hi:i<len) (hk:K (.optr b (off+i*k))):∃ (j:Nat),gP g ((i:Int)=(j:Int)/\j<len)/\K (.optr b (off+j*k)):=
 ⟨i,gP_of ⟨rfl,hi⟩,hk⟩
theorem loadI_one {P:Program} {t:TypeId} {v:AV} {l:List AV} {K:AV->Prop} (ht:aggT P t=some false) (hk:K v):loadI P t (v::l) K:=by unfold loadI;rw [ht];exact hk
theorem ldo {P:Program} {t:TypeId} {b o:Nat} {vs:List AV} {v:AV} {h:Heap} {K:AV->Prop} (hm:(b,Ob.vec vs)∈h) (ht:aggT P t=some false) (hv:vs[o]?=some v) (hk:K v) :
  ∃ cs l,(b,Ob.vec cs)∈h/\dropN o cs=some l/\loadI P t l K:=by
 obtain ⟨h1,h2⟩:=List.getElem?_eq_some_iff.1 hv;refine ⟨vs,vs.drop o,hm,dropN_some (by omega),?_⟩;rw [List.drop_eq_getElem_cons h1,h2];exact loadI_one ht hk
theorem sto {b o:Nat} {vs:List AV} {v:AV} {h h':Heap} {K:AV->Heap->Prop} (ho:o<vs.length) (hu:Upd b (.vec vs) b (.vec (vs.set o v)) h h') (hk:K .unit h') :
  ∃ cs h',Upd b (.vec cs) b (.vec (setC cs o [v])) h h'/\(0<[v].length/\o+[v].length<=cs.length)/\K .unit h':=
 ⟨vs,h',by rw [setC_row ho];exact hu,⟨by simp,by simp;omega⟩,hk⟩
theorem fzRow {α:Type} {b:Nat} {ev:α->AV} {l:List α} {n:Nat} (hn:l.length=n):FzV b (l.map ev) (.osl b 0 n 1) (.sl 1 none (l.map fun x=>[ev x])):=by
 refine FzV.row (pre:=[]) (post:=[]) (xs':=[]) ?_ rfl (by simpa using hn) (by simp);clear hn;induction l with
 | nil=>rfl
 | cons x l ih=>simp at ih ⊢;exact ih
inductive VssLe:List (List AV)->List (List AV)->Prop
 | nil:VssLe [] []
 | cons {x y:List AV} {xs ys:List (List AV)}:VsLe x y->VssLe xs ys->VssLe (x::xs) (y::ys)
theorem VssLe.refl:∀ xs,VssLe xs xs
 | []=>.nil
 | x::xs=>.cons (VsLe.refl x) (VssLe.refl xs)
theorem VssLe.snoc {xs:List (List AV)} {x y:List AV} (h:VsLe x y):VssLe (xs++[x]) (xs++[y]):=by
 induction xs with
 | nil=>exact .cons h .nil
 | cons z xs ih=>exact .cons (VsLe.refl z) ih
theorem VsLe.length:∀ {xs ys:List AV},VsLe xs ys->xs.length=ys.length
 | _,_,.nil=>rfl
 | _,_,.cons _ h=>by simp [h.length]
theorem VssLe.length:∀ {xs ys:List (List AV)},VssLe xs ys->xs.length=ys.length
 | _,_,.nil=>rfl
 | _,_,.cons _ h=>by simp [h.length]
theorem VsLe.repCs {c:Cx}:∀ {xs ys:List AV} {b o:Nat},VsLe xs ys->RepCs c xs b o->RepCs c ys b o
 | _,_,_,_,.nil,h=>h
 | _,_,_,_,.cons h1 h2,h=>by simp only [RepCs] at h ⊢;obtain ⟨⟨u,a1,a2,a3,a4⟩,h⟩:=h;exact ⟨⟨u,a1,a2,a3,h1 _ _ a4⟩,h2.repCs h⟩
theorem VssLe.repEs {c:Cx} {k:Nat}:∀ {xs ys:List (List AV)} {b o:Nat},VssLe xs ys->RepEs c k xs b o->RepEs c k ys b o
 | _,_,_,_,.nil,h=>h
 | _,_,_,_,.cons h1 h2,h=>by simp only [RepEs] at h ⊢;obtain ⟨⟨a1,a2⟩,h⟩:=h;exact ⟨⟨by rw [<- h1.length];exact a1,h1.repCs a2⟩,h2.repEs h⟩
theorem VLe.els {k:Nat} {t:Option Nat} {xs ys:List (List AV)} (h:VssLe xs ys):VLe (.sl k t xs) (.sl k t ys):=by intro c u hu;simp only [Rep] at hu ⊢;obtain ⟨base,cap,hv,h1,h2,h3,h4,h5,h6,h7⟩:=hu;have hl:=h.length;refine ⟨base,cap,by rw [<- hl];exact hv,by omega,by omega,h3,h4,fun a ha hne=>h5 a ha (fun e=>hne (by subst e;exact List.eq_nil_of_length_eq_zero hl.symm)),fun a ha=>h.repEs (h6 a ha),fun q hq=>?_⟩;rw [<- hl];exact h7 q hq
theorem Turn.both {r r':Regs} {h h':Heap} (hr:RLe r r') (hsub:∀ k o,(k,o)∈h'->(k,o)∈h) (hnd:(keys h').Nodup):Turn r h r' h':=(Turn.weak hr).trans (Turn.sub hsub fun _=>hnd)
theorem Turn.one {r r':Regs} {h:Heap} {q:Nat} {o:Ob} (hr:RLe r r') (hm:(q,o)∈h):Turn r h r' [(q,o)]:=
 Turn.both hr (fun k o' hk=>by cases List.mem_singleton.1 hk;exact hm) (by simp [keys])
def rowsF (n:Nat) (f:Nat->AV):List AV:=(List.range n).map f
@[simp] theorem rowsF_length (n:Nat) (f:Nat->AV):(rowsF n f).length=n:=by simp [rowsF]
theorem rowsF_get {n i:Nat} {f:Nat->AV} (h:i<n):(rowsF n f)[i]?=some (f i):=by unfold rowsF;rw [List.getElem?_map,List.getElem?_range h];rfl
theorem rowsF_congr {n:Nat} {f g:Nat->AV} (h:∀ j,j<n->f j=g j):rowsF n f=rowsF n g:=by unfold rowsF;exact List.map_congr_left fun j hj=>h j (List.mem_range.1 hj)
theorem rowsF_set {n i:Nat} {f:Nat->AV} {v:AV}:(rowsF n f).set i v=rowsF n (fun j=>if j=i then v else f j):=by
 refine List.ext_getElem? fun j=>?_;rw [List.getElem?_set];by_cases hj:j<n
 ·rw [rowsF_get hj,rowsF_get hj];by_cases he:i=j
  ·subst he;simp [hj]
  rw [if_neg he,if_neg (fun h=>he h.symm)]
 rw [List.getElem?_eq_none (by simp;omega),List.getElem?_eq_none (by simp;omega)];simp;intro h;subst h;omega
theorem repC_F (n:Nat) (v:AV):repC n [v]=rowsF n (fun _=>v):=by
 rw [repC_one];unfold rowsF;refine List.ext_getElem? fun j=>?_;by_cases hj:j<n
 ·simp [hj]
 simp [hj]
theorem ldoF {P:Program} {t:TypeId} {b o n:Nat} {f:Nat->AV} {h:Heap} {K:AV->Prop} (v:AV) (hm:(b,Ob.vec (rowsF n f))∈h) (ht:aggT P t=some false) (ho:o<n) (hv:f o=v) (hk:K v) :
  ∃ cs l,(b,Ob.vec cs)∈h/\dropN o cs=some l/\loadI P t l K:=ldo hm ht (by rw [rowsF_get ho,hv]) hk
theorem stoF {b o n:Nat} {f:Nat->AV} {v:AV} {h h':Heap} {K:AV->Heap->Prop} (ho:o<n) (hu:Upd b (.vec (rowsF n f)) b (.vec (rowsF n (fun j=>if j=o then v else f j))) h h') (hk:K .unit h') :
  ∃ cs h',Upd b (.vec cs) b (.vec (setC cs o [v])) h h'/\(0<[v].length/\o+[v].length<=cs.length)/\K .unit h':=
 sto (vs:=rowsF n f) (by rw [rowsF_length];exact ho) (by rw [rowsF_set];exact hu) hk
theorem FzVs.ofGet {b:Nat} {cs:List AV}:∀ {xs ys:List AV},xs.length=ys.length->(∀ (i:Nat) x y,xs[i]?=some x->ys[i]?=some y->FzV b cs x y)->FzVs b cs xs ys
 | [],[],_,_=>.nil
 | x::xs,y::ys,hl,h=>.cons (h 0 x y rfl rfl) (FzVs.ofGet (by simpa using hl) fun i x y h1 h2=>h (i+1) x y (by simpa using h1) (by simpa using h2))
 | [],_::_,hl,_=>by simp at hl
 | _::_,[],hl,_=>by simp at hl
theorem fzF {b n:Nat} {f:Nat->AV} {xs:List (List AV)} (h:xs=(List.range n).map fun j=>[f j]):FzV b (rowsF n f) (.osl b 0 n 1) (.sl 1 none xs):=by subst h;exact fzRow (ev:=f) (l:=List.range n) (by simp)
theorem gcallH {P:Program} {g:G} {f:FuncId} {vs:List AV} {v:AV} {h:Heap} {K:AV->Prop} (hq:QCall P f vs h v) (hk:K v):∃ v,gP g (QCall P f vs h v)/\K v:=⟨v,gP_of hq,hk⟩
theorem ixn {α:Type} {enc:α->List AV} {l:List α} {x:α} {g:G} {n:Int} (i:Nat) {K:AV->Prop} (hn:n=(i:Int)) (hx:l[i]?=some x) (hk:K (.iptr (enc x))) :
  ∃ (j:Nat) (y:List AV),gP g (n=(j:Int)/\(l.map enc)[j]?=some y)/\K (.iptr y):=
 ⟨i,enc x,gP_of ⟨hn,by simp [hx]⟩,hk⟩
theorem cT {b:Bool} {A B:Prop} (h:b=true) (ha:A):(b=true->A)/\(b=false->B):=⟨fun _=>ha,fun h'=>by rw [h] at h';cases h'⟩
theorem cF {b:Bool} {A B:Prop} (h:b=false) (hb:B):(b=true->A)/\(b=false->B):=⟨(fun h'=>by rw [h] at h';cases h'),fun _=>hb⟩
theorem ACalls.frzOr {P:Program} {f:FuncId} {args:List AV} {R R':AV->Heap->Prop} {h:Heap} (hf:ACalls P f args h R)
  (hp:∀ v h1,R v h1->R' v h1\/∃ b cs h2 h3 v',Rem b (.vec cs) h1 h2/\FzH b cs h2 h3/\FzV b cs v v'/\R' v' h3):ACalls P f args h R':=by
 refine ⟨fun X g w us hc hr=>?_⟩;refine (hf.1 X g w us hc hr).mono fun e w' he=>?_;obtain ⟨v,u,g',h1,rfl,hR,hc1,hu,hs⟩:=he;rcases hp v h1 hR with hR'|⟨b,cs,h2,h3,v',e1,e2,e3,e4⟩
 ·exact ⟨v,u,g',h1,rfl,hR',hc1,hu,hs⟩
 obtain ⟨c1,s1,hv⟩:=Abs.freeze e1 hc1
 have hsub:∀ k o,(k,o)∈h2->(k,o)∈h1:=by
  obtain ⟨l1,l2,rfl,rfl⟩:=Rem.split e1;intro k o hm;simp only [List.mem_append,List.mem_cons] at hm ⊢;rcases hm with h|h
  ·exact .inl h
  exact .inr (.inr h)
 obtain ⟨c2,s2⟩:=c1.objs e2.keys (fun k o' hm=>by
  rcases e2.get k o' hm with h1|⟨xs,ys,rfl,h2,h3⟩
  ·exact c1.obj k o' h1
  obtain ⟨p,cc,t,q1,q2,q3,q4,q5,q6⟩:=hc1.obj k (.vec xs) (hsub _ _ h2);obtain ⟨l,hg⟩:=h3.get;refine ⟨p,cc,t,q1,q2,q3,q4,by rw [<- l];exact q5,fun i y hy=>?_⟩;obtain ⟨x,hx,hxy⟩:=hg i y hy;obtain ⟨u,u1,u2,u3⟩:=q6 i x hx;exact ⟨u,u1,u2,hv x y hxy u u3⟩)
 exact ⟨v',u,g',h3,rfl,e4,c2,Rep.mono (Step.le s2) _ _ (hv v v' e3 u hu),hs.trans hc.own (s1.trans hc1.own s2)⟩
end Go.Abs
