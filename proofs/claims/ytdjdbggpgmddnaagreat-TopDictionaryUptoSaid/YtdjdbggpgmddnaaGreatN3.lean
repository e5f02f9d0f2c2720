/- Small laws for the walks and contracts of functions; each theorem names its conditions. -/
import Derived.Test.YtdjdbggpgmddnaaGreatN2
import Derived.Laws.Tables
import Derived.Laws.Slices
import Derived.Laws.Strings2
import Derived.Great.BuildSlice
/-
 The abstract layer,part D: the operations that leave the own objects alone.
-/
set_option linter.unusedVariables false
namespace Go.Abs
open Go
variable {P:Program}
theorem cellsV_rep {c:Cx} {v:AV} {l:List AV} {u:Value} (h:cellsV v=some l) (hr:Rep c v u) :
  RepVs c l u.cells.toList/\∀ x∈u.cells,x.oneCell'=true:=by
 unfold cellsV at h;split at h
 ·cases h
  rw [Rep] at hr;obtain ⟨us,rfl,h1,h2⟩:=hr;exact ⟨h2,h1⟩
 ·cases h
 ·cases h
 rename_i n1 n2 n3;cases h
 have hu:u.cells=#[u]/\u.oneCell'=true:=by
  cases v<;>first|(exact absurd rfl (n1 _))|(exact absurd rfl (n2 _))|(exact absurd rfl n3)|skip
  all_goals simp only [Rep] at hr
  case junk=>cases u<;>simp_all [Value.oneCell',Value.cells]
  case val x=>obtain ⟨rfl,h2⟩:=hr;cases u<;>simp_all [Value.oneCell',Value.cells]
  case bool=>subst hr;simp [Value.oneCell',Value.cells]
  case int=>obtain ⟨rfl,_⟩:=hr;simp [Value.oneCell',Value.cells]
  case str=>obtain ⟨b,rfl,_⟩:=hr;simp [Value.oneCell',Value.cells]
  case nilS=>subst hr;simp [Value.oneCell',Value.cells]
  case slz=>obtain ⟨b,c,rfl,_⟩:=hr;simp [Value.oneCell',Value.cells]
  case nilO=>subst hr;simp [Value.oneCell',Value.cells]
  case sl=>obtain ⟨b,c,rfl,_⟩:=hr;simp [Value.oneCell',Value.cells]
  case osl=>obtain ⟨p,c,_,_,_,rfl,_⟩:=hr;simp [Value.oneCell',Value.cells]
  case oslc=>obtain ⟨p,_,_,rfl,_⟩:=hr;simp [Value.oneCell',Value.cells]
  case iptr=>obtain ⟨p,c,rfl,_⟩:=hr;simp [Value.oneCell',Value.cells]
  case optr=>obtain ⟨p,_,_,rfl⟩:=hr;simp [Value.oneCell',Value.cells]
  case nilP=>subst hr;simp [Value.oneCell',Value.cells]
  case omap=>obtain ⟨p,_,rfl⟩:=hr;simp [Value.oneCell',Value.cells]
  case nilM=>subst hr;simp [Value.oneCell',Value.cells]
  case fn=>obtain ⟨p,rfl,_⟩:=hr;simp [Value.oneCell',Value.cells]
  case nilF=>subst hr;simp [Value.oneCell',Value.cells]
  case oit=>obtain ⟨p,_,rfl⟩:=hr;simp [Value.oneCell',Value.cells]
 rw [hu.1];refine ⟨?_,by simpa using hu.2⟩;simp only [RepVs];exact ⟨u,[],rfl,hr,rfl⟩
section
variable {n:Nat} {X:Nat->Prop} {g0:Gh} {r:Regs} {h:Heap} {a:Act} {w:World}
theorem gP_he {g:G} {p:Prop} (he:∀ e∈g,e.2.1=e.2.2) (hp:gP g p):p:=by
 induction g with
 | nil=>exact hp
 | cons e g ih=>exact ih (fun e' h'=>he e' (by simp [h'])) (hp (he e (by simp)))
def NextQ (X:Nat->Prop) (g0:Gh) (h:Heap) (w:World) (K:AV->Prop) (d:Option Tmp) (a:Act) (next:Act->World->Prop):Prop:=
 ∀ v g' u w',K v->CW X g' h w'->Rep ⟨g',live X h,w'⟩ v u->Step X g0 h w g' h w'->next (a.put d u) w'
theorem q_val {o:Oper} {K:AV->Prop} {next:Act->World->Prop} {Q:Exit->Act->World->Prop} (hc:Conc n X g0 r h a w) (hn:NextQ X g0 h w K o.dst a next)
  {u:Value} {v:AV} (hk:K v) (hu:Rep ⟨g0,live X h,w⟩ v u) (hr:(execOp a.eval o).run P w=.ok (.value u) w):o.wp P a w next Q:=
 wp_value hr (hn v g0 u w hk hc.cw hu (Step.refl _ _ _ _))
theorem has_i64_len {k:Nat} (h:k<=LMAX):IntKind.i64.has (k:Int):=by unfold LMAX at h;constructor<;>simp [IntKind.min,IntKind.max,IntKind.signed,IntKind.bits]<;>omega
theorem lenP_ok {c:Cx} {t ty:TypeId} {x:AV} {u:Value} {K:AV->Prop} (h:lenP (P.underlying t) x K) (hu:Rep c x u) :
  ∃ v s,K v/\Rep c v s/\(Builtin.len_ #[t] ty #[u]).run P c.w=.ok s c.w:=by
 unfold lenP at h;split at h
 ·rename_i e k q xs hd;simp only [Rep] at hu;obtain ⟨b,cap,rfl,h1,h2,_⟩:=hu;exact ⟨_,_,h,by rw [Rep];exact ⟨rfl,has_i64_len h2⟩,by simp [Builtin.len_,run_und hd,goInt]⟩
 ·rename_i e hd;simp only [Rep] at hu;subst hu;exact ⟨_,_,h,by rw [Rep];exact ⟨rfl,has_i64_len (k:=0) (Nat.zero_le _)⟩,by simp [Builtin.len_,run_und hd,goInt]⟩
 ·rename_i e k hd;simp only [Rep] at hu;obtain ⟨a,cap,rfl,_⟩:=hu;exact ⟨_,_,h,by rw [Rep];exact ⟨rfl,has_i64_len (k:=0) (Nat.zero_le _)⟩,by simp [Builtin.len_,run_und hd,goInt]⟩
 ·rename_i e hd;simp only [Rep] at hu;subst hu;exact ⟨_,_,h,by rw [Rep];exact ⟨rfl,has_i64_len (k:=0) (Nat.zero_le _)⟩,by simp [Builtin.len_,run_und hd,goInt]⟩
 ·rename_i e b o m k hd;simp only [Rep] at hu;obtain ⟨p,cap,_,_,_,rfl,_,h2,_⟩:=hu;exact ⟨_,_,h,by rw [Rep];exact ⟨rfl,has_i64_len h2⟩,by simp [Builtin.len_,run_und hd,goInt]⟩
 ·rename_i e b o m c k hd;simp only [Rep] at hu;obtain ⟨p,_,_,rfl,_,h2,_⟩:=hu;exact ⟨_,_,h,by rw [Rep];exact ⟨rfl,has_i64_len h2⟩,by simp [Builtin.len_,run_und hd,goInt]⟩
 ·rename_i s hd;rw [Rep] at hu;obtain ⟨b,rfl,rfl,h2⟩:=hu;refine ⟨_,_,h,by rw [Rep];exact ⟨rfl,has_i64_len h2⟩,?_⟩;simp [Builtin.len_,run_und hd,goInt]
 exact h.elim
theorem min_ok {c:Cx}:∀ {l:List AV} {us:List Value} {x m:Int},foldI min x l=some m->RepVs c l us->IntKind.i64.has x ->
  IntKind.i64.has m/\∀ w:World,(us.foldlM Builtin.min2 (Value.int .i64 x)).run P w=.ok (.int .i64 m) w
 | [],us,x,m,h,hr,hx=>by simp [foldI] at h;subst h;simp [RepVs] at hr;subst hr;exact ⟨hx,fun w=>by simp⟩
 | y::l,us,x,m,h,hr,hx=>by
   simp only [RepVs] at hr;obtain ⟨u,r,rfl,h1,h2⟩:=hr;cases y<;>try (simp [foldI] at h;done)
   rename_i k b;cases k<;>try (simp [foldI] at h;done)
   rw [Rep] at h1;obtain ⟨rfl,hb⟩:=h1;have hm:IntKind.i64.has (min x b):=by rcases Int.le_total x b with e|e<;>simp [Int.min_eq_left,Int.min_eq_right,e,hx,hb]
   obtain ⟨e1,e2⟩:=min_ok (x:=min x b) (by simpa [foldI] using h) h2 hm;refine ⟨e1,fun w=>?_⟩;have e:(if b<x then b else x)=min x b:=by split<;>omega
   simp only [List.foldlM_cons,Sem.run_bind,Builtin.min2,Sem.run_pure,Result.andThen,e];exact e2 w
theorem max_ok {c:Cx}:∀ {l:List AV} {us:List Value} {x m:Int},foldI max x l=some m->RepVs c l us->IntKind.i64.has x ->
  IntKind.i64.has m/\∀ w:World,(us.foldlM Builtin.max2 (Value.int .i64 x)).run P w=.ok (.int .i64 m) w
 | [],us,x,m,h,hr,hx=>by simp [foldI] at h;subst h;simp [RepVs] at hr;subst hr;exact ⟨hx,fun w=>by simp⟩
 | y::l,us,x,m,h,hr,hx=>by
   simp only [RepVs] at hr;obtain ⟨u,r,rfl,h1,h2⟩:=hr;cases y<;>try (simp [foldI] at h;done)
   rename_i k b;cases k<;>try (simp [foldI] at h;done)
   rw [Rep] at h1;obtain ⟨rfl,hb⟩:=h1;have hm:IntKind.i64.has (max x b):=by rcases Int.le_total x b with e|e<;>simp [Int.max_eq_left,Int.max_eq_right,e,hx,hb]
   obtain ⟨e1,e2⟩:=max_ok (x:=max x b) (by simpa [foldI] using h) h2 hm;refine ⟨e1,fun w=>?_⟩;have e:(if b > x then b else x)=max x b:=by split<;>omega
   simp only [List.foldlM_cons,Sem.run_bind,Builtin.max2,Sem.run_pure,Result.andThen,e];exact e2 w
end
section
variable {n:Nat} {X:Nat->Prop} {g0:Gh} {r:Regs} {h:Heap} {a:Act} {w:World}
theorem run_call {f:FuncId} {us:Array Value} (hf:Callable P f):(callFunc f us).run P w=.ok (.enter f us) w:=by obtain ⟨fn,c,h1,h2,h3⟩:=hf;simp only [callFunc,Sem.run_bind,run_program,Result.andThen,h1,h3,h2];simp
theorem CallsE.calls {f:FuncId} {us:Array Value} {R:Ending->World->Prop} (hf:Callable P f) (hc:CallsE P f us w R):Calls P f us w R:=by
 rcases hc with ⟨_,h⟩|⟨v,w',h,_⟩
 ·exact h
 rw [run_call hf] at h;cases h
theorem wp_call {f:FuncId} {vs:List AV} {R:AV->Heap->Prop} {o:Oper} {us:Array Value} {next:Act->World->Prop} {Q:Exit->Act->World->Prop}
  (hq:ACalls P f vs h R) (hc:CW X g0 h w) (hv:RepVs ⟨g0,live X h,w⟩ vs us.toList)
  (hrun:(execOp a.eval o).run P w=(callFunc f us).run P w)
  (hn:∀ v h' g' u w',R v h'->CW X g' h' w'->Rep ⟨g',live X h',w'⟩ v u->Step X g0 h w g' h' w'->next (a.put o.dst u) w'):o.wp P a w next Q:=by
 rcases hq.1 X g0 w us hc hv with ⟨h1,h2⟩|⟨u,w',h1,v,u',g',h',e,h3,h4,h5,h6⟩
 ·rw [run_call h1] at hrun;simp only [Oper.wp,hrun,Oper.upon];refine h2.mono fun e w' he=>?_;obtain ⟨v,u,g',h',rfl,h1,h2,h3,h4⟩:=he;exact hn v h' g' u w' h1 h2 h3 h4
 cases e
 rw [h1] at hrun;exact wp_value hrun (hn v h' g' _ w' h3 h4 h5 h6)
end
theorem fold_set:∀ (vs:List Value) (k off:Nat) (cs:Array Value),off+k+vs.length<=cs.size ->
  ((vs.zipIdx k).foldl (fun cs (x:Value × Nat)=>cs.setIfInBounds (off+x.2) x.1) cs).toList=cs.toList.take (off+k)++vs++cs.toList.drop (off+k+vs.length)
 | [],k,off,cs,h=>by simp
 | v::vs,k,off,cs,h=>by
   simp only [List.length_cons] at h;simp only [List.zipIdx_cons,List.foldl_cons];rw [fold_set vs (k+1) off _ (by simp;omega)];simp only [Array.toList_setIfInBounds,List.length_cons];have hlen:off+k<cs.toList.length:=by simp;omega
   rw [show off+(k+1)=off+k+1 from by omega,List.take_succ_eq_append_getElem (by simp;omega),List.take_set];simp only [List.getElem_set_self,List.append_assoc,List.singleton_append];rw [List.set_eq_of_length_le (by simp;omega),List.drop_set_of_lt (by omega)];rw [show off+k+1+vs.length=off+k+(vs.length+1) from by omega]
theorem fill_one (v:Value) (off:Nat) (cells:Array Value) (h:off+v.cells.size<=cells.size) :
  (v.cells.zipIdx.foldl (fun cs (x:Value × Nat)=>cs.setIfInBounds (off+x.2) x.1) cells).toList=cells.toList.take off++v.cells.toList++cells.toList.drop (off+v.cells.size):=by
 have:=fold_set v.cells.toList 0 off cells (by simpa using h);rw [<- Array.foldl_toList,Array.toList_zipIdx];simpa using this
theorem fillC_ok {c:Cx} {place:Nat->Option (Nat × Nat)}:∀ {ps:List (Nat × AV)} {cs out:List AV} {vs:List (Nat × Value)} {cells:Array Value},
  fillC ps place cs=some out->(vs.map (·.1)=ps.map (·.1))->(∀ (i:Nat) (p:Nat × AV) (v:Nat × Value),ps[i]?=some p->vs[i]?=some v->Rep c p.2 v.2)->RepVs c cs cells.toList->(∀ u∈cells,u.oneCell'=true) ->
  ∃ res,Instr.fill place cells vs=some res/\RepVs c out res.toList/\∀ u∈res,u.oneCell'=true
 | [],cs,out,vs,cells,h,hi,hr,hc,h1=>by simp [fillC] at h;subst h;simp at hi;subst hi;exact ⟨cells,rfl,hc,h1⟩
 | (i,x)::ps,cs,out,vs,cells,h,hi,hr,hc,h1=>by
   cases vs with
   | nil=>simp at hi
   | cons v vs=>
     obtain ⟨j,v⟩:=v;simp at hi;obtain ⟨rfl,hi⟩:=hi;have hx:Rep c x v:=hr 0 _ _ rfl rfl;unfold fillC at h;cases hp:place j with
     | none=>simp [hp] at h
     | some q=>
       obtain ⟨off,size⟩:=q;simp only [hp] at h;cases hl:cellsV x with
       | none=>simp [hl] at h
       | some l=>
         simp only [hl] at h;obtain ⟨hcl,hco⟩:=cellsV_rep hl hx;split at h
         ·rename_i hsz;have hsz:=Nat.eq_of_beq_eq_true hsz;cases ht:takeN off cs with
          | none=>simp [ht] at h
          | some ta=>
            cases hd:dropN (off+size) cs with
            | none=>simp [ht,hd] at h
            | some td=>
              simp only [ht,hd] at h;obtain ⟨t1,rfl⟩:=takeN_eq ht;obtain ⟨d1,rfl⟩:=dropN_eq hd;have hlen:=hcl.length;have hcs:=hc.length;simp only [Array.length_toList] at hlen hcs;have hvs:v.cells.size=size:=(by omega);have hb:off+v.cells.size<=cells.size:=(by omega);have hf:=fill_one v off cells hb
              obtain ⟨res,e1,e2,e3⟩:=fillC_ok (place:=place) (vs:=vs) (cells:=v.cells.zipIdx.foldl (fun cs (x:Value × Nat)=>cs.setIfInBounds (off+x.2) x.1) cells) h hi
               (fun k p w hp hw=>hr (k+1) p w (by simpa using hp) (by simpa using hw))
               (by rw [hf];rw [hvs];exact RepVs.append (RepVs.append (RepVs.take off hc) hcl) (RepVs.drop (off+size) hc))
               (fun u hu=>by
                 have hu':u∈(v.cells.zipIdx.foldl (fun cs (x:Value × Nat)=>cs.setIfInBounds (off+x.2) x.1) cells).toList:=(by simpa using hu);rw [hf] at hu';simp only [List.mem_append] at hu';rcases hu' with (hu'|hu')|hu'
                 ·exact h1 u (by simpa using List.mem_of_mem_take hu')
                 ·exact hco u (by simpa using hu')
                 exact h1 u (by simpa using List.mem_of_mem_drop hu'))
              refine ⟨res,?_,e2,e3⟩;unfold Instr.fill;simp only [hp];rw [if_neg (by simp [hvs];omega)];exact e1
         cases h
theorem placesOf_eq {P:Program}:∀ {fs:List Field} {l:List (Nat × Nat)},placesOf P fs=some l ->
  fs.mapM (fun f=>(P.info? f.type).map fun i=>(f.offset,i.size))=some l
 | [],l,h=>by simp [placesOf] at h;subst h;simp
 | f::fs,l,h=>by
   unfold placesOf at h;cases hi:P.info? f.type with
   | none=>simp [hi] at h
   | some i=>
     cases hp:placesOf P fs with
     | none=>simp [hi,hp] at h
     | some l'=>
       simp [hi,hp] at h;subst h;simp [List.mapM_cons,hi,placesOf_eq hp]
theorem zeroCs_ok {P:Program} {c:Cx} {t:TypeId} {z:List AV} (h:zeroCs P t=some z):∃ i v,P.info? t=some i/\i.zero=some v/\RepVs c z v.cells.toList/\∀ u∈v.cells,u.oneCell'=true:=by
 unfold zeroCs at h;cases hi:P.info? t with
 | none=>simp [hi] at h
 | some i=>
   cases hz:i.zero with
   | none=>simp [hi,hz] at h
   | some v=>
     simp [hi,hz] at h;refine ⟨i,v,rfl,hz,ofVals_rep c h,?_⟩
     have one:∀ (vs:List Value) (xs:List AV),ofVals vs=some xs->∀ u∈vs,u.oneCell'=true:=by
      intro vs;induction vs with
      | nil=>intro xs _ u hu;cases hu
      | cons v vs ih=>
        intro xs hx u hu;unfold ofVals at hx;cases hv:ofVal v with
        | none=>simp [hv] at hx
        | some a=>
          cases hr:ofVals vs with
          | none=>simp [hv,hr] at hx
          | some b=>
            rcases List.mem_cons.1 hu with rfl|hu
            ·unfold ofVal at hv;split at hv<;>first|rfl|cases hv
            exact ih b hr u hu
     intro u hu;exact one _ _ h u (by simpa using hu)
theorem RepEs.flat {c:Cx} {k:Nat}:∀ {xs:List (List AV)} {b o:Nat},(∀ x∈xs,x.length=k)->RepCs c xs.flatten b o->RepEs c k xs b o
 | [],b,o,_,_=>by simp [RepEs]
 | x::xs,b,o,hk,h=>by simp only [RepEs];have hx:=hk x (by simp);simp only [List.flatten_cons] at h;have h1:=RepCs.take x.length h;have h2:=RepCs.drop x.length (by simp) h;simp at h1 h2;exact ⟨⟨hx,h1⟩,RepEs.flat (fun y hy=>hk y (by simp [hy])) (hx ▸ h2)⟩
theorem RepCs.append {c:Cx}:∀ {xs ys:List AV} {b o:Nat},RepCs c xs b o->RepCs c ys b (o+xs.length)->RepCs c (xs++ys) b o
 | [],ys,b,o,_,h=>by simpa using h
 | x::xs,ys,b,o,h,h'=>by simp only [List.cons_append,RepCs] at h ⊢;exact ⟨h.1,RepCs.append h.2 (by rw [show o+1+xs.length=o+(x::xs).length from by simp;omega];exact h')⟩
theorem RepEs.toFlat {c:Cx} {k:Nat}:∀ {xs:List (List AV)} {b o:Nat},RepEs c k xs b o->(∀ x∈xs,x.length=k)/\RepCs c xs.flatten b o
 | [],b,o,_=>by simp [RepCs]
 | x::xs,b,o,h=>by simp only [RepEs] at h;obtain ⟨⟨h1,h2⟩,h3⟩:=h;obtain ⟨e1,e2⟩:=RepEs.toFlat h3;refine ⟨fun y hy=>(List.mem_cons.1 hy).elim (fun e=>e ▸ h1) (e1 y),?_⟩;simp only [List.flatten_cons];exact RepCs.append h2 (h1 ▸ e2)
theorem flat_length {k:Nat}:∀ {xs:List (List AV)},(∀ x∈xs,x.length=k)->xs.flatten.length=xs.length*k
 | [],_=>by simp
 | x::xs,h=>by have ih:=flat_length (xs:=xs) (fun y hy=>h y (List.mem_cons_of_mem _ hy));have hx:=h x (List.mem_cons_self ..);simp only [List.flatten_cons,List.length_append,List.length_cons,ih,hx,Nat.add_mul,Nat.one_mul];omega
end Go.Abs
