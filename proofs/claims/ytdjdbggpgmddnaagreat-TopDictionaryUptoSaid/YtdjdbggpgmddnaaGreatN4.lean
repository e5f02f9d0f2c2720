/- Small laws for the walks and contracts of functions; each theorem names its conditions. -/
import Derived.Test.YtdjdbggpgmddnaaGreatN3
/-
 The abstract layer,part E: every operation that leaves the own objects alone does what the evaluator says.
-/
set_option linter.unusedVariables false
set_option linter.unusedSimpArgs false
namespace Go.Abs
open Go
variable {P:Program} {n:Nat} {X:Nat->Prop} {g0:Gh} {r:Regs} {h:Heap} {a:Act} {w:World}
theorem elems_ok (hc:Conc n X g0 r h a w) {g:G} (hg:holdsC a g) {size:Nat}:∀ {ps:List (Nat × Operand)} {k:Nat} {l:List (List AV)},
  elemsOf r g size k ps=some l->∀ (cells:Array Value),(k+ps.length)*size<=cells.size->(∀ u∈cells,u.oneCell'=true) ->
  ∃ res us,Instr.fill (fun i=>some (i*size,size)) cells (ps.map fun (i,x)=>(i,a.eval x))=some res/\l.length=ps.length/\(∀ x∈l,x.length=size) /\
   RepVs ⟨g0,live X h,w⟩ l.flatten us/\us.length=ps.length*size/\res.toList=cells.toList.take (k*size)++us++cells.toList.drop ((k+ps.length)*size) /\
   (∀ u∈res,u.oneCell'=true)
 | [],k,l,he,cells,hs,h1=>by simp [elemsOf] at he;subst he;exact ⟨cells,[],rfl,rfl,by simp,by simp [RepVs],by simp,by simp,h1⟩
 | (i,x)::ps,k,l,he,cells,hs,h1=>by
   unfold elemsOf at he;split at he
   ·rename_i hik;have hik:=Nat.eq_of_beq_eq_true hik;subst hik;cases hx:opnd r g x with
    | none=>simp [hx] at he
    | some v=>
      simp only [hx] at he;cases hv:cellsV v with
      | none=>simp [hv] at he
      | some y=>
        simp only [hv] at he;split at he
        ·rename_i hl;have hl:=Nat.eq_of_beq_eq_true hl;cases hr:elemsOf r g size (i+1) ps with
         | none=>simp [hr] at he
         | some l'=>
           simp [hr] at he;subst he;have hrep:=hc.opnd hg hx;obtain ⟨hcl,hco⟩:=cellsV_rep hv hrep;have hlen:=hcl.length;simp only [Array.length_toList] at hlen;have hvs:(a.eval x).cells.size=size:=(by omega);simp only [List.length_cons] at hs;have e0:(i+(ps.length+1))*size=i*size+size+ps.length*size:=by simp only [Nat.add_mul,Nat.one_mul];omega
           have hb:i*size+(a.eval x).cells.size<=cells.size:=(by omega);have hf:=fill_one (a.eval x) (i*size) cells hb;have hsz:((a.eval x).cells.zipIdx.foldl (fun cs (x:Value × Nat)=>cs.setIfInBounds (i*size+x.2) x.1) cells).size=cells.size:=by have:=congrArg List.length hf;simp only [Array.length_toList,List.length_append,List.length_take,List.length_drop] at this;omega
           obtain ⟨res,us,e1,e2,e3,e4,e5,e6,e7⟩:=elems_ok hc hg hr ((a.eval x).cells.zipIdx.foldl (fun cs (x:Value × Nat)=>cs.setIfInBounds (i*size+x.2) x.1) cells)
            (by rw [hsz];rw [show i+1+ps.length=i+(ps.length+1) from by omega];exact hs)
            (fun u hu=>by
              have hu':u∈((a.eval x).cells.zipIdx.foldl (fun cs (x:Value × Nat)=>cs.setIfInBounds (i*size+x.2) x.1) cells).toList:=(by simpa using hu);rw [hf] at hu';simp only [List.mem_append] at hu';rcases hu' with (hu'|hu')|hu'
              ·exact h1 u (by simpa using List.mem_of_mem_take hu')
              ·exact hco u (by simpa using hu')
              exact h1 u (by simpa using List.mem_of_mem_drop hu'))
           refine ⟨res,(a.eval x).cells.toList++us,?_,by simp [e2],?_,?_,?_,?_,e7⟩
           ·simp only [List.map_cons];unfold Instr.fill;simp only [];rw [if_neg (by simp [hvs];omega)];exact e1
           ·intro z hz;rcases List.mem_cons.1 hz with rfl|hz
            ·exact hl
            exact e3 z hz
           ·simp only [List.flatten_cons];exact RepVs.append hcl e4
           ·simp only [List.length_append,Array.length_toList,e5,hvs,List.length_cons,Nat.add_mul];omega
           rw [e6,hf];simp only [List.length_cons];have t1:(cells.toList.take (i*size)++(a.eval x).cells.toList++cells.toList.drop (i*size+(a.eval x).cells.size)).take ((i+1)*size)=cells.toList.take (i*size)++(a.eval x).cells.toList:=by rw [List.take_append_of_le_length (by simp only [List.length_append,List.length_take,Array.length_toList,Nat.add_mul];omega)];exact List.take_of_length_le (by simp only [List.length_append,List.length_take,Array.length_toList,Nat.add_mul];omega)
           rw [t1]
           have t2:(cells.toList.take (i*size)++(a.eval x).cells.toList++cells.toList.drop (i*size+(a.eval x).cells.size)).drop ((i+1+ps.length)*size)=cells.toList.drop ((i+(ps.length+1))*size):=by
            have hle:(cells.toList.take (i*size)++(a.eval x).cells.toList).length<=(i+1+ps.length)*size:=by simp only [List.length_append,List.length_take,Array.length_toList,Nat.add_mul];omega
            rw [List.drop_append,List.drop_of_length_le hle,List.nil_append,List.drop_drop];congr 1;simp only [List.length_append,List.length_take,Array.length_toList,Nat.add_mul];omega
           rw [t2];simp
        cases he
   cases he
theorem load_ok {t:TypeId} {x:AV} {u:Value} {K:AV->Prop} (hc:CW X g0 h w) (hu:Rep ⟨g0,live X h,w⟩ x u)
  (hk:match x with
    | .iptr cs=>loadI P t cs K
    | .optr b o=>∃ cs l,(b,Ob.vec cs)∈h/\dropN o cs=some l/\loadI P t l K
    | _=>False) :
  ∃ v s,K v/\Rep ⟨g0,live X h,w⟩ v s/\(Instr.loadAt t u).run P w=.ok s w:=by
 cases x<;>try exact hk.elim
 case iptr cs=>
  rw [Rep] at hu;obtain ⟨b,o,rfl,hr⟩:=hu;obtain ⟨v,s,h1,h2,h3⟩:=run_loadVarI hr hk;exact ⟨v,s,h1,h2,by simpa [Instr.loadAt,Instr.sureAddr] using h3⟩
 case optr b o=>
  rw [Rep] at hu;obtain ⟨p,hp,hs,rfl⟩:=hu;obtain ⟨cs,l,hm,hd,hl⟩:=hk;obtain ⟨h1,rfl⟩:=dropN_eq hd;obtain ⟨p',hp',hs',us,e1,e2,e3,e4⟩:=vec_cells (hc.obj b _ hm);simp only at hp';rw [hp] at hp';cases hp'
  obtain ⟨v,s,k1,k2,k3⟩:=run_loadVarU (P:=P) (t:=t) (b:=p.block) (o:=p.off+o) (us:=us.drop o) (c:=⟨g0,live X h,w⟩)
   (fun j u hu=>by rw [Nat.add_assoc];exact e2 (o+j) u (by simpa using hu)) (fun j u hu=>e3 (o+j) u (by simpa using hu)) (RepVs.drop o e4) hl
  exact ⟨v,s,k1,k2,by simpa [Instr.loadAt,Instr.sureAddr] using k3⟩
theorem fieldOf_ok {s:TypeId} {f:Nat} {fd:Field} (hf:fieldOf P s f=some fd):∃ fs,P.underlying s=some (.struct fs)/\fs[f]?=some fd:=by
 unfold fieldOf at hf;split at hf
 ·rename_i fs hu;exact ⟨fs,hu,by simpa using hf⟩
 cases hf
theorem run_fieldAt {s:TypeId} {f:Nat} {fd:Field} (hf:fieldOf P s f=some fd) (hs:Nat.ble 1 (P.cellsOf fd.type)=true) (b o:Nat) :
  (Instr.fieldAt s (.pointer (some ⟨b,o,none⟩)) f).run P w=.ok (.pointer (some ⟨b,o+fd.offset,none⟩)) w:=by
 obtain ⟨fs,hu,hf⟩:=fieldOf_ok hf;have hs:=Nat.le_of_ble_eq_true hs
 have hi:∃ i,P.info? fd.type=some i:=by
  cases hi:P.info? fd.type with
  | none=>simp [Program.cellsOf,hi] at hs
  | some i=>exact ⟨i,rfl⟩
 obtain ⟨i,hi⟩:=hi;have hne:P.cellsOf fd.type≠0:=(by omega);simp [Instr.fieldAt,run_und hu,hf,Instr.sureAddr,fieldPlace,run_sizeT hi,hne,Addr.add]
theorem RepEs.get {c:Cx} {k:Nat}:∀ {xs:List (List AV)} {b o j:Nat} {y:List AV},RepEs c k xs b o->xs[j]?=some y->RepCs c y b (o+j*k)
 | [],b,o,j,y,_,h=>by simp at h
 | x::xs,b,o,0,y,hr,h=>by simp only [RepEs] at hr;simp at h;subst h;simpa using hr.1.2
 | x::xs,b,o,j+1,y,hr,h=>by simp only [RepEs] at hr;have:=RepEs.get hr.2 (by simpa using h);rw [show o+(j+1)*k=o+k+j*k from by rw [Nat.add_mul,Nat.one_mul];omega];exact this
theorem evals_list (xs:Array Operand):(xs.map a.eval).toList=xs.toList.map a.eval:=by simp
theorem run_callF {o:Oper} {f:FuncId} {cl:Call} (ho:o.op=.call cl) {caps:Array Value}
  (hv:∃ x,cl.callee=.value x/\a.eval x=.func (.func f) #[] caps) :
  (execOp a.eval o).run P w=(callFunc f (cl.args.map a.eval++caps)).run P w:=by
 obtain ⟨x,h1,h2⟩:=hv;simp only [execOp,ho,Sem.run_bind,resolve,h1,h2,Deferred.ofValue,Sem.run_pure,Result.andThen,invoke];simp only [Array.empty_append]
theorem sliced_ok {c:Cx} {k:Nat} {t:Option Nat} {xs:List (List AV)} {base:Option Addr} {cap l m:Nat} (all:Bool) (hk:0<k)
  (hu:Rep c (.sl k t xs) (.slice base xs.length cap)) (h1:l<=m) (h2:m<=xs.length) (ha:all=true->m=xs.length) :
  Rep c (.sl k (tokIf all t) ((xs.take m).drop l)) (sliced base l m cap k):=by
 simp only [Rep] at hu ⊢;obtain ⟨base',cap',hv,e1,e2,e3,e4,e5,e6,e7⟩:=hu;injection hv with q1 q2 q3;subst q1;subst q3;have hlen:((xs.take m).drop l).length=m - l:=by simp;omega
 refine ⟨_,cap - l,by rw [hlen];rfl,by rw [hlen];omega,by rw [hlen];omega,hk,?_,?_,?_,?_⟩
 ·intro hb;cases base with
  | none=>have:=e4 rfl;omega
  | some a=>
    split at hb
    ·omega
    simp at hb
 ·intro a ha' hne;cases base with
  | none=>split at ha'<;>simp at ha'
  | some a0=>
    have hs:=e5 a0 rfl (fun e=>by subst e;simp at hne);split at ha'
    ·simp at ha';subst ha';exact hs
    simp at ha';subst ha';unfold Addr.add;split
    ·exact hs
    rfl
 ·intro a ha';cases base with
  | none=>split at ha'<;>simp at ha'
  | some a0=>
    have hr:=e6 a0 rfl;by_cases hcl:cap=l
    ·have:(xs.take m).drop l=[]:=List.eq_nil_of_length_eq_zero (by rw [hlen];omega);rw [this];simp [RepEs]
    rw [if_neg hcl] at ha';simp at ha';subst ha'
    have key:∀ (l:Nat) (ys:List (List AV)) (b o:Nat),RepEs c k ys b o->RepEs c k (ys.drop l) b (o+l*k):=by
     intro l;induction l with
     | zero=>intro ys b o hy;simpa using hy
     | succ l ih=>
       intro ys b o hy;cases ys with
       | nil=>simp [RepEs]
       | cons y ys=>
         simp only [RepEs] at hy;have:=ih ys b (o+k) hy.2;rw [show o+(l+1)*k=o+k+l*k from by rw [Nat.add_mul,Nat.one_mul];omega];simpa using this
    have keyt:∀ (m:Nat) (ys:List (List AV)) (b o:Nat),RepEs c k ys b o->RepEs c k (ys.take m) b o:=by
     intro m;induction m with
     | zero=>intro ys b o hy;simp [RepEs]
     | succ m ih=>
       intro ys b o hy;cases ys with
       | nil=>simp [RepEs]
       | cons y ys=>
         simp only [RepEs,List.take_succ_cons] at hy ⊢;exact ⟨hy.1,ih ys b _ hy.2⟩
    have:=key l _ _ _ (keyt m _ _ _ hr);unfold Addr.add;split
    ·rename_i h0;rw [h0] at this;simpa using this
    exact this
 intro q hq;cases all with
 | false=>cases hq
 | true=>
   have hm:=ha rfl;simp only [tokIf] at hq;rcases e7 q hq with e7|⟨a0,rfl,hs,hp,hh⟩
   ·left;rw [hlen];omega
   by_cases hcl:cap=l
   ·left;rw [hlen];omega
   right;rw [if_neg hcl];have el:a0.off+xs.length*k=a0.off+l*k+(m - l)*k:=by rw [Nat.add_assoc,<- Nat.add_mul];congr 2;omega
   have ec:a0.off+cap*k=a0.off+l*k+(cap - l)*k:=by rw [Nat.add_assoc,<- Nat.add_mul];congr 2;omega
   refine ⟨⟨a0.block,a0.off+l*k,none⟩,?_,rfl,?_,?_⟩
   ·simp only [Option.map_some,Addr.add];split
    ·rename_i h0;rw [h0];cases a0;simp_all
    rfl
   ·rw [hlen,hp];simp only [el]
   simp only;rw [<- ec];exact hh
theorem run_slice_sl {t e:TypeId} {base:Option Addr} {len cap:Nat} (hu:P.underlying t=some (.slice e)) (hk:∃ i,P.info? e=some i) {vlo vhi:Option Value} {lo hi:Int}
  (hlo:vlo=none/\lo=0\/∃ k,vlo=some (.int k lo)) (hhi:vhi=none/\hi=len\/∃ k,vhi=some (.int k hi)) (h0:0<=lo) (h1:lo<=hi) (h2:hi<=cap) (hc:len<=cap) :
  (Instr.sliceAt t (.slice base len cap) vlo vhi none).run P w=.ok (sliced base lo.toNat hi.toNat cap (P.cellsOf e)) w:=by
 obtain ⟨i,hi'⟩:=hk;have p1:0<=hi:=(by omega);have p2:hi<=cap:=(by omega);have b1:((hi.toNat:Nat):Int)=hi:=(by omega);have b2:hi=(len:Int)->hi.toNat=len:=(by omega);rcases hlo with ⟨rfl,rfl⟩|⟨kl,rfl⟩
 ·rcases hhi with ⟨rfl,e⟩|⟨kh,rfl⟩
  ·simp [Instr.sliceAt,run_und hu,Instr.slice,Instr.sliceBounds,run_sizeT hi',sliced,b2 e]
  simp [Instr.sliceAt,run_und hu,Instr.slice,Instr.sliceBounds,Instr.sliceBound,asIntOf,run_sizeT hi',sliced,p1,p2]
 rcases hhi with ⟨rfl,e⟩|⟨kh,rfl⟩
 ·have:lo<=(len:Int):=(by omega);simp [Instr.sliceAt,run_und hu,Instr.slice,Instr.sliceBounds,Instr.sliceBound,asIntOf,run_sizeT hi',sliced,b2 e,h0,this]
 have:lo<=max hi 0:=(by omega);simp [Instr.sliceAt,run_und hu,Instr.slice,Instr.sliceBounds,Instr.sliceBound,asIntOf,run_sizeT hi',sliced,p1,p2,h0,b1,h1,this]
theorem run_slice_st {t:TypeId} {s:ByteArray} (hu:P.underlying t=some .string) {vlo vhi:Option Value} {lo hi:Int}
  (hlo:vlo=none/\lo=0\/∃ k,vlo=some (.int k lo)) (hhi:vhi=none/\hi=s.size\/∃ k,vhi=some (.int k hi)) (h0:0<=lo) (h1:lo<=hi) (h2:hi<=s.size) :
  (Instr.sliceAt t (.string s) vlo vhi none).run P w=.ok (.string (s.extract lo.toNat hi.toNat)) w:=by
 have p1:0<=hi:=(by omega);have b1:((hi.toNat:Nat):Int)=hi:=(by omega);have b2:hi=(s.size:Int)->hi.toNat=s.size:=(by omega);rcases hlo with ⟨rfl,rfl⟩|⟨kl,rfl⟩
 ·rcases hhi with ⟨rfl,e⟩|⟨kh,rfl⟩
  ·simp [Instr.sliceAt,run_und hu,Instr.slice,Instr.sliceBounds,b2 e]
  simp [Instr.sliceAt,run_und hu,Instr.slice,Instr.sliceBounds,Instr.sliceBound,asIntOf,p1,h2]
 rcases hhi with ⟨rfl,e⟩|⟨kh,rfl⟩
 ·have:lo<=(s.size:Int):=(by omega);simp [Instr.sliceAt,run_und hu,Instr.slice,Instr.sliceBounds,Instr.sliceBound,asIntOf,b2 e,h0,this]
 have:lo<=max hi 0:=(by omega);simp [Instr.sliceAt,run_und hu,Instr.slice,Instr.sliceBounds,Instr.sliceBound,asIntOf,p1,h2,h0,b1,h1,this]
theorem sliceP_ok {c:Cx} {g:G} (he:∀ e∈g,e.2.1=e.2.2) {t:TypeId} {x:AV} {u:Value} {lo hi:Int} {all:Bool} {K:AV->Prop} {vlo vhi:Option Value} {m:Nat}
  (h:sliceP g x lo hi all K) (hu:Rep c x u) (hm:lenOf? x=some m) (hty:sliceTy P t x=true)
  (hlo:vlo=none/\lo=0\/∃ k,vlo=some (.int k lo)) (hhi:vhi=none/\hi=m/\all=true\/(∃ k,vhi=some (.int k hi))/\all=false) :
  ∃ v s,K v/\Rep c v s/\(Instr.sliceAt t u vlo vhi none).run P c.w=.ok s c.w:=by
 cases x<;>try (simp [lenOf?] at hm;done)
 case str s=>
  simp [lenOf?] at hm;subst hm;simp only [sliceP] at h;obtain ⟨hb,hk⟩:=h;obtain ⟨h0,h1,h2⟩:=gP_he he hb
  have hty':P.underlying t=some .string:=by
   unfold sliceTy at hty;cases hud:P.underlying t with
   | none=>simp [hud] at hty
   | some d=>cases d<;>simp_all
  rw [Rep] at hu;obtain ⟨b,rfl,rfl,hl⟩:=hu;have hsz:(b.data.toList.length:Int)=b.size:=rfl;rw [hsz] at h2;refine ⟨_,_,hk,?_,run_slice_st (w:=c.w) hty' hlo (by rcases hhi with ⟨e1,e2,_⟩|⟨e1,_⟩;exact .inl ⟨e1,e2⟩;exact .inr e1) h0 h1 h2⟩;rw [Rep];refine ⟨_,rfl,?_,?_⟩
  ·rw [ByteArray.data_extract,Array.toList_extract,List.extract_eq_take_drop,List.drop_take]
  simp only [List.length_drop,List.length_take];omega
 case sl k q xs=>
  simp [lenOf?] at hm;subst hm;simp only [sliceP] at h;obtain ⟨hb,hk⟩:=h;obtain ⟨h0,h1,h2⟩:=gP_he he hb;unfold sliceTy at hty;cases hud:P.underlying t with
  | none=>simp [hud] at hty
  | some d=>
  cases d<;>try (simp [hud] at hty;done)
  rename_i e;simp only [hud] at hty;have hcell:=Nat.eq_of_beq_eq_true hty;have hu':=hu;simp only [Rep] at hu';obtain ⟨base,cap,rfl,e1,e2,e3,_⟩:=hu'
  have hi':∃ i,P.info? e=some i:=by
   cases hie:P.info? e with
   | none=>simp [Program.cellsOf,hie] at hcell;omega
   | some i=>exact ⟨i,rfl⟩
  refine ⟨_,_,hk,?_,run_slice_sl (w:=c.w) hud hi' hlo (by rcases hhi with ⟨e1,e2,_⟩|⟨e1,_⟩;exact .inl ⟨e1,e2⟩;exact .inr e1) h0 h1 (by omega) e1⟩;rw [hcell];exact sliced_ok (l:=lo.toNat) (m:=hi.toNat) all e3 hu (by omega) (by omega) (fun ha=>by rcases hhi with ⟨_,e,_⟩|⟨_,e⟩;omega;simp [ha] at e)
 case nilS=>
  simp [lenOf?] at hm;subst hm;simp only [sliceP] at h;obtain ⟨hb,hk⟩:=h;obtain ⟨h0,h1⟩:=gP_he he hb;unfold sliceTy at hty;cases hud:P.underlying t with
  | none=>simp [hud] at hty
  | some d=>
  cases d<;>try (simp [hud] at hty;done)
  rename_i e;simp only [hud] at hty;have hcell:=Nat.le_of_ble_eq_true hty;rw [Rep] at hu;subst hu
  have hi':∃ i,P.info? e=some i:=by
   cases hie:P.info? e with
   | none=>simp [Program.cellsOf,hie] at hcell
   | some i=>exact ⟨i,rfl⟩
  have hr:=run_slice_sl (w:=c.w) (base:=none) (len:=0) (cap:=0) hud hi' hlo (by rcases hhi with ⟨e1,e2,_⟩|⟨e1,_⟩;exact .inl ⟨e1,by omega⟩;exact .inr e1) (by omega) (by omega) (by omega) (Nat.le_refl 0);refine ⟨_,_,hk,?_,hr⟩;subst h0 h1;simp [Rep,sliced]
 case osl b off n k=>
  simp [lenOf?] at hm;subst hm;simp only [sliceP] at h;obtain ⟨hb,hk⟩:=h;obtain ⟨h0,h1,h2,h3⟩:=gP_he he hb;unfold sliceTy at hty;cases hud:P.underlying t with
  | none=>simp [hud] at hty
  | some d=>
  cases d<;>try (simp [hud] at hty;done)
  rename_i e;simp only [hud] at hty;have hcell:=Nat.eq_of_beq_eq_true hty;rw [Rep] at hu;obtain ⟨p,cap,o',x1,x2,rfl,x3,x4,x5,x6,x7,x8⟩:=hu
  have hi':∃ i,P.info? e=some i:=by
   cases hie:P.info? e with
   | none=>simp [Program.cellsOf,hie] at hcell;omega
   | some i=>exact ⟨i,rfl⟩
  refine ⟨_,_,hk,?_,run_slice_sl (w:=c.w) hud hi' hlo (by rcases hhi with ⟨e1,e2,_⟩|⟨e1,_⟩;exact .inl ⟨e1,e2⟩;exact .inr e1) h0 h1 (by omega) x3⟩;rw [hcell,Rep];obtain ⟨cs,tt,ff,y1,y2⟩:=x6;have hcap:lo.toNat*k+(cap - lo.toNat)*k=cap*k:=(by rw [<- Nat.add_mul,Nat.add_sub_cancel' (by omega)]);by_cases hcl:cap=lo.toNat
  ·refine ⟨p,cap - lo.toNat,o',x1,x2,?_,by omega,by omega,x5,⟨cs,tt,ff,y1,by omega⟩,by omega,by omega⟩;unfold sliced;rw [if_pos hcl]
  have:=x7 (by omega);subst this;refine ⟨p,cap - lo.toNat,o'+lo.toNat*k,x1,x2,?_,by omega,by omega,x5,⟨cs,tt,ff,y1,by omega⟩,fun _=>rfl,by omega⟩;unfold sliced;rw [if_neg hcl]
  have hadd:(⟨p.block,p.off+o',none⟩:Addr).add (lo.toNat*k)=⟨p.block,p.off+(o'+lo.toNat*k),none⟩:=by
   unfold Addr.add;split
   ·rename_i h0;rw [h0];simp
   simp [Nat.add_assoc]
  simp only [Option.map_some,hadd]
 case oslc b off n cap k=>
  simp [lenOf?] at hm;subst hm;simp only [sliceP] at h;obtain ⟨hb,hk⟩:=h;obtain ⟨h0,h1,h2,h3⟩:=gP_he he hb;unfold sliceTy at hty;cases hud:P.underlying t with
  | none=>simp [hud] at hty
  | some d=>
  cases d<;>try (simp [hud] at hty;done)
  rename_i e;simp only [hud] at hty;have hcell:=Nat.eq_of_beq_eq_true hty;rw [Rep] at hu;obtain ⟨p,x1,x2,rfl,x3,x4,x5,x6,x8⟩:=hu
  have hi':∃ i,P.info? e=some i:=by
   cases hie:P.info? e with
   | none=>simp [Program.cellsOf,hie] at hcell;omega
   | some i=>exact ⟨i,rfl⟩
  refine ⟨_,_,hk,?_,run_slice_sl (w:=c.w) hud hi' hlo (by rcases hhi with ⟨e1,e2,_⟩|⟨e1,_⟩;exact .inl ⟨e1,e2⟩;exact .inr e1) h0 h1 h2 x3⟩;rw [hcell,Rep];obtain ⟨cs,tt,ff,y1,y2⟩:=x6;have hcap:lo.toNat*k+(cap - lo.toNat)*k=cap*k:=(by rw [<- Nat.add_mul,Nat.add_sub_cancel' (by omega)]);unfold offC;by_cases hcl:cap=lo.toNat
  ·rw [if_pos hcl];refine ⟨p,x1,x2,?_,by omega,by unfold LMAX;omega,x5,⟨cs,tt,ff,y1,by omega⟩,by omega⟩;unfold sliced;rw [if_pos hcl]
  rw [if_neg hcl];refine ⟨p,x1,x2,?_,by omega,by unfold LMAX;omega,x5,⟨cs,tt,ff,y1,by omega⟩,by omega⟩;unfold sliced;rw [if_neg hcl]
  have hadd:(⟨p.block,p.off+off,none⟩:Addr).add (lo.toNat*k)=⟨p.block,p.off+(off+lo.toNat*k),none⟩:=by
   unfold Addr.add;split
   ·rename_i h0;rw [h0];simp
   simp [Nat.add_assoc]
  simp only [Option.map_some,hadd]
set_option maxHeartbeats 1000000 in
theorem opQ_ok {o:Oper} {g:G} {K:AV->Prop} {next:Act->World->Prop} {Q:Exit->Act->World->Prop}
  (hq:opQ P r g h K o.op) (hc:Conc n X g0 r h a w) (hg:holdsC a g) (he:∀ e∈g,e.2.1=e.2.2) (hn:NextQ X g0 h w K o.dst a next):o.wp P a w next Q:=by
 obtain ⟨dst,op,ty,pos,aft,gd⟩:=o;simp only at hq hn;cases op
 case move x=>
  simp only [opQ] at hq;cases hx:opnd r g x with
  | none=>simp [hx] at hq
  | some v=>simp only [hx] at hq;exact q_val hc hn hq (hc.opnd hg hx) (by simp [execOp])
 case assign x=>
  simp only [opQ] at hq;cases hx:opnd r g x with
  | none=>simp [hx] at hq
  | some v=>simp only [hx] at hq;exact q_val hc hn hq (hc.opnd hg hx) (by simp [execOp])
 case pick x y z=>
  unfold opQ at hq;split at hq<;>try contradiction
  ·rename_i t ta heq;injection heq with e1 e2 e3;subst e1;subst e2;subst e3;cases ht:opnd r g (.tmp t) with
   | none=>simp [ht] at hq
   | some vt=>
     cases vt<;>simp [ht] at hq
     rename_i b;cases ha:opnd r (g++[(t,b,true)]) (.tmp ta) with
     | none=>simp [ha] at hq
     | some va=>
       cases va<;>simp [ha] at hq
       rename_i xb;have hrt:=hc.opnd hg ht;rw [Rep] at hrt;cases b with
       | false=>exact q_val (v:=.bool false) (u:=.bool false) hc hn (by simpa using hq) (by rw [Rep]) (by have e1:a.eval (.const (.bool false))=.bool false:=rfl;have e2:a.eval (.const (.bool true))=.bool true:=rfl;simp [execOp,hrt,asBool,e1,e2])
       | true=>
         have htm:a.tmps[t]?=some (.bool true):=by
          cases hh:a.tmps[t]? with
          | none=>simp [Act.eval,hh,undef] at hrt
          | some u=>simp [Act.eval,hh] at hrt;rw [hrt]
         have hra:=hc.opnd (g:=g++[(t,true,true)]) (fun e he'=>by
          rcases List.mem_append.1 he' with h1|h1
          ·exact hg e h1
          simp at h1;subst h1;exact htm) ha
         rw [Rep] at hra;exact q_val (v:=.bool xb) (u:=.bool xb) hc hn (by simpa using hq) (by rw [Rep]) (by simp [execOp,hrt,hra,asBool])
  rename_i t ta heq;injection heq with e1 e2 e3;subst e1;subst e2;subst e3;cases ht:opnd r g (.tmp t) with
  | none=>simp [ht] at hq
  | some vt=>
    cases vt<;>simp [ht] at hq
    rename_i b;cases ha:opnd r (g++[(t,b,false)]) (.tmp ta) with
    | none=>simp [ha] at hq
    | some va=>
      cases va<;>simp [ha] at hq
      rename_i xb;have hrt:=hc.opnd hg ht;rw [Rep] at hrt;cases b with
      | true=>exact q_val (v:=.bool true) (u:=.bool true) hc hn (by simpa using hq) (by rw [Rep]) (by have e1:a.eval (.const (.bool false))=.bool false:=rfl;have e2:a.eval (.const (.bool true))=.bool true:=rfl;simp [execOp,hrt,asBool,e1,e2])
      | false=>
        have htm:a.tmps[t]?=some (.bool false):=by
         cases hh:a.tmps[t]? with
         | none=>simp [Act.eval,hh,undef] at hrt
         | some u=>simp [Act.eval,hh] at hrt;rw [hrt]
        have hra:=hc.opnd (g:=g++[(t,false,false)]) (fun e he'=>by
         rcases List.mem_append.1 he' with h1|h1
         ·exact hg e h1
         simp at h1;subst h1;exact htm) ha
        rw [Rep] at hra;exact q_val (v:=.bool xb) (u:=.bool xb) hc hn (by simpa using hq) (by rw [Rep]) (by simp [execOp,hrt,hra,asBool])
 case binOp op t x y yt=>
  simp only [opQ] at hq;cases hx:opnd r g x with
  | none=>simp [hx] at hq
  | some u=>
    cases hy:opnd r g y with
    | none=>simp [hx,hy] at hq
    | some v=>
      simp only [hx,hy] at hq;obtain ⟨z,s,h1,h2,h3⟩:=binP_ok (ox:=x) (oy:=y) he hq (hc.opnd hg hx) (hc.opnd hg hy);refine q_val hc hn h1 h2 ?_;simp only [execOp,Sem.run_bind,h3,Result.andThen,Sem.run_pure]
 case unOp op t x=>
  unfold opQ at hq;split at hq<;>try contradiction
  rename_i t' x' heq;injection heq with e1 e2 e3;subst e1;subst e2;subst e3;cases hx:opnd r g x with
  | none=>simp [hx] at hq
  | some v=>
    cases v<;>simp [hx] at hq
    rename_i b;have hr:=hc.opnd hg hx;rw [Rep] at hr;exact q_val (v:=.bool !b) (u:=.bool !b) hc hn hq (by rw [Rep]) (by simp [execOp,hr,Op.unary])
 case fieldAddr s x f=>
  simp only [opQ] at hq;cases hx:opnd r g x with
  | none=>simp [hx] at hq
  | some v=>
    have hr:=hc.opnd hg hx;cases v<;>try (simp [hx] at hq;done)
    case iptr cs=>
     simp only [hx] at hq;cases hf:fieldOf P s f with
     | none=>simp [hf] at hq
     | some fd=>
       simp only [hf] at hq;cases hd:dropN fd.offset cs with
       | none=>simp [hd] at hq
       | some l=>
         simp only [hd] at hq;split at hq
         ·rename_i hs;obtain ⟨d1,rfl⟩:=dropN_eq hd;rw [Rep] at hr;obtain ⟨b,ofs,hv,hcs⟩:=hr;refine q_val (u:=.pointer (some ⟨b,ofs+fd.offset,none⟩)) hc hn hq ?_ ?_
          ·rw [Rep];exact ⟨b,_,rfl,RepCs.drop _ d1 hcs⟩
          simp [execOp,hv,run_fieldAt hf hs]
         exact hq.elim
    case optr b ofs=>
     simp only [hx] at hq;cases hf:fieldOf P s f with
     | none=>simp [hf] at hq
     | some fd=>
       simp only [hf] at hq;split at hq
       ·rename_i hs;rw [Rep] at hr;obtain ⟨p,hp,hsp,hv⟩:=hr;refine q_val (u:=.pointer (some ⟨p.block,p.off+ofs+fd.offset,none⟩)) hc hn hq ?_ ?_
        ·rw [Rep];exact ⟨p,hp,hsp,by rw [Nat.add_assoc]⟩
        simp [execOp,hv,run_fieldAt hf hs]
       exact hq.elim
 case load t x=>
  simp only [opQ] at hq;cases hx:opnd r g x with
  | none=>simp [hx] at hq
  | some v=>
    simp only [hx] at hq;obtain ⟨z,s,h1,h2,h3⟩:=load_ok (t:=t) (K:=K) hc.cw (hc.opnd hg hx) (by cases v<;>exact hq)
    exact q_val hc hn h1 h2 (by simp [execOp,h3])
 case nilCheck x=>
  simp only [opQ] at hq;cases hx:opnd r g x with
  | none=>simp [hx] at hq
  | some v=>
    have hr:=hc.opnd hg hx;cases v<;>try (simp [hx] at hq;done)
    case iptr cs=>
     simp only [hx] at hq;refine q_val hc hn hq hr ?_;rw [Rep] at hr;obtain ⟨b,ofs,hv,_⟩:=hr;simp [execOp,hv]
    case optr b ofs=>
     simp only [hx] at hq;refine q_val hc hn hq hr ?_;rw [Rep] at hr;obtain ⟨p,_,_,hv⟩:=hr;simp [execOp,hv]
 case field s x f=>
  simp only [opQ] at hq;cases hx:opnd r g x with
  | none=>simp [hx] at hq
  | some v=>
    have hr:=hc.opnd hg hx;cases v<;>try (simp [hx] at hq;done)
    rename_i cs;simp only [hx] at hq;cases hf:fieldOf P s f with
    | none=>simp [hf] at hq
    | some fd=>
      simp only [hf] at hq;cases hd:dropN fd.offset cs with
      | none=>simp [hd] at hq
      | some l=>
        simp only [hd] at hq;obtain ⟨d1,rfl⟩:=dropN_eq hd;rw [Rep] at hr;obtain ⟨us,hv,ho,hus⟩:=hr;obtain ⟨fs,hu,hfd⟩:=fieldOf_ok hf;have hrd:=RepVs.drop fd.offset hus;unfold loadI at hq;cases hagg:aggT P fd.type with
        | none=>simp [hagg] at hq
        | some bb=>
        obtain ⟨hrun0,d,hdd⟩:=run_aggT (w:=w) hagg;obtain ⟨i,hi⟩:=info_of_und hdd;cases bb with
        | true=>
          simp only [hagg] at hq;cases ht:takeN (P.cellsOf fd.type) (cs.drop fd.offset) with
          | none=>simp [ht] at hq
          | some l=>
            simp only [ht] at hq;obtain ⟨t1,rfl⟩:=takeN_eq ht;refine q_val (u:=.agg (us.extract fd.offset (fd.offset+P.cellsOf fd.type))) hc hn hq ?_ ?_
            ·rw [Rep];refine ⟨_,rfl,fun u hu=>?_,?_⟩
             ·have hu':u∈(us.extract fd.offset (fd.offset+P.cellsOf fd.type)).toList:=Array.mem_toList_iff.2 hu;rw [Array.toList_extract,List.extract_eq_take_drop] at hu';exact ho u (by simpa using List.mem_of_mem_drop (List.mem_of_mem_take hu'))
             rw [Array.toList_extract,List.extract_eq_take_drop];simpa using RepVs.take (P.cellsOf fd.type) hrd
            simp [execOp,hv,Instr.field,run_und hu,hfd,asAgg,part,hrun0,run_sizeT hi]
        | false=>
          simp only [hagg] at hq;cases hl:cs.drop fd.offset with
          | nil=>simp [hl] at hq
          | cons y l=>
            simp only [hl] at hq;rw [hl] at hrd;simp only [RepVs] at hrd;obtain ⟨u,rr,e,h4,_⟩:=hrd;refine q_val (u:=u) hc hn hq h4 ?_;have hget:us[fd.offset]?=some u:=by have:=congrArg (·[0]?) e;simpa using this
            simp [execOp,hv,Instr.field,run_und hu,hfd,asAgg,part,hrun0,hget]
 case box t x=>
  simp only [opQ] at hq;cases hx:opnd r g x with
  | none=>simp [hx] at hq
  | some v=>
    simp only [hx] at hq;cases hv:cellsV v with
    | none=>simp [hv] at hq
    | some l=>
      simp only [hv] at hq;split at hq
      ·have hr:=hc.opnd hg hx;obtain ⟨h1,h2⟩:=cellsV_rep hv hr;obtain ⟨c1,c2⟩:=hc.cw.alloc (.cells (a.eval x).cells t);refine wp_value (u:=.pointer (some ⟨w.heap.size,0,none⟩)) (w':=w.alloc (.cells (a.eval x).cells t)) ?_ (hn _ g0 _ _ hq c1 ?_ c2)
       ·simp [execOp,Instr.box,newVar,newRow]
       rw [Rep];exact ⟨_,_,rfl,RepCs.new hc.cw h1 h2⟩
      exact hq.elim
 case indexAddr t x i=>
  simp only [opQ] at hq;cases hud:P.underlying t with
  | none=>simp [hud] at hq
  | some d=>
  cases d<;>try (simp [hud] at hq;done)
  case array m e=>
   simp only [hud] at hq;cases hie:P.info? e with
   | none=>simp [hie] at hq
   | some ie=>
   simp only [hie] at hq;cases hx:opnd r g x with
   | none=>simp [hx] at hq
   | some v=>
     have hr:=hc.opnd hg hx;cases v<;>try (simp [hx] at hq;done)
     rename_i cs;simp only [hx] at hq;cases hi:opnd r g i with
     | none=>simp [hi] at hq
     | some vi=>
       cases vi<;>try (simp [hi] at hq;done)
       rename_i ki m';simp only [hi] at hq;obtain ⟨j,l,hgp,hd,hK⟩:=hq;obtain ⟨rfl,hjl⟩:=gP_he he hgp;obtain ⟨d1,rfl⟩:=dropN_eq hd;have hri:=hc.opnd hg hi;rw [Rep] at hri;obtain ⟨hri,_⟩:=hri;rw [Rep] at hr;obtain ⟨b,ofs,hv,hcs⟩:=hr;refine q_val (u:=.pointer (some ⟨b,ofs+j*P.cellsOf e,none⟩)) hc hn hK ?_ ?_
       ·rw [Rep];exact ⟨b,_,rfl,RepCs.drop _ d1 hcs⟩
       have hadd:(⟨b,ofs,none⟩:Addr).add (j*P.cellsOf e)=⟨b,ofs+j*P.cellsOf e,none⟩:=by
        unfold Addr.add;split
        ·rename_i h0;rw [h0];rfl
        rfl
       simp [execOp,hv,hri,Instr.indexAt,Instr.sureAddr,asIntOf,run_und hud,hjl,run_sizeT hie,hadd]
  rename_i e;simp only [hud] at hq;cases hx:opnd r g x with
  | none=>simp [hx] at hq
  | some v=>
    have hr:=hc.opnd hg hx;cases v<;>try (simp [hx] at hq;done)
    case sl k q xs=>
     simp only [hx] at hq;split at hq<;>try contradiction
     rename_i hk;have hk:=Nat.eq_of_beq_eq_true hk;cases hi:opnd r g i with
     | none=>simp [hi] at hq
     | some vi=>
       cases vi<;>try (simp [hi] at hq;done)
       rename_i ki m;simp only [hi] at hq;obtain ⟨j,y,hgp,hK⟩:=hq;obtain ⟨rfl,hj⟩:=gP_he he hgp;have hri:=hc.opnd hg hi;rw [Rep] at hri;obtain ⟨hri,_⟩:=hri;simp only [Rep] at hr;obtain ⟨base,cap,hv,e1,e2,e3,e4,e5,e6,e7⟩:=hr;have hjl:j<xs.length:=(List.getElem?_eq_some_iff.1 hj).1;cases base with
       | none=>have:=e4 rfl;omega
       | some ad=>
         have hs:=e5 ad rfl (fun e=>by subst e;simp at hjl);have hcs:=RepEs.get (e6 ad rfl) hj
         have hie:∃ i,P.info? e=some i:=by
          cases hie:P.info? e with
          | none=>simp [Program.cellsOf,hie] at hk;omega
          | some i=>exact ⟨i,rfl⟩
         obtain ⟨ie,hie⟩:=hie;refine q_val (u:=.pointer (some ⟨ad.block,ad.off+j*k,none⟩)) hc hn hK ?_ ?_
         ·rw [Rep];exact ⟨_,_,rfl,hcs⟩
         have hadd:ad.add (j*k)=⟨ad.block,ad.off+j*k,none⟩:=by
          unfold Addr.add;split
          ·rename_i h0;rw [h0];cases ad;simp_all
          rfl
         simp [execOp,hv,hri,Instr.indexAt,asIntOf,run_und hud,hjl,run_sizeT hie,<- hk,hadd]
    case osl b off len k=>
     simp only [hx] at hq;split at hq<;>try contradiction
     rename_i hk;have hk:=Nat.eq_of_beq_eq_true hk;cases hi:opnd r g i with
     | none=>simp [hi] at hq
     | some vi=>
       cases vi<;>try (simp [hi] at hq;done)
       rename_i ki m;simp only [hi] at hq;obtain ⟨j,hgp,hK⟩:=hq;obtain ⟨rfl,hjl⟩:=gP_he he hgp;have hri:=hc.opnd hg hi;rw [Rep] at hri;obtain ⟨hri,_⟩:=hri;obtain ⟨p,cap,hp,hs,hv,e1,e2,e3,e4,_⟩:=hr.oslE (by omega)
       have hie:∃ i,P.info? e=some i:=by
        cases hie:P.info? e with
        | none=>simp [Program.cellsOf,hie] at hk;omega
        | some i=>exact ⟨i,rfl⟩
       obtain ⟨ie,hie⟩:=hie;refine q_val (u:=.pointer (some ⟨p.block,p.off+off+j*k,none⟩)) hc hn hK ?_ ?_
       ·rw [Rep];exact ⟨p,hp,hs,by rw [Nat.add_assoc]⟩
       have hadd:(⟨p.block,p.off+off,none⟩:Addr).add (j*k)=⟨p.block,p.off+off+j*k,none⟩:=by
        unfold Addr.add;split
        ·rename_i h0;rw [h0];rfl
        rfl
       simp [execOp,hv,hri,Instr.indexAt,asIntOf,run_und hud,hjl,run_sizeT hie,<- hk,hadd]
 case index t x i=>
  simp only [opQ] at hq;cases hud:P.underlying t with
  | none=>simp [hud] at hq
  | some d=>
  cases d<;>try (simp [hud] at hq;done)
  simp only [hud] at hq;cases hx:opnd r g x with
  | none=>simp [hx] at hq
  | some v=>
    have hr:=hc.opnd hg hx;cases v<;>try (simp [hx] at hq;done)
    rename_i s;simp only [hx] at hq;cases hi:opnd r g i with
    | none=>simp [hi] at hq
    | some vi=>
      cases vi<;>try (simp [hi] at hq;done)
      rename_i ki m;simp only [hi] at hq;obtain ⟨j,y,hgp,hK⟩:=hq;obtain ⟨rfl,hj⟩:=gP_he he hgp;have hri:=hc.opnd hg hi;rw [Rep] at hri;rw [Rep] at hr;obtain ⟨hri,_⟩:=hri;obtain ⟨b,hv,rfl,hl⟩:=hr;refine q_val (u:=.int .u8 (y.toNat:Int)) hc hn hK ?_ ?_
      ·rw [Rep];refine ⟨rfl,?_⟩;have:=y.toNat_lt;constructor<;>simp [IntKind.min,IntKind.max,IntKind.signed,IntKind.bits]<;>omega
      have hj':b[j]?=some y:=by have:b.data[j]?=some y:=(by simpa using hj);obtain ⟨hlt,e⟩:=Array.getElem?_eq_some_iff.1 this;have hlt':j<b.size:=hlt;simp only [getElem?_pos b j hlt'];exact congrArg some e
      simp [execOp,hv,hri,Instr.index,asIntOf,run_und hud,hj']
 case extract x i=>
  simp only [opQ] at hq;cases hx:opnd r g x with
  | none=>simp [hx] at hq
  | some v=>
    have hr:=hc.opnd hg hx;cases v<;>try (simp [hx] at hq;done)
    rename_i vs;simp only [hx] at hq;cases hd:dropN i vs with
    | none=>simp [hd] at hq
    | some l=>
      simp only [hd] at hq;obtain ⟨d1,rfl⟩:=dropN_eq hd;cases hl:vs.drop i with
      | nil=>simp [hl] at hq
      | cons y l=>
        simp only [hl] at hq;rw [Rep] at hr;obtain ⟨us,hv,hus⟩:=hr;have hrd:=RepVs.drop i hus;rw [hl] at hrd;simp only [RepVs] at hrd;obtain ⟨u,rr,e,h4,_⟩:=hrd;have hget:us[i]?=some u:=by have:=congrArg (·[0]?) e;simpa using this
        exact q_val (u:=u) hc hn hq h4 (by simp [execOp,hv,Instr.extract,hget])
 case build t parts=>
  simp only [opQ] at hq
  have hpar:∀ (qs:List (Nat × Operand)) (ps:List (Nat × AV)),partsOf r g qs=some ps->(qs.map fun (i,x)=>(i,a.eval x)).map (·.1)=ps.map (·.1) /\
    ∀ (i:Nat) (p:Nat × AV) (v:Nat × Value),ps[i]?=some p->(qs.map fun (i,x)=>(i,a.eval x))[i]?=some v->Rep ⟨g0,live X h,w⟩ p.2 v.2:=by
   intro qs;induction qs with
   | nil=>intro ps hh;simp [partsOf] at hh;subst hh;simp
   | cons q qs ih=>
     intro ps hh;obtain ⟨i0,x0⟩:=q;unfold partsOf at hh;cases hx:opnd r g x0 with
     | none=>simp [hx] at hh
     | some v0=>
       cases hr:partsOf r g qs with
       | none=>simp [hx,hr] at hh
       | some l=>
         simp [hx,hr] at hh;subst hh;obtain ⟨i1,i2⟩:=ih l hr;refine ⟨by simpa using i1,fun i p v hp hv=>?_⟩;cases i with
         | zero=>simp at hp hv;subst hp;subst hv;exact hc.opnd hg hx
         | succ i=>exact i2 i p v (by simpa using hp) (by simpa using hv)
  cases hud:P.underlying t with
  | none=>simp [hud] at hq
  | some d=>
  cases d<;>try (simp [hud] at hq;done)
  case array m e=>
   simp only [hud] at hq;cases hie:P.info? e with
   | none=>simp [hie] at hq
   | some ie=>
   simp only [hie] at hq;cases hps:partsOf r g parts.toList with
   | none=>simp [hps] at hq
   | some ps=>
   simp only [hps] at hq;cases hz:zeroCs P t with
   | none=>simp [hz] at hq
   | some z=>
   simp only [hz] at hq;cases hf:fillC ps (fun i=>some (i*ie.size,ie.size)) z with
   | none=>simp [hf] at hq
   | some cs=>
   simp only [hf] at hq;obtain ⟨i1,i2⟩:=hpar _ _ hps;obtain ⟨it,zv,hit,hzv,hzr,hzo⟩:=zeroCs_ok (c:=⟨g0,live X h,w⟩) hz;obtain ⟨res,e1,e2,e3⟩:=fillC_ok (c:=⟨g0,live X h,w⟩) hf i1 i2 hzr hzo;refine q_val (u:=.agg res) hc hn hq ?_ ?_
   ·rw [Rep];exact ⟨_,rfl,e3,e2⟩
   have hb:P.built t (parts.map fun (i,x)=>(i,a.eval x)).toList=some res:=by simp only [Program.built,hit,hud,hzv,hie];simpa using e1
   simp [execOp,run_build w t _ res hb]
  case struct fs=>
   simp only [hud] at hq;cases hp:placesOf P fs.toList with
   | none=>simp [hp] at hq
   | some pl=>
   simp only [hp] at hq;cases hps:partsOf r g parts.toList with
   | none=>simp [hps] at hq
   | some ps=>
   simp only [hps] at hq;cases hz:zeroCs P t with
   | none=>simp [hz] at hq
   | some z=>
   simp only [hz] at hq;cases hf:fillC ps (fun i=>pl[i]?) z with
   | none=>simp [hf] at hq
   | some cs=>
   simp only [hf] at hq;obtain ⟨i1,i2⟩:=hpar _ _ hps;obtain ⟨it,zv,hit,hzv,hzr,hzo⟩:=zeroCs_ok (c:=⟨g0,live X h,w⟩) hz;obtain ⟨res,e1,e2,e3⟩:=fillC_ok (c:=⟨g0,live X h,w⟩) hf i1 i2 hzr hzo;refine q_val (u:=.agg res) hc hn hq ?_ ?_
   ·rw [Rep];exact ⟨_,rfl,e3,e2⟩
   have hb:P.built t (parts.map fun (i,x)=>(i,a.eval x)).toList=some res:=by simp only [Program.built,hit,hud,hzv,placesOf_eq hp];simpa using e1
   simp [execOp,run_build w t _ res hb]
 case buildSlice t m parts=>
  simp only [opQ] at hq;cases hud:P.underlying t with
  | none=>simp [hud] at hq
  | some d=>
  cases d<;>try (simp [hud] at hq;done)
  rename_i e;simp only [hud] at hq;cases hl:elemsOf r g (P.cellsOf e) 0 parts.toList with
  | none=>simp [hl] at hq
  | some l=>
  simp only [hl] at hq;split at hq<;>try contradiction
  rename_i q1;split at hq<;>try contradiction
  rename_i q2;split at hq<;>try contradiction
  rename_i q3;cases hz:zeroCs P e with
  | none=>simp [hz] at hq
  | some z=>
  simp only [hz] at hq;split at hq<;>try contradiction
  rename_i q4;have q1:=Nat.eq_of_beq_eq_true q1;have q2:=Nat.le_of_ble_eq_true q2;have q3:=Nat.le_of_ble_eq_true q3;have q4:=Nat.eq_of_beq_eq_true q4;obtain ⟨ie,zv,hie,hzv,hzr,hzo⟩:=zeroCs_ok (c:=⟨g0,live X h,w⟩) hz;have hsz:ie.size=P.cellsOf e:=(by simp [Program.cellsOf,hie]);have hzl:zv.cells.size=P.cellsOf e:=by have:=hzr.length;simp at this;omega
  have hzget:∀ u∈(Array.range (m*P.cellsOf e)).map (zv.cells[· % zv.cells.size]!),u.oneCell'=true:=by intro u hu;obtain ⟨j,hj,rfl⟩:=Array.mem_map.1 hu;have hlt:j % zv.cells.size<zv.cells.size:=Nat.mod_lt _ (by omega);rw [getElem!_pos zv.cells _ hlt];exact hzo _ (Array.getElem_mem _)
  by_cases hm:m=0
  ·subst hm;have hl0:l=[]:=List.eq_nil_of_length_eq_zero q1;subst hl0
   have hps:parts.toList=[]:=by
    cases hh:parts.toList with
    | nil=>rfl
    | cons q qs=>
      rw [hh] at hl;obtain ⟨i0,x0⟩:=q;unfold elemsOf at hl
      (repeat' split at hl)<;>simp_all
   have hpe:parts=#[]:=(by simpa using hps);obtain ⟨c1,c2⟩:=hc.cw.alloc (.cells #[] e);refine wp_value (u:=.slice (some ⟨w.heap.size,0,none⟩) 0 0) (w':=w.alloc (.cells #[] e)) ?_ (hn _ g0 _ _ hq c1 ?_ c2)
   ·have e0:(Array.map (fun _=>(default:Value)) (Array.range 0))=#[]:=(by simp [Array.range]);simp [execOp,Instr.buildSlice,run_und hud,run_sizeT hie,hpe,Instr.fill,newRow,e0]
   simp only [Rep];exact ⟨_,0,rfl,by simp,by simp,by omega,by simp,by simp,by simp [RepEs],by simp⟩
  obtain ⟨res,us,e1,e2,e3,e4,e5,e6,e7⟩:=elems_ok hc hg hl ((Array.range (m*P.cellsOf e)).map (zv.cells[· % zv.cells.size]!))
   (by
     have:∀ (ps:List (Nat × Operand)) (k:Nat) (l:List (List AV)),elemsOf r g (P.cellsOf e) k ps=some l->l.length=ps.length:=by
      intro ps;induction ps with
      | nil=>intro k l hh;simp [elemsOf] at hh;subst hh;rfl
      | cons q qs ih=>
        intro k l hh;obtain ⟨i0,x0⟩:=q;unfold elemsOf at hh;split at hh<;>try contradiction
        split at hh<;>try contradiction
        split at hh<;>try contradiction
        split at hh<;>try contradiction
        split at hh<;>try contradiction
        rename_i l' hr;cases hh
        simp [ih _ _ hr]
     have:=this _ _ _ hl;rw [Nat.zero_add,<- this,q1];simp) hzget
  have hml:parts.toList.length=m:=(by omega);have hmpos:0<m*P.cellsOf e:=Nat.mul_pos (by omega) (by omega);have hres:res.toList=us:=by rw [e6];simp only [Nat.zero_mul,List.take_zero,List.nil_append,Nat.zero_add,hml];rw [List.drop_of_length_le (by simp)];simp
  have hrun:=run_buildSlice (P:=P) w t e m (parts.map fun (i,x)=>(i,a.eval x)) res ie zv hud hie hzv (by rw [hsz];omega) (by rw [hsz];omega)
   (by rw [hsz];simpa using e1)
  obtain ⟨c1,c2⟩:=hc.cw.alloc (.cells res e);refine wp_value (u:=.slice (some ⟨w.heap.size,0,none⟩) m m) (w':=w.alloc (.cells res e)) ?_ (hn _ g0 _ _ hq c1 ?_ c2)
  ·simp [execOp,hrun]
  have hcs:=RepCs.new (t:=e) (us:=res) hc.cw (by rw [hres];exact e4) e7;simp only [Rep];have hml64:m<=65536:=Nat.le_trans (Nat.le_mul_of_pos_right m (by omega)) q3;refine ⟨_,m,by rw [q1],by omega,by rw [q1];unfold LMAX;omega,by omega,by simp,by simp,?_,by simp⟩;intro ad ha;simp at ha;subst ha;exact RepEs.flat e3 hcs
 case slice t x lo hi mx=>
  cases mx with
  | some _=>simp [opQ] at hq
  | none=>
  simp only [opQ] at hq;cases hx:opnd r g x with
  | none=>simp [hx] at hq
  | some v=>
  simp only [hx] at hq;split at hq<;>try contradiction
  rename_i hty;cases hm:lenOf? v with
  | none=>simp [hm] at hq
  | some m=>
  simp only [hm] at hq;cases hlo:optInt r g lo 0 with
  | none=>simp [hlo] at hq
  | some la=>
  simp only [hlo] at hq;cases hhi:optInt r g hi (m:Int) with
  | none=>simp [hhi] at hq
  | some ha=>
  simp only [hhi] at hq
  have hint:∀ (oo:Option Operand) (d z:Int),optInt r g oo d=some z->(oo=none/\z=d)\/∃ y k,oo=some y/\a.eval y=.int k z:=by
   intro oo d z hz;cases oo with
   | none=>simp [optInt] at hz;exact .inl ⟨rfl,hz.symm⟩
   | some y=>
     right;unfold optInt at hz;simp only at hz;cases hy:opnd r g y with
     | none=>simp [hy] at hz
     | some vy=>
       simp only [hy] at hz;have hry:=hc.opnd hg hy;cases vy<;>simp [intOf?] at hz
       subst hz;rw [Rep] at hry;exact ⟨y,_,rfl,hry.1⟩
  obtain ⟨z,s,k1,k2,k3⟩:=sliceP_ok (t:=t) (vlo:=lo.map a.eval) (vhi:=hi.map a.eval) he hq (hc.opnd hg hx) hm hty
   (by
     rcases hint _ _ _ hlo with ⟨e1,e2⟩|⟨y,k,e1,e2⟩
     ·exact .inl ⟨by simp [e1],e2⟩
     exact .inr ⟨k,by simp [e1,e2]⟩)
   (by
     rcases hint _ _ _ hhi with ⟨e1,e2⟩|⟨y,k,e1,e2⟩
     ·subst e1;exact .inl ⟨rfl,e2,rfl⟩
     subst e1;exact .inr ⟨⟨k,by simp [e2]⟩,rfl⟩)
  exact q_val hc hn k1 k2 (by simp [execOp,k3])
 case convert s t x=>
  simp only [opQ] at hq;cases hus:P.underlying s with
  | none=>simp [hus] at hq
  | some ds=>
  cases hud:P.underlying t with
  | none=>simp [hus,hud] at hq
  | some d=>
  cases hx:opnd r g x with
  | none=>cases d<;>simp [hus,hud,hx] at hq
  | some v=>
  have hr:=hc.opnd hg hx;simp only [hus,hud,hx] at hq;cases d<;>try (simp at hq;done)
  case int k=>
   cases v<;>try (simp at hq;done)
   rename_i k' m;simp only at hq;rw [Rep] at hr;obtain ⟨hv,_⟩:=hr;obtain ⟨z,h1,h2⟩:=arith_ok (c:=⟨g0,live X h,w⟩) he hq;refine q_val hc hn h1 h2 ?_;simp [execOp,convert,hv,run_und hud,run_und hus,Conv.intToInt]
  case string=>
   cases v<;>try (simp at hq;done)
   ·rename_i bs;simp only at hq;refine q_val hc hn hq hr ?_;rw [Rep] at hr;obtain ⟨b,hv,_⟩:=hr;simp [execOp,convert,hv,run_und hud,run_und hus]
   rename_i k tk xs
   match k,hq,hr with
   | 1,hq,hr=>
   simp only [runesP,hus] at hq;cases ds<;>try (simp at hq;done)
   rename_i e;simp only at hq;split at hq<;>try contradiction
   rename_i hue;obtain ⟨ns,⟨rfl,hne,hlen⟩,hK⟩:=hq;rw [Rep] at hr;obtain ⟨base,cap,hv,e1,e2,e3,e4,e5,e6,e7⟩:=hr;simp only [List.length_map] at hv e1 e2;cases base with
   | none=>
     have:=e4 rfl;have:ns.length≠0:=(by simpa using hne);omega
   | some ad=>
     have hs:ad.spot=none:=e5 ad rfl (by simpa using hne);obtain ⟨f1,f2⟩:=RepEs.toFlat (e6 ad rfl);obtain ⟨us,g1,g2,g3⟩:=RepCs.load f2;have hfl:(ns.map (fun n=>[AV.int .i32 n])).flatten=ns.map (AV.int .i32):=flat1 _ ns;rw [hfl] at g1 g3
     have hadd:∀ j,ad.add j=⟨ad.block,ad.off+j,none⟩:=by
      intro j;unfold Addr.add;split
      ·rename_i h0;rw [h0];cases ad;simp_all
      rfl
     have hcell:∀ j,j<ns.length->w.cell? (ad.add j)=some (.int .i32 (ns.getD j 0)):=by intro j hj;obtain ⟨u,hu,hru⟩:=g3.get j (.int .i32 ns[j]) (by simp [hj]);rw [Rep] at hru;rw [hadd,(g2 j u hu).1,hru.1];simp [List.getD,hj]
     have hrun:=run_convert_runes (P:=P) w s t e ad ns.length cap ns (Nat.le_refl _) hus hue hud hcell;rw [List.take_length] at hrun;refine q_val hc hn hK (u:=.string (runesBytes ns)) ?_ ?_
     ·rw [Rep];refine ⟨_,rfl,rfl,?_⟩;have:=runesBytes_size_le ns;unfold runesL LMAX;have e9:(runesBytes ns).data.toList.length=(runesBytes ns).size:=(by rfl);omega
     simp [execOp,hv,hrun]
 case makeFunc fn first caps=>
  cases fn<;>try (simp [opQ] at hq;done)
  rename_i f;simp only [opQ] at hq;cases hf:first.toList with
  | cons _ _=>simp [hf] at hq
  | nil=>
  simp only [hf] at hq;cases hl:opnds r g caps.toList with
  | none=>simp [hl] at hq
  | some l=>
  simp only [hl] at hq;have hfe:first=#[]:=(by simpa using hf);refine q_val (u:=.func (.func f) #[] (caps.map a.eval)) hc hn hq ?_ ?_
  ·rw [Rep];exact ⟨_,rfl,by rw [evals_list];exact hc.opnds hg hl⟩
  simp [execOp,Instr.makeFunc,hfe]
 case call cl=>
  unfold opQ at hq;simp only at hq;split at hq
  ·rename_i hcal;cases hat:cl.argTypes.toList with
   | nil=>simp [hat] at hq
   | cons t ts=>
   cases ts with
   | cons _ _=>simp [hat] at hq
   | nil=>
   simp only [hat] at hq;cases hl:opnds r g cl.args.toList with
   | none=>simp [hl] at hq
   | some l=>
   cases l with
   | nil=>simp [hl] at hq
   | cons x l=>
   cases l with
   | cons _ _=>simp [hl] at hq
   | nil=>
   simp only [hl] at hq;have hrs:=hc.opnds hg hl;simp only [RepVs] at hrs;obtain ⟨u,rr,e,h1,rfl⟩:=hrs;obtain ⟨v,s,k1,k2,k3⟩:=lenP_ok (ty:=ty) hq h1;have hargs:cl.args.map a.eval=#[u]:=by rw [<- Array.toList_inj];simpa using e
   have htys:cl.argTypes=#[t]:=by rw [<- Array.toList_inj];simpa using hat
   exact q_val hc hn k1 k2 (by simp [execOp,resolve,hcal,invoke,builtin,hargs,htys,k3])
  ·rename_i hcal;split at hq<;>try contradiction
   rename_i t hat;split at hq<;>try contradiction
   rename_i e hud;split at hq<;>try contradiction
   rename_i b off n' c k hl;have hrs:=hc.opnds hg hl;simp only [RepVs] at hrs;obtain ⟨u,rr,e1,h1,e2⟩:=hrs;subst e2;rw [Rep] at h1;obtain ⟨p,x1,x2,rfl,x3,x4,x5,x6,x7⟩:=h1;have h1:cl.args.map a.eval=#[.slice (some ⟨p.block,p.off+off,none⟩) n' c]:=by rw [<- Array.toList_inj];simpa using e1
   have h2:cl.argTypes=#[t]:=by rw [<- Array.toList_inj];simpa using hat
   refine q_val (u:=goInt c) hc hn hq ?_ ?_
   ·rw [Rep];refine ⟨rfl,?_⟩;unfold CAPM at x7;simp [IntKind.has,IntKind.min,IntKind.max,IntKind.signed,IntKind.bits];omega
   simp [execOp,resolve,hcal,invoke,builtin,h1,h2,Builtin.cap_,run_und hud]
  ·rename_i hcal;cases hl:opnds r g cl.args.toList with
   | none=>simp [hl] at hq
   | some l=>
   simp only [hl] at hq;cases l with
   | nil=>simp at hq
   | cons x l=>
   cases x<;>try (simp at hq;done)
   rename_i k m;cases k<;>try (simp at hq;done)
   simp only at hq;cases hf:foldI min m l with
   | none=>simp [hf] at hq
   | some z=>
   simp only [hf] at hq;have hrs:=hc.opnds hg hl;simp only [RepVs] at hrs;obtain ⟨u,rr,e,h1,h2⟩:=hrs;rw [Rep] at h1;obtain ⟨rfl,hm⟩:=h1;obtain ⟨q1,q2⟩:=min_ok (P:=P) hf h2 hm;have hargs:(cl.args.map a.eval).toList=.int .i64 m::rr:=(by simpa using e);refine q_val (v:=.int .i64 z) (u:=.int .i64 z) hc hn hq (by rw [Rep];exact ⟨rfl,q1⟩) ?_;simp only [execOp,resolve,hcal,Sem.run_bind,Sem.run_pure,Result.andThen,invoke,builtin,Builtin.min_,hargs,q2]
  ·rename_i hcal;cases hl:opnds r g cl.args.toList with
   | none=>simp [hl] at hq
   | some l=>
   simp only [hl] at hq;cases l with
   | nil=>simp at hq
   | cons x l=>
   cases x<;>try (simp at hq;done)
   rename_i k m;cases k<;>try (simp at hq;done)
   simp only at hq;cases hf:foldI max m l with
   | none=>simp [hf] at hq
   | some z=>
   simp only [hf] at hq;have hrs:=hc.opnds hg hl;simp only [RepVs] at hrs;obtain ⟨u,rr,e,h1,h2⟩:=hrs;rw [Rep] at h1;obtain ⟨rfl,hm⟩:=h1;obtain ⟨q1,q2⟩:=max_ok (P:=P) hf h2 hm;have hargs:(cl.args.map a.eval).toList=.int .i64 m::rr:=(by simpa using e);refine q_val (v:=.int .i64 z) (u:=.int .i64 z) hc hn hq (by rw [Rep];exact ⟨rfl,q1⟩) ?_;simp only [execOp,resolve,hcal,Sem.run_bind,Sem.run_pure,Result.andThen,invoke,builtin,Builtin.max_,hargs,q2]
  ·rename_i f hcal;cases hl:opnds r g cl.args.toList with
   | none=>simp [hl] at hq
   | some l=>
   simp only [hl] at hq;obtain ⟨v,hv,hk⟩:=hq;have hv:=gP_he he hv
   have hrun:(execOp a.eval ⟨dst,.call cl,ty,pos,aft,gd⟩).run P w=(callFunc f (cl.args.map a.eval++#[])).run P w:=
    run_callF rfl ⟨_,hcal,rfl⟩
   refine wp_call (us:=cl.args.map a.eval) hv hc.cw (by simpa using hc.opnds hg hl) (by simpa using hrun) (fun v' h' g' u w' hR c1 c2 c3=>?_);obtain ⟨rfl,rfl⟩:=hR;exact hn _ g' u w' hk c1 c2 c3
  ·rename_i t hcal;cases hx:opnd r g (.tmp t) with
   | none=>simp [hx] at hq
   | some x=>
   cases x<;>try (simp [hx] at hq;done)
   rename_i f caps;simp only [hx] at hq;cases hl:opnds r g cl.args.toList with
   | none=>simp [hl] at hq
   | some l=>
   simp only [hl] at hq;obtain ⟨v,hv,hk⟩:=hq;have hv:=gP_he he hv;have hr:=hc.opnd hg hx;rw [Rep] at hr;obtain ⟨us,hfv,hus⟩:=hr
   have hrun:(execOp a.eval ⟨dst,.call cl,ty,pos,aft,gd⟩).run P w=(callFunc f (cl.args.map a.eval++us)).run P w:=
    run_callF rfl ⟨_,hcal,hfv⟩
   refine wp_call hv hc.cw (by simpa using RepVs.append (hc.opnds hg hl) hus) hrun (fun v' h' g' u w' hR c1 c2 c3=>?_);obtain ⟨rfl,rfl⟩:=hR;exact hn _ g' u w' hk c1 c2 c3
  exact hq.elim
 case lookup t x i ok=>
  simp only [opQ] at hq;split at hq<;>try contradiction
  rename_i kt et hty;split at hq<;>try contradiction
  rename_i k hk;split at hq<;>try contradiction
  rename_i z hz;have hrk:=hc.opnd hg hk;split at hq<;>try contradiction
  ·rename_i b hx;obtain ⟨es,v,f,hm,hgp,hK⟩:=hq;obtain ⟨h1,h2⟩:=gP_he he hgp;have hrx:=hc.opnd hg hx;rw [Rep] at hrx;obtain ⟨p,hp,hv⟩:=hrx;obtain ⟨p',cl,ents,o1,o2,o3,o4,o5⟩:=hc.cw.obj b _ hm;simp only at o1 o3;rw [hp] at o1;cases o1
   obtain ⟨s,r1,r2⟩:=run_lookup' (P:=P) (c:=⟨g0,live X h,w⟩) (ok:=ok) hty h1 hrk hz o3 o4 h2;exact q_val hc hn hK r2 (by simp only [execOp,hv,Sem.run_bind,r1,Result.andThen_ok,Sem.run_pure])
  rename_i hx;obtain ⟨hgp,hK⟩:=hq;have h1:=gP_he he hgp;have hrx:=hc.opnd hg hx;rw [Rep] at hrx;obtain ⟨s,r1,r2⟩:=run_lookup_nil (P:=P) (c:=⟨g0,live X h,w⟩) (ok:=ok) hty h1 hrk hz;exact q_val hc hn hK r2 (by simp only [execOp,hrx,Sem.run_bind,r1,Result.andThen_ok,Sem.run_pure])
 all_goals (simp [opQ] at hq)
end Go.Abs
