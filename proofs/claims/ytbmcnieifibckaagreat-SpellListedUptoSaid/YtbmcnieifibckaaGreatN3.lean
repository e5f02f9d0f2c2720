/- What is proved: small laws for the walks of this seat, and contracts of its functions. No condition but those each theorem names. -/
import Derived.Test.YtbmcnieifibckaaGreatN2
/-
 The abstract fB,part L: calls in a P7 heap,P8 arguments and results.
-/
set_option linter.unusedVariables false
set_option linter.unusedSimpArgs false
namespace Go.Abs
open Go
variable {P:Program} {n:Nat} {X:Nat->Prop} {g0:Gh} {r:aC} {h:ab} {a:Act} {w:World}
theorem qm (h1 h2:ab):keys (h1++h2)=keys h1++keys h2:=by simp [keys]
theorem Pv (h1 h2:ab):live (fun k=>X k\/k∈keys h2) h1=live X (h1++h2):=by
 funext k;simp only [live,qm,List.mem_append,eq_iff_iff];constructor
 ·rintro ((h|h)|h)
  ·exact .inl h
  ·exact .inr (.inr h)
  exact .inr (.inl h)
 rintro (h|h|h)
 ·exact .inl (.inl h)
 ·exact .inr h
 exact .inl (.inr h)
theorem WV {k:Nat} {o:Ob} (hm:(k,o)∈h):k∈keys h:=by simp only [keys,List.mem_map];exact ⟨_,hm,rfl⟩
theorem ay.frame {f:FuncId} {args:List AV} {R:AV->ab->Prop} (hf:ay P f args h R) (h2:ab) :
  ay P f args (h++h2) fun v h'=>∃ h1,R v h1/\h'=h1++h2:=by
 refine ⟨fun X g w us hc hr=>?_⟩;have dZ:=hc.nodup;rw [qm,List.nodup_append] at dZ;obtain ⟨WW,WX,Js⟩:=dZ;have wq:=Pv (X:=X) h h2
 have bQ:CW (fun k=>X k\/k∈keys h2) g h w:=by
  refine ⟨hc.own,?_,WW,?_,?_⟩
  ·obtain ⟨N,hN⟩:=hc.bound;refine ⟨N,fun k hk=>hN k ?_⟩;rw [qm,List.mem_append];rcases hk with (h|h)|h|h
   ·exact .inl h
   ·exact .inr (.inl (.inr h))
   ·exact .inr (.inl (.inl h))
   exact .inr (.inr h)
  ·rintro k hk (hx|bo)
   ·exact hc.sep k (by rw [qm,List.mem_append];exact .inl hk) hx
   exact Js k hk k bo rfl
  intro k o hm;rw [wq];exact hc.obj k o (List.mem_append.2 (.inl hm))
 refine (hf.1 _ g w us bQ (by rw [wq];exact hr)).mono fun e w' he=>?_;obtain ⟨v,u,g',h1,rfl,hR,eM,hu,hs⟩:=he;have Jt:=Pv (X:=X) h1 h2
 have aA:Step X g (h++h2) w g' (h1++h2) w':=by
  refine ⟨hs.os,hs.xf,hs.output,hs.size,hs.pl,fun b k s e x=>hs.yV b k s e (.inl x),fun b k s e x=>hs.xg b k s e (.inl x),fun k x e=>hs.AO k (.inl x) e,?_,?_,?_⟩
  ·intro b hb pd;obtain ⟨e1,e2⟩:=hs.pN b hb (fun k s e hk=>pd k s e (by rw [qm,List.mem_append];exact .inl hk));refine ⟨e1,fun k s e hk=>?_⟩;rw [qm,List.mem_append] at hk;rcases hk with hk|hk
   ·exact e2 k s e hk
   exact pd k s (hs.xg b k s e (.inr hk)) (by rw [qm,List.mem_append];exact .inr hk)
  ·intro b k s e hk cc t f bA;rw [qm,List.mem_append] at hk;rcases hk with hk|hk
   ·exact hs.cK b k s e hk cc t f bA
   obtain ⟨e1,_⟩:=hs.pN b (hc.own _ _ _ e) (fun k' s' e' bk=>by rw [e] at e';cases e';exact Js k bk k hk rfl);exact ⟨cc,e1.trans bA,rfl,fun _ _=>rfl⟩
  intro b k s e hk k' s' e' hl;rw [qm,List.mem_append] at hk;rcases hk with hk|hk
  ·exact hs.xh b k s e hk k' s' e' (by rw [Jt];exact hl)
  have:=hs.yV b k s e (.inr hk);rw [this] at e';cases e';exact Nat.le_refl _
 have cJ:CW X g' (h1++h2) w':=by
  refine ⟨eM.own,?_,?_,?_,?_⟩
  ·obtain ⟨N,hN⟩:=eM.bound;refine ⟨N,fun k hk=>hN k ?_⟩;rw [qm,List.mem_append] at hk;rcases hk with h|(h|h)|h
   ·exact .inl (.inl h)
   ·exact .inr (.inl h)
   ·exact .inl (.inr h)
   exact .inr (.inr h)
  ·rw [qm,List.nodup_append];exact ⟨eM.nodup,WX,fun x hx y hy e=>eM.sep x hx (.inr (e ▸ hy))⟩
  ·intro k hk hx;rw [qm,List.mem_append] at hk;rcases hk with hk|hk
   ·exact eM.sep k hk (.inl hx)
   exact hc.sep k (by rw [qm,List.mem_append];exact .inr hk) hx
  intro k o hm;rcases List.mem_append.1 hm with hm|hm
  ·have:=eM.obj k o hm;rw [Jt] at this;exact this
  have hk:=WV hm;refine nU.mw (c:=⟨g,live X (h++h2),w⟩) (Step.le aA) (hc.obj k o (List.mem_append.2 (.inr hm))) ?_ (fun e=>hs.AO k (.inr hk) e);intro p hp ⟨s,ho⟩;obtain ⟨e1,_⟩:=hs.pN p.block (hc.own _ _ _ ho) (fun k' s' e' bk=>by simp only at ho;rw [ho] at e';cases e';exact Js k bk k hk rfl);exact ⟨e1,(hs.yV _ _ _ ho (.inr hk)).trans ho.symm⟩
 exact ⟨v,u,g',h1++h2,rfl,⟨h1,hR,rfl⟩,cJ,by rw [<- Jt];exact hu,aA⟩
theorem ay.pre {f:FuncId} {args:List AV} {R:AV->ab->Prop} {h':ab} (hf:ay P f args h R) (gm:∀ k o,(k,o)∈h->(k,o)∈h')
  (dZ:(keys h').Nodup->(keys h).Nodup):ay P f args h' R:=by
 refine ⟨fun X g w us hc hr=>?_⟩;obtain ⟨c1,s1⟩:=hc.sub gm (dZ hc.nodup);refine (hf.1 X g w us c1 (av.mono (Step.le s1) _ _ hr)).mono fun e w' he=>?_;obtain ⟨v,u,g',h1,rfl,hR,eM,hu,hs⟩:=he;exact ⟨v,u,g',h1,rfl,hR,eM,hu,s1.trans hc.own hs⟩
def ag (x y:AV):Prop:=∀ c u,aa c x u->aa c y u
theorem ag.refl (x:AV):ag x x:=fun _ _ h=>h
theorem ag.sl {k:Nat} {t:Option Nat} {xs:List (List AV)}:ag (.sl k t xs) (.sl k none xs):=by intro c u h;simp only [aa] at h ⊢;obtain ⟨base,cap,hv,h1,h2,h3,h4,h5,h6,h7⟩:=h;exact ⟨base,cap,hv,h1,h2,h3,h4,h5,h6,by simp⟩
theorem ag.nil {k:Nat} (hk:0<k):ag .aW (.sl k none []):=by intro c u h;simp only [aa] at h ⊢;exact ⟨none,0,by simpa using h,by simp,by simp,hk,by simp,by simp,by simp,by simp⟩
inductive cP:List AV->List AV->Prop
 | nil:cP [] []
 | cons {x y:AV} {xs ys:List AV}:ag x y->cP xs ys->cP (x::xs) (y::ys)
theorem cP.refl:∀ xs,cP xs xs
 | []=>.nil
 | x::xs=>.cons (ag.refl x) (cP.refl xs)
theorem cP.rep {c:Cx}:∀ {xs ys:List AV} {us:List Value},cP xs ys->av c xs us->av c ys us
 | _,_,us,.nil,h=>h
 | _,_,us,.cons h1 h2,h=>by simp only [av] at h ⊢;obtain ⟨u,r,rfl,a1,a2⟩:=h;exact ⟨u,r,rfl,h1 _ _ a1,h2.rep a2⟩
theorem ag.aQ {xs ys:List AV} (h:cP xs ys):ag (.aQ xs) (.aQ ys):=by intro c u hu;simp only [aa] at hu ⊢;obtain ⟨us,hv,hr⟩:=hu;exact ⟨us,hv,h.rep hr⟩
theorem ag.agg {xs ys:List AV} (h:cP xs ys):ag (.agg xs) (.agg ys):=by intro c u hu;simp only [aa] at hu ⊢;obtain ⟨us,hv,h1,hr⟩:=hu;exact ⟨us,hv,h1,h.rep hr⟩
theorem ay.args {f:FuncId} {args wJ:List AV} {R:AV->ab->Prop} (hf:ay P f wJ h R) (hl:cP args wJ):ay P f args h R:=
 ⟨fun X g w us hc hr=>hf.1 X g w us hc (hl.rep hr)⟩
theorem ay.post {f:FuncId} {args:List AV} {R R':AV->ab->Prop} (hf:ay P f args h R)
  (hp:∀ v h1,R v h1->∃ v' h',R' v' h'/\ag v v'/\(∀ k o,(k,o)∈h'->(k,o)∈h1)/\((keys h1).Nodup->(keys h').Nodup)):ay P f args h R':=by
 refine ⟨fun X g w us hc hr=>?_⟩;refine (hf.1 X g w us hc hr).mono fun e w' he=>?_;obtain ⟨v,u,g',h1,rfl,hR,eM,hu,hs⟩:=he;obtain ⟨v',h',k1,k2,k3,k4⟩:=hp v h1 hR;obtain ⟨d1,d2⟩:=eM.sub k3 (k4 eM.nodup);exact ⟨v',u,g',h',rfl,k1,d1,aa.mono (Step.le d2) _ _ (k2 _ _ hu),hs.trans hc.own d2⟩
theorem ae.wide {f:FuncId} {args:List AV} {v:AV} (hq:ae P f args [] v) (h:ab):ae P f args h v:=by have:=ay.frame hq h;refine ay.post (by simpa using this) ?_;rintro v' h' ⟨h1,⟨h2,rfl⟩,rfl⟩;exact ⟨v',_,⟨h2,rfl⟩,ag.refl _,by simp,by simp⟩
theorem ae.more {f:FuncId} {args:List AV} {v:AV} {x:Nat × Ob} (hq:ae P f args h v):ae P f args (x::h) v:=by
 have:=ay.frame hq [x]
 have dZ:∀ {l:ab},(keys (x::l)).Nodup↔(keys (l++[x])).Nodup:=by
  intro l;simp only [keys,List.map_cons,List.map_append,List.map_nil,List.nodup_cons,List.nodup_append];constructor
  ·rintro ⟨a,b⟩;exact ⟨b,by simp,fun y hy z hz=>by simp at hz;subst hz;rintro rfl;exact a hy⟩
  rintro ⟨a,b,c⟩;exact ⟨fun hm=>c _ hm _ (by simp) rfl,a⟩
 refine ay.post (ay.pre this (h':=x::h) ?_ dZ.1) ?_
 ·intro k o hm;simp only [List.mem_append,List.mem_singleton,List.mem_cons,List.not_mem_nil,or_false] at hm ⊢;exact hm.symm
 rintro v' h' ⟨h1,⟨rfl,rfl⟩,rfl⟩;refine ⟨v',x::h1,⟨rfl,rfl⟩,ag.refl _,?_,dZ.2⟩;intro k o hm;simp only [List.mem_append,List.mem_singleton,List.mem_cons,List.not_mem_nil,or_false] at hm ⊢;exact hm.symm
theorem ae.args {f:FuncId} {args wJ:List AV} {v:AV} (hq:ae P f wJ h v) (hl:cP args wJ):ae P f args h v:=ay.args hq hl
theorem Cv {g:G} {p q:Prop} (h:p->q):gP g p->gP g q:=by
 induction g with
 | nil=>exact h
 | cons e g ih=>exact fun hp he=>ih (hp he)
theorem Pw {g:G} {K:AV->Prop} {op:Op} {x:Nat × Ob} (hq:bI P r g h K op):bI P r g (x::h) K op:=by
 by_cases hf:qI r g op=true
 ·exact IG hf hq
 cases op
 case load t y=>
  simp only [bI] at hq ⊢;split at hq
  ·exact hq
  ·obtain ⟨cs,l,h1,h2⟩:=hq;exact ⟨cs,l,List.mem_cons_of_mem _ h1,h2⟩
  exact hq
 case call cl=>
  revert hq;unfold bI;simp only;split
  ·exact fun hh=>hh
  ·exact fun hh=>hh
  ·exact fun hh=>hh
  ·exact fun hh=>hh
  ·split
   ·rintro ⟨v,h1,h2⟩;exact ⟨v,Cv ae.more h1,h2⟩
   exact fun hh=>hh
  ·split
   ·split
    ·rintro ⟨v,h1,h2⟩;exact ⟨v,Cv ae.more h1,h2⟩
    exact fun hh=>hh
   exact fun hh=>hh
  exact fun hh=>hh
 case lookup t x i ok=>
  revert hq;unfold bI;simp only;repeat' split
  all_goals first
   | exact fun hh=>hh
   | exact fun ⟨es,v,f,h1,h2⟩=>⟨es,v,f,List.mem_cons_of_mem _ h1,h2⟩
 all_goals exact absurd rfl hf
end Go.Abs
/-
 The abstract fB,part M: regions P9 order is drawn.
-/
namespace Go.Abs
open Go
variable {P:Program} {n:Nat} {X:Nat->Prop} {g0:Gh} {r:aC} {h:ab} {a:Act} {w:World}
theorem Ju {r1 r2:aC} {K:AV->ab->Prop} {op:Op} (h':∀ t∈qH op.operands.toList,bj r1 t=bj r2 t) (hq:cz P r1 h K op):cz P r2 h K op:=by
 have hx:∀ g,∀ x∈op.operands.toList,aM r1 g x=aM r2 g x:=by intro g x hx;exact IF fun t ht=>h' t (EK (ht ▸ hx))
 clear h';cases op
 case call cl=>
  have jv:∀ g,bU r1 g cl.args.toList=bU r2 g cl.args.toList:=fun g=>Cc fun x iJ=>hx g x (by simp [Op.operands,Call.operands];exact .inr (by simpa using iJ));have cM:∀ g t,cl.callee=.value (.tmp t)->aM r1 g (.tmp t)=aM r2 g (.tmp t):=fun g t ht=>hx g _ (by simp [Op.operands,Call.operands,ht]);clear hx;revert hq;unfold cz;simp only [jv];split;all_goals first|exact fun hh=>hh|skip
  rename_i t ht;rw [cM _ _ ht];exact fun hh=>hh
 case buildSlice t m ps=>
  simp only [cz] at hq ⊢;revert hq;split
  ·rw [<- EL (r1:=r1) (fun x iJ=>hx [] x (by simpa [Op.operands] using iJ))];exact fun hh=>hh
  exact fun hh=>hh
 case makeMap t rr=>cases rr<;>first|exact hq|(simp [cz] at hq;done)
 case binOp op t x y yt=>
  cases op<;>try (simp [cz] at hq;done)
  simp only [cz] at hq ⊢;rw [<- hx [] x (by simp [Op.operands]),<- hx [] y (by simp [Op.operands])];exact hq
 case box t x=>
  simp only [cz] at hq ⊢;rw [<- hx [] x (by simp [Op.operands])];exact hq
 case store t x y=>
  simp only [cz] at hq ⊢;rw [<- hx [] x (by simp [Op.operands]),<- hx [] y (by simp [Op.operands])];exact hq
 case makeSlice t x y=>
  simp only [cz] at hq ⊢;rw [<- hx [] x (by simp [Op.operands]),<- hx [] y (by simp [Op.operands])];exact hq
 case alloc t=>exact hq
 case range t x=>
  simp only [cz] at hq ⊢;rw [<- hx [] x (by simp [Op.operands])];exact hq
 case next x sb=>
  cases sb
  ·simp only [cz] at hq ⊢;rw [<- hx [] x (by simp [Op.operands])];exact hq
  simp only [cz] at hq ⊢;rw [<- hx [] x (by simp [Op.operands])];exact hq
 case entry x=>
  simp only [cz] at hq ⊢;rw [<- hx [] x (by simp [Op.operands])];exact hq
 case mapUpdate t m k x=>
  simp only [cz] at hq ⊢;rw [<- hx [] m (by simp [Op.operands]),<- hx [] k (by simp [Op.operands]),<- hx [] x (by simp [Op.operands])];exact hq
 all_goals (simp [cz] at hq)
theorem Jv {K:AV->ab->Prop} {op:Op} (ha:rE op=true) (hq:cz P r h K op):cz P r h (fun v h'=>K v h'/\∃ x,h'=x::h) op:=by
 cases op
 case alloc t=>
  simp only [cz] at hq ⊢;revert hq;split
  ·exact fun hh b=>⟨hh b,_,rfl⟩
  exact fun hh=>hh
 case box t x=>
  simp only [cz] at hq ⊢;revert hq;repeat' split
  all_goals first|exact fun hh=>hh.elim|exact fun hh b=>⟨hh b,_,rfl⟩
 case makeMap t rr=>
  cases rr
  ·simp only [cz] at hq ⊢;exact fun b=>⟨hq b,_,rfl⟩
  simp [cz] at hq
 case makeSlice t x y=>
  simp only [cz] at hq ⊢;revert hq;repeat' split
  all_goals first|exact fun hh=>hh.elim|exact fun hh=>⟨hh.1,fun b=>⟨hh.2 b,_,rfl⟩⟩
 case buildSlice t m ps=>
  simp only [cz] at hq ⊢;revert hq;repeat' split
  all_goals first|exact fun hh=>hh.elim|exact fun hh b=>⟨hh b,_,rfl⟩
 all_goals (simp [rE] at ha)
theorem Px {r1 r2:aC} {K:AV->ab->Prop} {op:Op} {own jW:List Nat} {d:Option Nat} (h':∀ t∈qH op.operands.toList,bj r1 t=bj r2 t) (hq:gF P own jW d r1 h K op):gF P own jW d r2 h K op:=by
 have hx:∀ g,∀ x∈op.operands.toList,aM r1 g x=aM r2 g x:=by intro g x hx;exact IF fun t ht=>h' t (EK (ht ▸ hx))
 unfold gF at hq ⊢;split at hq
 ·rename_i cl d;split at hq
  ·skip;have jv:∀ g,bU r1 g cl.args.toList=bU r2 g cl.args.toList:=fun g=>Cc fun x iJ=>hx g x (by simp [Op.operands,Call.operands];exact .inr (by simpa using iJ));unfold ue at hq ⊢;simp only [jv] at hq;exact hq
  skip;exact Ju h' hq
 ·rename_i t m parts d;split at hq
  ·skip;unfold uf at hq ⊢;revert hq;split
   ·rw [<- EL (r1:=r1) (fun x iJ=>hx [] x (by simpa [Op.operands] using iJ))];exact fun hh=>hh
   exact fun hh=>hh
  skip;exact Ju h' hq
 exact Ju h' hq
theorem WY {K:AV->ab->Prop} {op:Op} {own jW:List Nat} {d:Option Nat} (ha:rE op=true) (hq:gF P own jW d r h K op):gF P own jW d r h (fun v h'=>K v h'/\∃ x,h'=x::h) op:=by
 unfold gF at hq ⊢;split at hq
 ·simp [rE] at ha
 ·split at hq
  ·skip;unfold uf at hq ⊢;revert hq;repeat' split
   all_goals first|exact fun hh=>hh.elim|exact fun hh b=>⟨hh b,_,rfl⟩
  skip;exact Jv ha hq
 exact Jv ha hq
theorem Jw {all:List Oper} {K:G->AV->Prop} {o:Oper} (hq:dG P all r h K o):∃ g v,K g v/\dG P all r h (fun g' v'=>g'=g/\v'=v) o:=by
 unfold dG at hq ⊢;split at hq
 ·obtain ⟨v,h1,h2⟩:=ID hq;exact ⟨_,v,h1,by simpa using h2⟩
 split at hq<;>try contradiction
 split at hq<;>try contradiction
 split at hq<;>try contradiction
 obtain ⟨v,h1,h2⟩:=ID hq;exact ⟨_,v,h1,by simp [*]⟩
theorem vj {g:G} {K K':AV->Prop} {op:Op} (hk:∀ v,K v->K' v) (hq:bI P r g h K op):bI P r g h K' op:=by
 obtain ⟨v,h1,h2⟩:=ID hq;have:(fun x=>x=v)=fun x=>x=v/\K' x:=by funext x;simp only [eq_iff_iff];exact ⟨fun e=>⟨e,e ▸ hk v h1⟩,fun e=>e.1⟩
 rw [this] at h2;clear this
 -- from the conjunction to its second half,by the same Q1
 have key:∀ {K1 K2:AV->Prop},(∀ v,K1 v->K2 v)->bI P r g h K1 op->bI P r g h K2 op:=by
  intro K1 K2 hk;have sf:∀ {k:IntKind} {m:Int},arith g k m K1->arith g k m K2:=by intro k m hh;unfold arith at hh ⊢;cases k<;>first|exact ⟨hh.1,hk _ hh.2⟩|exact hk _ hh
  have wi:∀ {t:TypeId} {cs:List AV},fZ P t cs K1->fZ P t cs K2:=by
   intro t cs;unfold fZ;repeat' split
   all_goals first|exact hk _|exact fun hh=>hh
  have IE:∀ {t:TypeId} {op:BinOp} {x y:AV},sV P g t op x y K1->sV P g t op x y K2:=by
   intro t op x y;unfold sV;simp only [oJ];repeat' split
   all_goals first
    | exact fun hh=>hh.elim
    | exact hk _
    | exact fun hh=>⟨hh.1,hk _ hh.2⟩
    | exact fun hh=>⟨hh.1,sf hh.2⟩
    | exact fun hh=>⟨hh.1,hh.2.1,sf hh.2.2⟩
    | exact fun hh=>⟨hh.1,hh.2.1,hk _ hh.2.2⟩
  have hlen:∀ {d:Option TypeDesc} {x:AV},sX d x K1->sX d x K2:=by
   intro d x;unfold sX;repeat' split
   all_goals first|exact hk _|exact fun hh=>hh
  have gn:∀ {x:AV} {lo hi:Int} {b:Bool},oM g x lo hi b K1->oM g x lo hi b K2:=by
   intro x lo hi b;unfold oM;repeat' split
   all_goals first|exact fun hh=>hh.elim|exact fun hh=>⟨hh.1,hk _ hh.2⟩
  have lV:∀ {s:TypeId} {xs:List (List AV)},ud P s xs K1->ud P s xs K2:=by
   intro s xs;unfold ud;repeat' split
   all_goals first|exact fun hh=>hh.elim|exact fun ⟨ns,h1,hh⟩=>⟨ns,h1,hk _ hh⟩
  unfold bI;repeat' split
  all_goals first
   | exact fun hh=>hh.elim
   | exact hk _
   | exact lV
   | exact wi
   | exact sf
   | exact IE
   | exact hlen
   | exact gn
   | exact fun ⟨cs,l,h1,h2,hq⟩=>⟨cs,l,h1,h2,wi hq⟩
   | exact fun ⟨j,y,h1,hq⟩=>⟨j,y,h1,hk _ hq⟩
   | exact fun ⟨es,v,f,h1,h2,hq⟩=>⟨es,v,f,h1,h2,hk _ hq⟩
   | exact fun ⟨j,l,h1,h2,hq⟩=>⟨j,l,h1,h2,hk _ hq⟩
   | exact fun ⟨h1,hq⟩=>⟨h1,hk _ hq⟩
   | exact fun ⟨j,h1,hq⟩=>⟨j,h1,hk _ hq⟩
 exact key (fun v h=>h.2) h2
theorem Jx {all:List Oper} {K:G->AV->Prop} {o:Oper} {h':ab} (hh:∀ g K,bI P r g h K o.op->bI P r g h' K o.op) (hq:dG P all r h K o):dG P all r h' K o:=by
 unfold dG at hq ⊢;split at hq
 ·rename_i gC;try simp only [gC]
  exact hh _ _ hq
 rename_i j wt gC;split at hq<;>try contradiction
 rename_i oj h1;split at hq<;>try contradiction
 rename_i tj h2;split at hq<;>try contradiction
 rename_i gj b h3;try simp only [gC,h1,h2,h3]
 exact hh _ _ hq
theorem Jy {all:List Oper} {g:G} {v:AV} {o:Oper} {h':ab} (hf:qI r g o.op=true) (hq:dG P all r h (fun g' v'=>g'=g/\v'=v) o) :
  dG P all r h' (fun g' v'=>g'=g/\v'=v) o:=by
 unfold dG at hq ⊢;split at hq
 ·rename_i hg;obtain ⟨_,vk,_⟩:=BO hq;subst vk;exact IG hf hq
 rename_i j wt gC;split at hq<;>try contradiction
 rename_i oj h1;split at hq<;>try contradiction
 rename_i tj h2;split at hq<;>try contradiction
 rename_i gj b h3;try simp only [gC,h1,h2,h3]
 obtain ⟨_,vk,_⟩:=BO hq;subst vk;exact IG hf hq
theorem WZ {all:List Oper} {r1 r2:aC} {K:G->AV->Prop} {o:Oper} (h':∀ t∈ja all o,bj r1 t=bj r2 t) (hq:dG P all r1 h K o):dG P all r2 h K o:=by
 have de:∀ t∈qH o.op.operands.toList,bj r1 t=bj r2 t:=fun t ht=>h' t (by unfold ja;exact List.mem_append_right _ ht);unfold dG at hq ⊢;split at hq
 ·rename_i gC;try simp only [gC]
  exact Oo de hq
 rename_i j wt gC;split at hq<;>try contradiction
 rename_i oj h1;split at hq<;>try contradiction
 rename_i tj h2;have:=h' tj (by unfold ja;simp [gC,h1,h2]);rw [this] at hq;split at hq<;>try contradiction
 rename_i gj b h3;try simp only [gC,h1,h2,h3]
 exact Oo de hq
theorem Xa {all:List Oper} {gg:G} {vv:AV} {o:Oper} {i:Nat} {K:Act->World->Prop} {Q:Exit->Act->World->Prop} (hE:dG P all r h (fun g v=>g=gg/\v=vv) o) (hc:bK n X g0 r h a w)
  (hi:all.toArray[i]?=some o)
  (hn:∀ g' u w',CW X g' h w'->Step X g0 h w g' h w'->(cZ a gg->(∀ e∈gg,e.2.1=e.2.2)/\aa ⟨g',live X h,w'⟩ vv u)->(¬ cZ a gg->u=undef)->K (a.put o.dst u) w') :
  wpOp P all.toArray Q i K a w:=by
 have ck:cZ a []:=fun e he=>by cases he
 unfold wpOp;simp only [hi];unfold dG at hE;split at hE
 ·rename_i gC;rw [if_pos (EI gC)];left;obtain ⟨_,vk,_⟩:=BO hE;subst vk;refine DM hE hc ck (by simp) ?_;rintro v g' u w' ⟨_,rfl⟩ dw cG aA;exact hn g' u w' dw aA (fun _=>⟨by simp,cG⟩) (fun hh=>absurd ck hh)
 rename_i j wt gC;split at hE<;>try contradiction
 rename_i oj BZ;split at hE<;>try contradiction
 rename_i tj Ca;split at hE<;>try contradiction
 rename_i gj b dz;obtain ⟨_,vk,_⟩:=BO hE;have uP:=hc.kX tj gj (.bool b) dz
 have hy:yielded all.toArray a.tmps j=match a.tmps[tj]? with|some (.bool b)=>some b|_=>none:=by
  unfold yielded;simp [BZ,Ca];rcases a.tmps[tj]? with _|v
  ·rfl
  cases v<;>rfl
 have Cb:Region.wanted o (yielded all.toArray a.tmps)=(yielded all.toArray a.tmps j == some wt):=(by simp [Region.wanted,gC]);have tO:cZ a gj->Region.wanted o (yielded all.toArray a.tmps)=decide (b=wt)/\a.tmps[tj]?=some (.bool b)/\∀ e∈gj,e.2.1=e.2.2:=by intro hh;obtain ⟨h1,u,h2,h3⟩:=uP.1 hh;rw [aa] at h3;subst h3;refine ⟨?_,h2,h1⟩;rw [Cb,hy,h2];simp only;cases b<;>cases wt<;>rfl
 have IC:¬ cZ a gj->Region.wanted o (yielded all.toArray a.tmps)=false:=by intro hh;have h1:=uP.2 hh;rw [Cb,hy,h1];rfl
 have iP:cZ a (gj++[(tj,b,wt)])↔(cZ a gj/\b=wt):=by
  constructor
  ·intro hh;have h1:cZ a gj:=fun e he=>hh e (by simp [he]);refine ⟨h1,?_⟩;have h2:=hh (tj,b,wt) (by simp);simp only at h2;rw [(tO h1).2.1] at h2;cases h2;rfl
  rintro ⟨h1,rfl⟩ e he;simp only [List.mem_append,List.mem_singleton] at he;rcases he with he|rfl
  ·exact h1 e he
  exact (tO h1).2.1
 by_cases hh:cZ a (gj++[(tj,b,wt)])
 ·obtain ⟨h1,h2⟩:=iP.1 hh;obtain ⟨y1,y2,y3⟩:=tO h1;rw [y1];simp only [h2,decide_true,if_true];left
  have he:∀ e∈gj++[(tj,b,wt)],e.2.1=e.2.2:=by
   intro e he;simp only [List.mem_append,List.mem_singleton] at he;rcases he with he|rfl
   ·exact y3 e he
   exact h2
  refine DM hE hc hh he ?_;rintro v g' u w' ⟨_,rfl⟩ dw cG aA;exact hn g' u w' dw aA (fun _=>⟨vk ▸ he,cG⟩) (fun pd=>absurd (vk ▸ hh) pd)
 have hw:Region.wanted o (yielded all.toArray a.tmps)=false:=by
  by_cases h1:cZ a gj
  ·rw [(tO h1).1];simp only [decide_eq_false_iff_not];intro hb;exact hh (iP.2 ⟨h1,hb⟩)
  exact IC h1
 rw [hw];simp only [Bool.false_eq_true,if_false];exact hn g0 undef w hc.cw (Step.refl _ _ _ _) (fun hy=>absurd (vk ▸ hy) hh) (fun _=>rfl)
end Go.Abs
/-
 The abstract fB,part N: Q2 the order,a drawn region comes to the same abstract state.
-/
namespace Go.Abs
open Go
variable {P:Program} {n:Nat} {X:Nat->Prop} {g0:Gh} {r:aC} {h:ab} {a:Act} {w:World}
theorem qo {d t:Nat} {x:G × AV}:bj ((d,x)::r) t=if d=t then some x else bj r t:=by
 conv=>lhs;unfold bj
 split
 ·rename_i hb;rw [if_pos (Nat.eq_of_beq_eq_true hb)]
 rename_i hb;rw [if_neg (fun e=>by subst e;rw [Nat.beq_refl] at hb;cases hb)]
def Cl (cl:List Nat) (i j:Nat):Prop:=(kW cl i).testBit j=true
theorem Jz {cl:List Nat} {j:Nat}:∀ {es:List Edge},(vJ cl es).testBit j=true↔∃ e∈es,Region.binds .any e=true/\(e.on=j\/Cl cl e.on j)
 | []=>by simp [vJ]
 | e::es=>by
   unfold vJ;have ih:=Jz (cl:=cl) (j:=j) (es:=es);split
   ·rename_i hb;have e1:∀ a b:Nat,Nat.lor a b=a ||| b:=fun _ _=>rfl;rw [e1,e1,Nat.testBit_or,Nat.testBit_or,Nat.testBit_two_pow];simp only [Bool.or_eq_true,decide_eq_true_eq,ih,List.mem_cons];constructor
    ·rintro ((h|h)|⟨e',h1,h2⟩)
     ·exact ⟨e,.inl rfl,hb,.inl h⟩
     ·exact ⟨e,.inl rfl,hb,.inr h⟩
     exact ⟨e',.inr h1,h2⟩
    rintro ⟨e',rfl|h1,h2,h3⟩
    ·exact .inl h3
    exact .inr ⟨e',h1,h2,h3⟩
   rename_i hb;rw [ih];constructor
   ·rintro ⟨e',h1,h2⟩;exact ⟨e',by simp [h1],h2⟩
   rintro ⟨e',h1,h2⟩;rcases List.mem_cons.1 h1 with rfl|h1
   ·rw [h2.1] at hb;cases hb
   exact ⟨e',h1,h2⟩
structure gr (all:List Oper) (cl:List Nat) (ord:List Nat):Prop where
 e1:∀ i o,all[i]?=some o->∀ e∈o.after.toList,Region.binds .any e=true->e.on<i
 e2:∀ i o,all[i]?=some o->kW cl i=vJ cl o.after.toList
 p2:∀ i,i<all.length->i∈ord
 p3:ord.Nodup
 p4:∀ pre i post,ord=pre++i::post->∃ o,all[i]?=some o/\∀ e∈o.after.toList,Region.binds .any e=true->e.on∈pre
 n1:∀ (i:Nat) (o:Oper) (t:Nat),all[i]?=some o->t∈ja all o->∀ (j:Nat) (o':Oper),all[j]?=some o'->o'.dst=some t->Cl cl i j\/Cl cl j i
 d1:∀ (i j:Nat) (o o':Oper) (d:Nat),all[i]?=some o->all[j]?=some o'->o.dst=some d->o'.dst=some d->i=j
theorem Py:∀ {l:List Nat},aJ.Dz l=true->l.Nodup
 | [],_=>List.nodup_nil
 | x::l,h=>by simp only [aJ.Dz,Bool.and_eq_true,Bool.not_eq_true',List.contains_eq_mem,decide_eq_false_iff_not] at h;exact List.nodup_cons.2 ⟨h.1,Py h.2⟩
theorem Pz {all:List Oper}:∀ {l JA:List Nat},aJ.DA all JA l=true->∀ pre i post,l=pre++i::post ->
  ∃ o,all[i]?=some o/\∀ e∈o.after.toList,Region.binds .any e=true->e.on∈JA\/e.on∈pre
 | [],_,_,pre,i,post,he=>by simp at he
 | x::l,JA,h,pre,i,post,he=>by
   simp only [aJ.DA,Bool.and_eq_true] at h;cases pre with
   | nil=>
     simp at he;obtain ⟨rfl,rfl⟩:=he;have h1:=h.1;split at h1
     ·rename_i o ho;refine ⟨o,ho,fun e he hb=>.inl ?_⟩;have:=List.all_eq_true.1 h1 e he;simpa [hb] using this
     cases h1
   | cons y pre=>
     simp at he;obtain ⟨rfl,he⟩:=he;obtain ⟨o,ho,h2⟩:=Pz h.2 pre i post he;refine ⟨o,ho,fun e he hb=>?_⟩;rcases h2 e he hb with h3|h3
     ·rcases List.mem_cons.1 h3 with h3|h3
      ·exact .inr (by simp [h3])
      exact .inl h3
     exact .inr (by simp [h3])
theorem zZ {all:List Oper} {i:Nat} {o:Oper}:(i,o)∈(all.zipIdx.map fun (o,i)=>(i,o))↔all[i]?=some o:=by
 simp only [List.mem_map,Prod.exists,Prod.mk.injEq,List.mem_zipIdx_iff_getElem?];constructor
 ·rintro ⟨a,b,h,rfl,rfl⟩;exact h
 intro h;exact ⟨o,i,h,rfl,rfl⟩
theorem JB {t:Nat} {o:Oper}:isDst t o=true↔o.dst=some t:=by
 unfold isDst;split
 ·rename_i d hd;rw [hd];constructor
  ·intro h;rw [Nat.eq_of_beq_eq_true h]
  intro h;cases h;exact Nat.beq_refl _
 rename_i hd;simp [hd]
theorem PA {all:List Oper} {ord:List Nat} (hk:aJ all ord=true):gr all (iZ all []) ord:=by
 unfold aJ at hk;simp only [Bool.and_eq_true] at hk;obtain ⟨⟨⟨⟨⟨⟨h1,h2⟩,h3⟩,h4⟩,h5⟩,h6⟩,h7⟩:=hk;have h1:=List.all_eq_true.1 h1;have h3:=List.all_eq_true.1 h3;have h6:=List.all_eq_true.1 h6;have h7:=List.all_eq_true.1 h7;refine ⟨?_,?_,?_,Py h4,?_,?_,?_⟩
 ·intro i o ho e he hb;have:=h1 (i,o) (zZ.2 ho);simp only [Bool.and_eq_true] at this;have:=List.all_eq_true.1 this.1 e he;simp only [hb,Bool.not_true,Bool.false_or,Nat.blt_eq] at this;exact this
 ·intro i o ho;have:=h1 (i,o) (zZ.2 ho);simp only [Bool.and_eq_true] at this;exact Nat.eq_of_beq_eq_true this.2
 ·intro i hi;have:=h3 i (List.mem_range.2 hi);simpa using this
 ·intro pre i post he;obtain ⟨o,ho,hh⟩:=Pz h5 pre i post he;exact ⟨o,ho,fun e he hb=>(hh e he hb).resolve_left (by simp)⟩
 ·intro i o t ho ht j o' bD hd;have:=h6 (i,o) (zZ.2 ho);simp only at this;have:=List.all_eq_true.1 this t ht;unfold LD at this;have:=List.all_eq_true.1 this (j,o') (zZ.2 bD);simp only [JB.2 hd,Bool.not_true,Bool.false_or,Bool.or_eq_true] at this;exact this
 intro i j o o' d ho bD hd cU;have:=h7 (i,o) (zZ.2 ho);simp only at this;have:=List.all_eq_true.1 this (j,o') (zZ.2 bD);simp only [Bool.or_eq_true,hd,JB.2 cU,Bool.not_true,or_false,Bool.false_eq_true] at this;exact Nat.eq_of_beq_eq_true this
section
variable {all:List Oper} {cl:List Nat} {ord:List Nat}
theorem sE (hs:gr all cl ord) {S:Nat->Prop} (hS:∀ i,S i->∃ o,all[i]?=some o/\∀ e∈o.after.toList,Region.binds .any e=true->S e.on) :
  ∀ i,S i->∀ j,Cl cl i j->S j/\j<i:=by
 intro i;induction i using Nat.strongRecOn with
 | _ i ih=>
   intro hi j hj;obtain ⟨o,ho,hc⟩:=hS i hi;unfold Cl at hj;rw [hs.e2 i o ho,Jz] at hj;obtain ⟨e,he,hb,h1⟩:=hj;have aL:=hs.e1 i o ho e he hb;rcases h1 with rfl|h1
   ·exact ⟨hc e he hb,aL⟩
   obtain ⟨k1,k2⟩:=ih e.on aL (hc e he hb) j h1;exact ⟨k1,by omega⟩
def bT (ai:List (Nat × Nat × G × AV)) (r:aC):aC:=ai.map (·.2)++r
theorem PB {ai:List (Nat × Nat × G × AV)} {t:Nat} (h:∀ x∈ai,x.2.1≠t):bj (bT ai r) t=bj r t:=by
 induction ai with
 | nil=>rfl
 | cons x ai ih=>
   obtain ⟨i,d,g,v⟩:=x;have aI:=h _ List.mem_cons_self;simp only at aI;show bj ((d,g,v)::bT ai r) t=_;rw [qo,if_neg aI];exact ih fun x hx=>h x (List.mem_cons_of_mem _ hx)
theorem PC {ai:List (Nat × Nat × G × AV)} {t j:Nat} {g:G} {v:AV} (hm:(j,t,g,v)∈ai) (hu:∀ x∈ai,x.2.1=t->x=(j,t,g,v)) :
  bj (bT ai r) t=some (g,v):=by
 induction ai with
 | nil=>cases hm
 | cons x ai ih=>
   by_cases hx:x.2.1=t
   ·have:=hu x List.mem_cons_self hx;subst this;show bj ((t,g,v)::bT ai r) t=_;rw [qo,if_pos rfl]
   have yc:(j,t,g,v)∈ai:=by
    rcases List.mem_cons.1 hm with rfl|hm
    ·exact absurd rfl hx
    exact hm
   obtain ⟨i,d,g',v'⟩:=x;show bj ((d,g',v')::bT ai r) t=_;rw [qo,if_neg hx];exact ih yc fun x hx=>hu x (List.mem_cons_of_mem _ hx)
def mn (all:List Oper) (cl:List Nat) (ai:List (Nat × Nat × G × AV)) (r:aC) (k t:Nat) (x:Option (G × AV)):Prop:=
 (∃ j g v,Cl cl k j/\(j,t,g,v)∈ai/\x=some (g,v))\/((∀ j o,all[j]?=some o->o.dst=some t->Cl cl j k)/\x=bj r t)
structure gZ (n:Nat) (P:Program) (all:List Oper) (cl ord:List Nat) (r:aC) (kn rest nf:List Nat) (ai:List (Nat × Nat × G × AV)) (h:ab) (L:Array Bool):Prop where
 split:ord=kn++rest
 kr:L.size=all.length
 qp:∀ i,L.getD i false=true->i∈kn
 sF:∀ i,L.getD i false=true->∃ o,all[i]?=some o/\∀ e∈o.after.toList,Region.binds .any e=true->L.getD e.on false=true
 gu:∀ x∈ai,x.1∈kn/\∃ o,all[x.1]?=some o/\o.dst=some x.2.1
 yu:∀ x∈ai,∀ y∈ai,x.1=y.1->x=y
 Cw:∀ k∈kn,∀ o d,all[k]?=some o->o.dst=some d->∃ g v,(k,d,g,v)∈ai
 path:∀ x∈ai,∀ e∈x.2.2.1,∀ j o,all[j]?=some o->o.dst=some e.1->Cl cl x.1 j
 fact:∀ k∈kn,L.getD k false=false->∃ o g v Rk,all[k]?=some o/\dG P all Rk h (fun g' v'=>g'=g/\v'=v) o /\
  (∀ t∈ja all o,mn all cl ai r k t (bj Rk t)) /\
  (∀ d,o.dst=some d->(k,d,g,v)∈ai/\d<n/\(∀ e∈g,e.1≠d)/\∀ t gg v,bj r t=some (gg,v)->∀ e∈gg,e.1≠d) /\
  (k ∉ nf->∀ h',dG P all Rk h' (fun g' v'=>g'=g/\v'=v) o)
variable {kn rest nf:List Nat} {ai:List (Nat × Nat × G × AV)} {L:Array Bool}
theorem gZ.Cy (hi:gZ n P all cl ord r kn rest nf ai h L) (hs:gr all cl ord) (i:Nat) (hk:i∈kn):∃ o,all[i]?=some o/\∀ e∈o.after.toList,Region.binds .any e=true->e.on∈kn:=by obtain ⟨pre,post,rfl⟩:=List.append_of_mem hk;obtain ⟨o,ho,hh⟩:=hs.p4 pre i (post++rest) (by rw [hi.split];simp);exact ⟨o,ho,fun e he hb=>by have:=hh e he hb;simp [this]⟩
theorem gZ.qq (hi:gZ n P all cl ord r kn rest nf ai h L) (hs:gr all cl ord) {i j:Nat} (hk:i∈kn) (hc:Cl cl i j):j∈kn/\j<i:=
 sE hs (S:=fun i=>i∈kn) (fun i hk=>hi.Cy hs i hk) i hk j hc
theorem yv (hi:gZ n P all cl ord r kn rest nf ai h L) (hs:gr all cl ord) {k:Nat} {o:Oper} (hk:all[k]?=some o) {eh:List (Nat × Nat × G × AV)} (gm:∀ x∈eh,x∈ai)
  (bw:∀ j,Cl cl k j->j∈kn/\∀ x∈ai,x.1=j->x∈eh) (pd:∀ x∈eh,¬ Cl cl x.1 k) (t:Nat) (ht:t∈ja all o):mn all cl ai r k t (bj (bT eh r) t):=by
 have Fs:∀ x∈ai,∀ j o',all[j]?=some o'->o'.dst=some t->x.2.1=t->x.1=j:=by intro x hx j o' bD cU py;obtain ⟨_,o2,cr,ku⟩:=hi.gu x hx;rw [py] at ku;exact hs.d1 _ _ _ _ _ cr bD ku cU
 by_cases hw:∃ (j:Nat) (o':Oper),all[j]?=some o'/\o'.dst=some t
 ·obtain ⟨j,o',bD,cU⟩:=hw;rcases hs.n1 k o t hk ht j o' bD cU with hc|hc
  ·obtain ⟨hj,cn⟩:=bw j hc;obtain ⟨g,v,hm⟩:=hi.Cw j hj o' t bD cU;refine .inl ⟨j,g,v,hc,hm,PC (cn _ hm rfl) ?_⟩;intro x hx py;exact hi.yu x (gm x hx) _ hm (Fs x (gm x hx) j o' bD cU py)
  refine .inr ⟨fun j2 o2 cr ku=>by rw [hs.d1 _ _ _ _ _ cr bD ku cU];exact hc,PB ?_⟩;intro x hx py;have:=Fs x (gm x hx) j o' bD cU py;exact pd x hx (this ▸ hc)
 refine .inr ⟨fun j o' bD cU=>absurd ⟨j,o',bD,cU⟩ hw,PB ?_⟩;intro x hx py;obtain ⟨_,o2,cr,ku⟩:=hi.gu x (gm x hx);exact hw ⟨_,o2,cr,py ▸ ku⟩
theorem JC (hi:gZ n P all cl ord r kn rest nf ai h L) (hs:gr all cl ord) {k t:Nat} {x y:Option (G × AV)} (hx:mn all cl ai r k t x) (hy:mn all cl ai r k t y)
  (wK:∀ j,Cl cl k j->Cl cl j k->False):x=y:=by
 rcases hx with ⟨j,g,v,h1,h2,rfl⟩|⟨h1,rfl⟩<;>rcases hy with ⟨j',g',v',k1,k2,rfl⟩|⟨k1,rfl⟩
 ·obtain ⟨_,o,ho,hd⟩:=hi.gu _ h2;obtain ⟨_,o',bD,cU⟩:=hi.gu _ k2;have:=hs.d1 _ _ _ _ _ ho bD hd cU;have:=hi.yu _ h2 _ k2 this;cases this;rfl
 ·obtain ⟨_,o,ho,hd⟩:=hi.gu _ h2;exact (wK j h1 (k1 _ _ ho hd)).elim
 ·obtain ⟨_,o,ho,hd⟩:=hi.gu _ k2;exact (wK j' k1 (h1 _ _ ho hd)).elim
 rfl
def dq (L:Array Bool) (ai:List (Nat × Nat × G × AV)):List (Nat × Nat × G × AV):=ai.filter fun x=>L.getD x.1 false
theorem pz {x:Nat × Nat × G × AV}:x∈dq L ai↔x∈ai/\L.getD x.1 false=true:=by simp [dq,List.mem_filter]
theorem JD {p q:(Nat × Nat × G × AV)->Bool} {t:Nat}:∀ {ai:List (Nat × Nat × G × AV)},(∀ x∈ai,x.2.1=t->p x=q x)->bj (bT (ai.filter p) r) t=bj (bT (ai.filter q) r) t
 | [],_=>rfl
 | x::ai,h=>by
   have ih:=JD (p:=p) (q:=q) (t:=t) (ai:=ai) fun y hy=>h y (List.mem_cons_of_mem _ hy);have skip:∀ l:List (Nat × Nat × G × AV),x.2.1≠t->bj (bT (x::l) r) t=bj (bT l r) t:=by intro l aI;obtain ⟨i,d,g,v⟩:=x;show bj ((d,g,v)::bT l r) t=_;rw [qo,if_neg aI]
   have mw:∀ l l':List (Nat × Nat × G × AV),bj (bT l r) t=bj (bT l' r) t->bj (bT (x::l) r) t=bj (bT (x::l') r) t:=by intro l l' he;obtain ⟨i,d,g,v⟩:=x;show bj ((d,g,v)::bT l r) t=bj ((d,g,v)::bT l' r) t;rw [qo,qo,he]
   simp only [List.filter_cons];by_cases hx:x.2.1=t
   ·rw [h x List.mem_cons_self hx];split
    ·exact mw _ _ ih
    exact ih
   split<;>split
   ·exact mw _ _ ih
   ·rw [skip _ hx];exact ih
   ·rw [skip _ hx];exact ih
   exact ih
theorem bK.JE {g':Gh} {h':ab} {w':World} (hc:bK n X g0 r h a w) (dw:CW X g' h' w') (aA:Step X g0 h w g' h' w') {d:Nat} (hd:d<n) {gg:G} {v:AV} {u:Value}
  (n1:∀ e∈gg,e.1≠d) (n2:∀ t gg v,bj r t=some (gg,v)->∀ e∈gg,e.1≠d) (h1:cZ a gg->(∀ e∈gg,e.2.1=e.2.2)/\aa ⟨g',live X h',w'⟩ v u) (h2:¬ cZ a gg->u=undef) :
  bK n X g' ((d,gg,v)::r) h' (a.put (some d) u) w':=by
 have lg:(a.put (some d) u).tmps[d]?=some u:=by have:=hc.size;simp [Act.put,Array.getElem?_setIfInBounds,show d<a.tmps.size from by omega]
 refine ⟨dw,?_,hc.defers,by simpa [Act.put] using hc.size⟩;intro t EH v' hl;unfold bj at hl;split at hl
 ·rename_i ht;have ht:=Nat.eq_of_beq_eq_true ht;subst ht;cases hl
  rw [EG n1,lg];exact ⟨fun hh=>⟨(h1 hh).1,u,rfl,(h1 hh).2⟩,fun hh=>by rw [h2 hh]⟩
 rename_i ht;have aI:t≠d:=by intro e;subst e;rw [Nat.beq_refl] at ht;cases ht
 rw [EG (n2 t EH v' hl)];have hg:(a.put (some d) u).tmps[t]?=a.tmps[t]?:=(by simp [Act.put,Array.getElem?_setIfInBounds_ne (Ne.symm aI)]);rw [hg];exact (hc.step dw aA).kX t EH v' hl
theorem JF {ai:List (Nat × Nat × G × AV)} {t:Nat} {gg:G} {v:AV} (h:bj (bT ai r) t=some (gg,v)):(∃ x∈ai,x.2=(t,gg,v))\/bj r t=some (gg,v):=by
 induction ai with
 | nil=>exact .inr h
 | cons x ai ih=>
   obtain ⟨i,d,g',v'⟩:=x;have h2:bj ((d,g',v')::bT ai r) t=some (gg,v):=h;clear h;rw [qo] at h2;split at h2
   ·rename_i hb;subst hb;cases h2
    exact .inl ⟨_,List.mem_cons_self,rfl⟩
   rcases ih h2 with ⟨x,hx,e⟩|h
   ·exact .inl ⟨x,List.mem_cons_of_mem _ hx,e⟩
   exact .inr h
theorem Aa {L:Array Bool} {i j:Nat}:(L.setIfInBounds i true).getD j false=true->i=j\/L.getD j false=true:=by
 intro hh;by_cases e:i=j
 ·exact .inl e
 rw [getD_set_ne false e] at hh;exact .inr hh
theorem Cz {L:Array Bool} {i:Nat} (h:i<L.size):L.getD i true=L.getD i false:=by simp [h]
theorem Xb (hi:gZ n P all cl ord r kn rest nf ai h L) (hs:gr all cl ord) {k:Nat} {o:Oper} (hk:k∈kn) (mo:all[k]?=some o) (dX:L.getD k false=false)
  (aL:k<L.size) {g v} (BW:∀ d,o.dst=some d->(k,d,g,v)∈ai) :
  ∀ t gg vv,bj (bT (dq (L.setIfInBounds k true) ai) r) t=some (gg,vv)->bj (match o.dst with|some d=>(d,g,v)::bT (dq L ai) r|none=>bT (dq L ai) r) t=some (gg,vv):=by
 intro t gg vv hl;have iA:(L.setIfInBounds k true).getD k false=true:=(by simp [aL]);cases hd:o.dst with
 | none=>
   simp only;rw [<- hl];refine JD fun x hx py=>?_
   have aI:k≠x.1:=by
    intro e;obtain ⟨_,o2,cr,ku⟩:=hi.gu x hx;rw [<- e,mo] at cr;cases cr
    rw [hd] at ku;cases ku
   simp only [getD_set_ne false aI]
 | some d=>
   simp only;have hm:=BW d hd;have Fs:∀ x∈ai,x.2.1=d->x=(k,d,g,v):=by intro x hx Xc;obtain ⟨_,o2,cr,ku⟩:=hi.gu x hx;rw [Xc] at ku;exact hi.yu x hx _ hm (hs.d1 _ _ _ _ _ cr mo ku hd)
   by_cases ht:t=d
   ·subst ht
    have:bj (bT (dq (L.setIfInBounds k true) ai) r) t=some (g,v):=
     PC (pz.2 ⟨hm,iA⟩) fun x hx py=>Fs x (pz.1 hx).1 py
    rw [this] at hl;rw [qo,if_pos rfl];exact hl
   rw [qo,if_neg (Ne.symm ht),<- hl];refine JD fun x hx py=>?_
   have aI:k≠x.1:=by
    intro e;obtain ⟨_,o2,cr,ku⟩:=hi.gu x hx;rw [<- e,mo] at cr;cases cr
    rw [hd] at ku;have Xd:d=x.2.1:=(by injection ku);exact ht (py.symm.trans Xd.symm)
   simp only [getD_set_ne false aI]
end
end Go.Abs
/-
 The abstract fB,part O: the law on drawn regions.
-/
namespace Go.Abs
open Go
variable {P:Program} {n:Nat} {X:Nat->Prop} {g0:Gh} {r:aC} {h:ab} {a:Act} {w:World}
variable {all:List Oper} {cl:List Nat} {ord:List Nat}
variable {kn rest nf:List Nat} {ai:List (Nat × Nat × G × AV)} {L:Array Bool}
theorem gZ.lt (hi:gZ n P all cl ord r kn rest nf ai h L) (hs:gr all cl ord) {i:Nat} (hm:i∈ord):i<L.size/\∃ o,all[i]?=some o:=by obtain ⟨pre,post,e⟩:=List.append_of_mem hm;obtain ⟨o,ho,_⟩:=hs.p4 pre i post e;exact ⟨by rw [hi.kr];exact (List.getElem?_eq_some_iff.1 ho).1,o,ho⟩
theorem gZ.list (hi:gZ n P all cl ord r kn rest nf ai h L) {k:Nat} {o:Oper} (hk:k∈kn) (mo:all[k]?=some o)
  (he:∀ e∈o.after.toList,Region.binds .any e=true->L.getD e.on false=true):gZ n P all cl ord r kn rest nf ai h (L.setIfInBounds k true):=by
 refine ⟨hi.split,by simpa using hi.kr,?_,?_,hi.gu,hi.yu,hi.Cw,hi.path,?_⟩
 ·intro i hL;rcases Aa hL with rfl|hL
  ·exact hk
  exact hi.qp i hL
 ·intro i hL;rcases Aa hL with rfl|hL
  ·exact ⟨o,mo,fun e h1 h2=>getD_set_true (he e h1 h2)⟩
  obtain ⟨o',bD,hh⟩:=hi.sF i hL;exact ⟨o',bD,fun e h1 h2=>getD_set_true (hh e h1 h2)⟩
 intro k' bk hL;refine hi.fact k' bk ?_;cases hb:L.getD k' false with
 | false=>rfl
 | true=>rw [getD_set_true hb] at hL;cases hL
theorem PD {p:Nat->Bool}:∀ {l:List Nat},(∃ i∈l,p i=false)->∃ pre i post,l=pre++i::post/\(∀ j∈pre,p j=true)/\p i=false
 | [],h=>by obtain ⟨i,h,_⟩:=h;cases h
 | x::l,h=>by
   cases hx:p x with
   | false=>exact ⟨[],x,l,rfl,by simp,hx⟩
   | true=>
     obtain ⟨i,hi,hp⟩:=h
     have:∃ i∈l,p i=false:=by
      rcases List.mem_cons.1 hi with rfl|hi
      ·rw [hx] at hp;cases hp
      exact ⟨i,hi,hp⟩
     obtain ⟨pre,i,post,rfl,h1,h2⟩:=PD this;refine ⟨x::pre,i,post,rfl,fun j hj=>?_,h2⟩;rcases List.mem_cons.1 hj with rfl|hj
     ·exact hx
     exact h1 j hj
theorem JG (hi:gZ n P all cl ord r kn rest nf ai h L) (hs:gr all cl ord) (hr:Region.ready .any all.toArray L=[]):∀ i∈ord,L.getD i false=true:=by
 intro i hm;cases hb:L.getD i false with
 | true=>rfl
 | false=>
   obtain ⟨pre,k,post,e,h1,h2⟩:=PD (p:=fun i=>L.getD i false) ⟨i,hm,hb⟩;obtain ⟨o,ho,hh⟩:=hs.p4 pre k post e;have aL:k<L.size:=by rw [hi.kr];exact (List.getElem?_eq_some_iff.1 ho).1
   have:k∈Region.ready .any all.toArray L:=by rw [mem_ready];refine ⟨by rw [Cz aL];exact h2,o,by simpa using ho,fun e he hb=>h1 _ (hh e (by simpa using he) hb)⟩
   rw [hr] at this;cases this
def pA (N:Nat) (L:Array Bool):Nat:=((List.range N).filter fun i=>!L.getD i false).length
theorem CA {N k:Nat} (hk:k<N) (hN:N=L.size) (hf:L.getD k false=false):pA N (L.setIfInBounds k true)<pA N L:=by
 unfold pA
 have key:∀ l:List Nat,(l.filter fun i=>!(L.setIfInBounds k true).getD i false).length<=(l.filter fun i=>!L.getD i false).length /\
   (k∈l->(l.filter fun i=>!(L.setIfInBounds k true).getD i false).length<(l.filter fun i=>!L.getD i false).length):=by
  intro l;induction l with
  | nil=>simp
  | cons x l ih=>
    simp only [List.filter_cons];by_cases hx:k=x
    ·subst hx;have h1:(L.setIfInBounds k true).getD k false=true:=(by simp [show k<L.size from hN ▸ hk]);rw [h1,hf];simp only [Bool.not_true,Bool.false_eq_true,if_false,Bool.not_false,if_true,List.length_cons];exact ⟨by omega,fun _=>by omega⟩
    rw [getD_set_ne false hx];split
    ·simp only [List.length_cons];refine ⟨by omega,fun hm=>?_⟩;have:=ih.2 ((List.mem_cons.1 hm).resolve_left hx);omega
    refine ⟨ih.1,fun hm=>ih.2 ((List.mem_cons.1 hm).resolve_left hx)⟩
 exact (key _).2 (List.mem_range.2 hk)
theorem PE {N:Nat} (h:pA N L=0):∀ i<N,L.getD i false=true:=by intro i hi;unfold pA at h;have:=List.eq_nil_of_length_eq_zero h;rw [List.filter_eq_nil_iff] at this;simpa using this i (List.mem_range.2 hi)
theorem Ft {i:Nat}:∀ {g:G},xo cl all i g=true->∀ e∈g,∀ j o,all[j]?=some o->o.dst=some e.1->Cl cl i j
 | [],_,e,he=>by cases he
 | (t,b,w)::g,h,e,he=>by
   simp only [xo,Bool.and_eq_true] at h;rcases List.mem_cons.1 he with rfl|he
   ·intro j o ho hd;have:=List.all_eq_true.1 h.1 (o,j) (by rw [List.mem_zipIdx_iff_getElem?];exact ho);unfold Cl;simpa [JB.2 hd] using this
   exact Ft h.2 e he
theorem PF {i:Nat}:∀ {l:List Nat},AQ cl i l=true->∀ j∈l,Cl cl j i
 | [],_,j,hj=>by cases hj
 | x::l,h,j,hj=>by
   unfold AQ at h;split at h
   ·rename_i hb;rcases List.mem_cons.1 hj with rfl|hj
    ·exact hb
    exact PF h j hj
   cases h
theorem PG {i:Nat}:∀ {l:List Nat},AR cl i l=true->∀ j∈l,Cl cl i j
 | [],_,j,hj=>by cases hj
 | x::l,h,j,hj=>by
   unfold AR at h;split at h
   ·rename_i hb;rcases List.mem_cons.1 hj with rfl|hj
    ·exact hb
    exact PG h j hj
   cases h
theorem mn.more {eh:List (Nat × Nat × G × AV)} (gm:∀ x∈ai,x∈eh) {k t:Nat} {x:Option (G × AV)} (h:mn all cl ai r k t x):mn all cl eh r k t x:=by
 rcases h with ⟨j,g,v,h1,h2,h3⟩|h
 ·exact .inl ⟨j,g,v,h1,gm _ h2,h3⟩
 exact .inr h
theorem Ab {d:Nat}:∀ {ai:List (Nat × Nat × G × AV)},oO (bT ai r) d=true->oO r d=true
 | [],h=>h
 | (i,t,g,v)::ai,h=>by have h:oO ((t,g,v)::bT ai r) d=true:=h;exact Ab (wo h).2
theorem gZ.enter {k:Nat} (hi:gZ n P all cl ord r kn (k::rest) nf ai h L) (hs:gr all cl ord) {o:Oper} (mo:all[k]?=some o) {eh:List (Nat × Nat × G × AV)} {qt:List Nat} {h':ab} {g:G} {v:AV}
  (JH:eh=match o.dst with|some d=>(k,d,g,v)::ai|none=>ai) (iP:∀ e∈g,∀ j o,all[j]?=some o->o.dst=some e.1->Cl cl k j)
  {L':Array Bool} (hL:L'=L\/L'=L.setIfInBounds k true/\∀ e∈o.after.toList,Region.binds .any e=true->L.getD e.on false=true)
  (Xe:∀ k'∈kn,L'.getD k' false=false->∃ o g v Rk,all[k']?=some o/\dG P all Rk h' (fun g' v'=>g'=g/\v'=v) o /\
    (∀ t∈ja all o,mn all cl ai r k' t (bj Rk t)) /\
    (∀ d,o.dst=some d->(k',d,g,v)∈ai/\d<n/\(∀ e∈g,e.1≠d)/\∀ t gg v,bj r t=some (gg,v)->∀ e∈gg,e.1≠d) /\
    (k' ∉ qt->∀ h',dG P all Rk h' (fun g' v'=>g'=g/\v'=v) o))
  (Ij:L'.getD k false=false->∃ o g v Rk,all[k]?=some o/\dG P all Rk h' (fun g' v'=>g'=g/\v'=v) o /\
    (∀ t∈ja all o,mn all cl eh r k t (bj Rk t)) /\
    (∀ d,o.dst=some d->(k,d,g,v)∈eh/\d<n/\(∀ e∈g,e.1≠d)/\∀ t gg v,bj r t=some (gg,v)->∀ e∈gg,e.1≠d) /\
    (k ∉ qt->∀ h',dG P all Rk h' (fun g' v'=>g'=g/\v'=v) o)) :
  gZ n P all cl ord r (kn++[k]) rest qt eh h' L':=by
 have jr:k ∉ kn:=by have:=hs.p3;rw [hi.split,List.nodup_append] at this;exact fun hm=>this.2.2 k hm k (by simp) rfl
 have gm:∀ x∈ai,x∈eh:=by
  intro x hx;rw [JH];split
  ·exact List.mem_cons_of_mem _ hx
  exact hx
 have cn:∀ x∈eh,x∈ai\/(∃ d,o.dst=some d/\x=(k,d,g,v)):=by
  intro x hx;rw [JH] at hx;split at hx
  ·rename_i d hd;rcases List.mem_cons.1 hx with rfl|hx
   ·exact .inr ⟨d,hd,rfl⟩
   exact .inl hx
  exact .inl hx
 refine ⟨by rw [hi.split];simp,?_,?_,?_,?_,?_,?_,?_,?_⟩
 ·rcases hL with rfl|⟨rfl,_⟩
  ·exact hi.kr
  simpa using hi.kr
 ·intro i dK;rcases hL with rfl|⟨rfl,_⟩
  ·exact List.mem_append_left _ (hi.qp i dK)
  rcases Aa dK with rfl|dK
  ·simp
  exact List.mem_append_left _ (hi.qp i dK)
 ·intro i dK;rcases hL with rfl|⟨rfl,he⟩
  ·exact hi.sF i dK
  rcases Aa dK with rfl|dK
  ·exact ⟨o,mo,fun e h1 h2=>getD_set_true (he e h1 h2)⟩
  obtain ⟨o',bD,hh⟩:=hi.sF i dK;exact ⟨o',bD,fun e h1 h2=>getD_set_true (hh e h1 h2)⟩
 ·intro x hx;rcases cn x hx with hx|⟨d,hd,rfl⟩
  ·obtain ⟨h1,h2⟩:=hi.gu x hx;exact ⟨List.mem_append_left _ h1,h2⟩
  exact ⟨by simp,o,mo,hd⟩
 ·intro x hx y hy e;rcases cn x hx with hx|⟨d,hd,rfl⟩<;>rcases cn y hy with hy|⟨d',cU,rfl⟩
  ·exact hi.yu x hx y hy e
  ·exact absurd (show k∈kn from (show x.1=k from e) ▸ (hi.gu x hx).1) jr
  ·exact absurd (show k∈kn from (show y.1=k from e.symm) ▸ (hi.gu y hy).1) jr
  rw [hd] at cU;cases cU;rfl
 ·intro k' bk o' d bD hd;rcases List.mem_append.1 bk with bk|bk
  ·obtain ⟨g',v',hm⟩:=hi.Cw k' bk o' d bD hd;exact ⟨g',v',gm _ hm⟩
  simp at bk;subst bk;rw [mo] at bD;cases bD
  refine ⟨g,v,?_⟩;rw [JH,hd];exact List.mem_cons_self
 ·intro x hx e he j o' bD cU;rcases cn x hx with hx|⟨d,hd,rfl⟩
  ·exact hi.path x hx e he j o' bD cU
  exact iP e he j o' bD cU
 intro k' bk hl;rcases List.mem_append.1 bk with bk|bk
 ·obtain ⟨o',g',v',Rk,h1,h2,h3,h4,h5⟩:=Xe k' bk hl;exact ⟨o',g',v',Rk,h1,h2,fun t ht=>(h3 t ht).more gm,fun d hd=>⟨gm _ (h4 d hd).1,(h4 d hd).2⟩,h5⟩
 simp at bk;subst bk;exact Ij hl
end Go.Abs
/-
 The abstract fB,part P: appending behind a token leaves every own object but tokens as it Q3.
-/
namespace Go.Abs
open Go
variable {P:Program} {r:aC} {h h':ab}
def Kept (h h':ab):Prop:=∀ b o,(b,o)∈h->o≠.tok->(b,o)∈h'
theorem Kept.cons (x:Nat × Ob):Kept h (x::h):=fun b o hm _=>List.mem_cons_of_mem _ hm
theorem Kept.PH {q q':Nat} (hu:cH q .tok q' .tok h h'):Kept h h':=by
 induction hu with
 | here h=>
   intro b o hm aI;rcases List.mem_cons.1 hm with e|hm
   ·cases e;exact absurd rfl aI
   exact List.mem_cons_of_mem _ hm
 | there hu ih=>
   intro b o hm aI;rcases List.mem_cons.1 hm with e|hm
   ·subst e;exact List.mem_cons_self
   exact List.mem_cons_of_mem _ (ih b o hm aI)
theorem Xf {g:G} {K:AV->Prop} {op:Op} (ho:reads op=true) (hk:Kept h h') (hq:bI P r g h K op):bI P r g h' K op:=by
 cases op<;>try (simp [reads] at ho;done)
 case load t y=>
  simp only [bI] at hq ⊢;split at hq
  ·exact hq
  ·obtain ⟨cs,l,h1,h2⟩:=hq;exact ⟨cs,l,hk _ _ h1 (by simp),h2⟩
  exact hq
 case lookup t x i ok=>
  revert hq;unfold bI;simp only;repeat' split
  all_goals first
   | exact fun hh=>hh
   | exact fun ⟨es,v,f,h1,h2⟩=>⟨es,v,f,hk _ _ h1 (by simp),h2⟩
theorem JI {all:List Oper} {cl:List Nat} {i:Nat}:∀ {nf:List Nat},yX cl all i nf=true->∀ j∈nf,Nat.testBit (kW cl i) j=true\/∃ o,all[j]?=some o/\reads o.op=true
 | [],_,j,hj=>by cases hj
 | k::nf,h,j,hj=>by
   unfold yX at h;split at h
   ·rename_i h1;rcases List.mem_cons.1 hj with rfl|hj
    ·exact .inl h1
    exact JI h j hj
   split at h<;>try contradiction
   rename_i o ho;split at h<;>try contradiction
   rename_i hr;rcases List.mem_cons.1 hj with rfl|hj
   ·exact .inr ⟨o,ho,hr⟩
   exact JI h j hj
theorem PI {K:AV->ab->Prop} {op:Op} (ha:calm r op=true) (hq:cz P r h K op):cz P r h (fun v h'=>K v h'/\Kept h h') op:=by
 unfold calm at ha;split at ha<;>try contradiction
 rename_i cl;split at ha<;>try contradiction
 rename_i cM;simp only [cz,cM] at hq ⊢;split at hq<;>try contradiction
 split at hq<;>try contradiction
 split at hq<;>try contradiction
 split at hq<;>try contradiction
 split at hq<;>try contradiction
 split at hq<;>try contradiction
 split at hq
 ·split at hq<;>try contradiction
  obtain ⟨eo,ys,h1,h2,h3,h4⟩:=hq;exact ⟨eo,ys,h1,h2,h3,fun q=>⟨h4 q,.cons _⟩⟩
 ·rename_i e;rw [e] at ha;simp at ha
 ·split at hq<;>try contradiction
  exact ⟨hq.1,fun q=>⟨hq.2 q,.cons _⟩⟩
 ·rename_i e;rw [e] at ha;simp at ha
 ·rename_i e;rw [e] at ha;simp at ha
 ·split at hq<;>try contradiction
  obtain ⟨cs,ys,h1,h2,h3,h4⟩:=hq;exact ⟨cs,ys,h1,h2,h3,fun q'=>let ⟨h',a,b⟩:=h4 q';⟨h',a,b,.PH a⟩⟩
 ·split at hq<;>try contradiction
  split at hq<;>try contradiction
  exact ⟨hq.1,fun q'=>let ⟨h',a,b⟩:=hq.2 q';⟨h',a,b,.PH a⟩⟩
 ·exact hq.elim
 split at hq<;>try contradiction
 split at hq<;>try contradiction
 split at hq<;>try contradiction
 split at hq<;>try contradiction
 split at hq<;>try contradiction
 split at hq<;>try contradiction
 rename_i e;rw [e] at ha;simp at ha
theorem Xg {K:AV->ab->Prop} {op:Op} {own jW:List Nat} {d:Option Nat} (ha:calm r op=true) (hq:gF P own jW d r h K op):gF P own jW d r h (fun v h'=>K v h'/\Kept h h') op:=by
 unfold gF at hq ⊢;split at hq
 ·rename_i cl d;split at hq
  ·skip;unfold ue at hq ⊢;revert hq;repeat' split
   all_goals first|exact fun hh=>hh.elim|exact fun hh=>⟨hh.1,fun b=>⟨hh.2 b,.cons _⟩⟩
  skip;exact PI ha hq
 ·simp [calm] at ha
 exact PI ha hq
end Go.Abs
/-
 The abstract fB,part Q: the law on drawn regions,its end.
-/
namespace Go.Abs
open Go
variable {P:Program} {n:Nat} {X:Nat->Prop} {g0:Gh} {r:aC} {h:ab} {a:Act} {w:World}
variable {all:List Oper} {cl:List Nat} {ord:List Nat}
variable {kn rest nf:List Nat} {ai:List (Nat × Nat × G × AV)} {L:Array Bool}
theorem ay.mono {f:FuncId} {args:List AV} {R R':AV->ab->Prop} (hk:∀ v h',R v h'->R' v h') (hf:ay P f args h R):ay P f args h R':=
 hf.post fun v h1 hR=>⟨v,h1,hk v h1 hR,ag.refl _,fun _ _ hm=>hm,fun hn=>hn⟩
theorem yw {K K':AV->ab->Prop} {op:Op} (hk:∀ v h',K v h'->K' v h') (hq:cz P r h K op):cz P r h K' op:=by
 revert hq;unfold cz;repeat' split
 all_goals first
  | exact fun hh=>hh.elim
  | exact fun hh=>hk _ _ hh
  | exact fun hh b=>hk _ _ (hh b)
  | exact ay.mono hk
  | exact fun ⟨cs,h',h1,h2,h3⟩=>⟨cs,h',h1,h2,hk _ _ h3⟩
  | exact fun ⟨es,h1,h2⟩=>⟨es,h1,fun bs cl hb=>let ⟨h',a,b⟩:=h2 bs cl hb;⟨h',a,fun it=>hk _ _ (b it)⟩⟩
  | exact fun ⟨m,cl,seen,es,bs,h1,h2,h3,h4⟩=>⟨m,cl,seen,es,bs,h1,h2,fun hb=>hk _ _ (h3 hb),fun i b e a1 a2 a3=>let ⟨h',a,b⟩:=h4 i b e a1 a2 a3;⟨h',a,hk _ _ b⟩⟩
  | exact fun ⟨m,cl,seen,es,bs,h1,h2,i,b,e,s0,a1,a2,a3,a4⟩=>⟨m,cl,seen,es,bs,h1,h2,i,b,e,s0,a1,a2,a3,hk _ _ a4⟩
  | exact fun ⟨eo,ys,h1,h2,cs,h',a1,a2,a3⟩=>⟨eo,ys,h1,h2,cs,h',a1,a2,hk _ _ a3⟩
  | exact fun ⟨cs,ys,h1,h2,h3,h4⟩=>⟨cs,ys,h1,h2,h3,fun q'=>let ⟨h',a,b⟩:=h4 q';⟨h',a,hk _ _ b⟩⟩
  | exact fun ⟨s,pos,h1,h2,h3⟩=>⟨s,pos,h1,fun hb=>hk _ _ (h2 hb),fun hb=>let ⟨h',a,b⟩:=h3 hb;⟨h',a,hk _ _ b⟩⟩
  | exact fun hh=>⟨hh.1,fun b=>hk _ _ (hh.2 b)⟩
  | exact fun ⟨eo,ys,h1,h2,h3,h4⟩=>⟨eo,ys,h1,h2,h3,fun b=>hk _ _ (h4 b)⟩
  | exact fun ⟨cs,h1,h2,h3⟩=>⟨cs,h1,h2,fun b=>hk _ _ (h3 b)⟩
  | exact fun ⟨eo,ys,h1,h2,h3,cs,h4,h5⟩=>⟨eo,ys,h1,h2,h3,cs,h4,h5.elim (fun ⟨a,b,h',c,d⟩=>.inl ⟨a,b,h',c,hk _ _ d⟩) (fun ⟨a,b,c⟩=>.inr ⟨a,b,fun q=>hk _ _ (c q)⟩)⟩
  | exact fun ⟨cs,h1,h2,h3⟩=>⟨cs,h1,h2,fun b'=>let ⟨h',a,b⟩:=h3 b';⟨h',a,hk _ _ b⟩⟩
  | exact fun hh=>⟨hh.1,fun q'=>let ⟨h',h1,h2⟩:=hh.2 q';⟨h',h1,hk _ _ h2⟩⟩
theorem Xh {K K':AV->ab->Prop} {cl:Call} (hk:∀ v h',K v h'->K' v h') (hq:ue P r h K cl):ue P r h K' cl:=by
 revert hq;unfold ue;repeat' split
 all_goals first
  | exact fun hh=>hh.elim
  | exact fun hh=>⟨hh.1,fun b=>hk _ _ (hh.2 b)⟩
theorem Xi {K K':AV->ab->Prop} {t:TypeId} {m:Nat} {parts:Array (Nat × Operand)} (hk:∀ v h',K v h'->K' v h') (hq:uf P r h K t m parts):uf P r h K' t m parts:=by
 revert hq;unfold uf;repeat' split
 all_goals first
  | exact fun hh=>hh.elim
  | exact fun hh b=>hk _ _ (hh b)
theorem ri {K K':AV->ab->Prop} {own jW:List Nat} {d:Option Nat} {op:Op} (hk:∀ v h',K v h'->K' v h') (hq:gF P own jW d r h K op):gF P own jW d r h K' op:=by
 revert hq;unfold gF;split
 ·split
  ·exact Xh hk
  exact yw hk
 ·split
  ·exact Xi hk
  exact yw hk
 exact yw hk
theorem PJ {ai:List (Nat × Nat × G × AV)} (h:∀ x∈ai,L.getD x.1 false=true):dq L ai=ai:=by unfold dq;rw [List.filter_eq_self];exact h
theorem JJ {k:Nat} {Q:Exit->Act->World->Prop} {next:Act->World->Prop} (hi:gZ n P all cl ord r kn rest nf ai h L) (hs:gr all cl ord) (hk:k∈kn) (dX:L.getD k false=false)
  (he:∀ o,all[k]?=some o->∀ e∈o.after.toList,Region.binds .any e=true->L.getD e.on false=true) (hc:bK n X g0 (bT (dq L ai) r) h a w)
  (hn:∀ g' a' w',bK n X g' (bT (dq (L.setIfInBounds k true) ai) r) h a' w'->Step X g0 h w g' h w'->next a' w'):wpOp P all.toArray Q k next a w:=by
 obtain ⟨o,g,v,Rk,h1,h2,h3,h4,h5⟩:=hi.fact k hk dX;have aL:k<L.size:=by rw [hi.kr];exact (List.getElem?_eq_some_iff.1 h1).1
 have sG:∀ j,Cl cl k j->L.getD j false=true:=by
  intro j hj
  have:=(sE hs (S:=fun i=>L.getD i false=true\/i=k) (fun i hS=>by
   rcases hS with hS|rfl
   ·obtain ⟨o',bD,hh⟩:=hi.sF i hS;exact ⟨o',bD,fun e a b=>.inl (hh e a b)⟩
   exact ⟨o,h1,fun e a b=>.inl (he o h1 e a b)⟩) k (.inr rfl) j hj)
  rcases this.1 with h|rfl
  ·exact h
  exact absurd this.2 (Nat.lt_irrefl _)
 have wK:∀ j,Cl cl k j->Cl cl j k->False:=fun j a b=>by have:=(hi.qq hs hk a).2;have:=(hi.qq hs (hi.qq hs hk a).1 b).2;omega
 have qw:∀ t∈ja all o,bj Rk t=bj (bT (dq L ai) r) t:=by
  intro t ht;refine JC hi hs (h3 t ht) (yv hi hs h1 (fun x hx=>(pz.1 hx).1) ?_ ?_ t ht) wK
  ·intro j hj;exact ⟨hi.qp j (sG j hj),fun x hx CB=>pz.2 ⟨hx,by rw [CB];exact sG j hj⟩⟩
  intro x hx jD;have iS:=(pz.1 hx).2;have:=(sE hs (S:=fun i=>L.getD i false=true) (fun i hS=>hi.sF i hS) x.1 iS k jD).1;rw [dX] at this;cases this
 refine Xa (WZ qw h2) hc (by simpa using h1) ?_;intro g' u w' dw aA Xj Xk;have wG:=Xb (r:=r) hi hs hk h1 dX aL (g:=g) (v:=v) (fun d hd=>(h4 d hd).1);cases hd:o.dst with
 | none=>
   rw [hd] at wG;refine hn g' _ w' (bK.less ?_ wG) aA;simpa [Act.put] using hc.step dw aA
 | some d=>
   rw [hd] at wG;obtain ⟨q1,q2,q3,q4⟩:=h4 d hd;refine hn g' _ w' (bK.less ?_ wG) aA;refine hc.JE dw aA q2 q3 ?_ Xj Xk;intro t gg vv hl e ra wL;rcases JF hl with ⟨x,hx,ex⟩|hl
   ·obtain ⟨hx,iS⟩:=pz.1 hx;have jD:=hi.path x hx e (by rw [ex];exact ra) k o h1 (wL ▸ hd);have:=(sE hs (S:=fun i=>L.getD i false=true) (fun i hS=>hi.sF i hS) x.1 iS k jD).1;rw [dX] at this;cases this
   exact q4 t gg vv hl e ra wL
theorem JK {c:aw} {K:aC->ab->Prop} {Q:Exit->Act->World->Prop} (hs:gr all cl ord):∀ (fuel:Nat) (rest kn nf:List Nat) (ai:List (Nat × Nat × G × AV)) (h:ab) (L:Array Bool) (g0:Gh) (a:Act) (w:World),
  gZ n P all cl ord r kn rest nf ai h L->rF P c n all cl K rest nf (bT ai r) h->bK n X g0 (bT (dq L ai) r) h a w->pA all.length L<=fuel ->
  (∀ r' h' g' a' w',K r' h'->bK n X g' r' h' a' w'->Step X g0 h w g' h' w'->Q .normal a' w')->wpAny P .any all.toArray Q fuel L a w:=by
 intro fuel;induction fuel with
 | zero=>
   intro rest kn nf ai h L g0 a w hi hr hc hu hf;have wF:=PE (Nat.le_zero.1 hu)
   have Xl:rest=[]:=by
    cases rest with
    | nil=>rfl
    | cons x rest=>
      have hx:x∈ord:=by rw [hi.split];simp
      obtain ⟨aL,_⟩:=hi.lt hs hx;have h1:=hi.qp x (wF x (by rw [<- hi.kr];exact aL));have:=hs.p3;rw [hi.split,List.nodup_append] at this;exact absurd rfl (this.2.2 x h1 x (by simp))
   subst Xl
   have hE:dq L ai=ai:=PJ fun x hx=>wF x.1 (by
    have hm:x.1∈ord:=by rw [hi.split];exact List.mem_append_left _ (hi.gu x hx).1
    rw [<- hi.kr];exact (hi.lt hs hm).1)
   refine ⟨?_,?_⟩
   ·apply List.eq_nil_iff_forall_not_mem.2;intro i hm;rw [mem_ready] at hm;obtain ⟨h1,o,ho,_⟩:=hm;have aL:i<all.length:=by have:=(Array.getElem?_eq_some_iff.1 ho).1;simpa using this
    have:=wF i aL;rw [Cz (by rw [hi.kr];exact aL),this] at h1;cases h1
   rw [hE] at hc;exact hf _ h g0 a w hr hc (Step.refl _ _ _ _)
 | succ fuel IH=>
   intro rest;induction rest with
   | nil=>
     intro kn nf ai h L g0 a w hi hr hc hu hf;refine ⟨fun CC=>?_,fun i hm=>?_⟩
     ·have wF:=JG hi hs CC;have hE:dq L ai=ai:=PJ fun x hx=>wF x.1 (by rw [hi.split];exact List.mem_append_left _ (hi.gu x hx).1);rw [hE] at hc;exact hf _ h g0 a w hr hc (Step.refl _ _ _ _)
     obtain ⟨m1,o,ho,m2⟩:=mem_ready.1 hm;have bD:all[i]?=some o:=(by simpa using ho);have aL:i<all.length:=(List.getElem?_eq_some_iff.1 bD).1;have oR:i∈kn:=by have:=hs.p2 i aL;rw [hi.split] at this;simpa using this
     have kc:L.getD i false=false:=by rw [<- Cz (by rw [hi.kr];exact aL)];exact m1
     have he:∀ e∈o.after.toList,Region.binds .any e=true->L.getD e.on false=true:=fun e he hb=>m2 e (by simpa using he) hb;refine JJ hi hs oR kc (fun o2 cr=>by rw [bD] at cr;cases cr;exact he) hc ?_;intro g' a' w' bQ aA
     exact IH [] kn nf ai h _ g' a' w' (hi.list oR bD he) hr bQ (by have:=CA aL hi.kr.symm kc;omega)
      (fun r2 h2 g2 a2 w2 hK cJ mJ=>hf r2 h2 g2 a2 w2 hK cJ (aA.trans hc.cw.own mJ))
   | cons k rest wM=>
     intro kn nf ai h L g0 a w hi hr hc hu hf;have CD:=hr;have mo:k∈ord:=by rw [hi.split];simp
     have jr:k ∉ kn:=by have:=hs.p3;rw [hi.split,List.nodup_append] at this;exact fun hm=>this.2.2 k hm k (by simp) rfl
     obtain ⟨aL,o,ho⟩:=hi.lt hs mo
     have dX:L.getD k false=false:=by
      cases hb:L.getD k false with
      | false=>rfl
      | true=>exact absurd (hi.qp k hb) jr
     -- xd k reads,in the Q4 of all that Q5 gone through
     have rQ:∀ e∈o.after.toList,Region.binds .any e=true->e.on∈kn:=by obtain ⟨o2,cr,hh⟩:=hs.p4 kn k rest hi.split;rw [ho] at cr;cases cr;exact hh
     have sH:∀ j,Cl cl k j->j∈kn:=by
      intro j hj
      have:=(sE hs (S:=fun i=>i∈kn\/i=k) (fun i hS=>by
       rcases hS with hS|rfl
       ·obtain ⟨o',bD,hh⟩:=hi.Cy hs i hS;exact ⟨o',bD,fun e a b=>.inl (hh e a b)⟩
       exact ⟨o,ho,fun e a b=>.inl (rQ e a b)⟩) k (.inr rfl) j hj)
      rcases this.1 with h|rfl
      ·exact h
      exact absurd this.2 (Nat.lt_irrefl _)
     have qw:∀ t∈ja all o,mn all cl ai r k t (bj (bT ai r) t):=by intro t ht;refine yv hi hs ho (fun x hx=>hx) (fun j hj=>⟨sH j hj,fun x hx _=>hx⟩) ?_ t ht;intro x hx jD;exact jr (hi.qq hs (hi.gu x hx).1 jD).1
     unfold rF at hr;rw [ho] at hr;simp only at hr;split at hr
     ·-- a vI one
      split at hr<;>try contradiction
      rename_i gC;split at hr<;>try contradiction
      rename_i CE;split at hr<;>try contradiction
      rename_i CF;have CE:=PF CE;refine ⟨fun CC=>?_,fun i hm=>?_⟩
      ·have:=JG hi hs CC k mo;rw [dX] at this;cases this
      obtain ⟨m1,oi,yx,m2⟩:=mem_ready.1 hm;have qx:all[i]?=some oi:=(by simpa using yx);have nI:i<all.length:=(List.getElem?_eq_some_iff.1 qx).1;have kc:L.getD i false=false:=by rw [<- Cz (by rw [hi.kr];exact nI)];exact m1
      have he:∀ e∈oi.after.toList,Region.binds .any e=true->L.getD e.on false=true:=fun e he hb=>m2 e (by simpa using he) hb
      have sG:∀ j,Cl cl i j->L.getD j false=true:=by
       intro j hj
       have:=(sE hs (S:=fun x=>L.getD x false=true\/x=i) (fun x hS=>by
        rcases hS with hS|rfl
        ·obtain ⟨o',bD,hh⟩:=hi.sF x hS;exact ⟨o',bD,fun e a b=>.inl (hh e a b)⟩
        exact ⟨oi,qx,fun e a b=>.inl (he e a b)⟩) i (.inr rfl) j hj)
       rcases this.1 with h|rfl
       ·exact h
       exact absurd this.2 (Nat.lt_irrefl _)
      have cn:i∈kn\/i=k\/i∈rest:=by have:=hs.p2 i nI;rw [hi.split] at this;simpa using this
      rcases cn with oR|rfl|JL
      ·refine JJ hi hs oR kc (fun o2 cr=>by rw [qx] at cr;cases cr;exact he) hc ?_;intro g' a' w' bQ aA
       exact IH (k::rest) kn nf ai h _ g' a' w' (hi.list oR qx he) CD bQ (by have:=CA nI hi.kr.symm kc;omega)
        (fun r2 h2 g2 a2 w2 hK cJ mJ=>hf r2 h2 g2 a2 w2 hK cJ (aA.trans hc.cw.own mJ))
      ·rw [ho] at qx;cases qx
       unfold wpOp;simp only [yx,EI gC,if_true];left;have wK:∀ j,Cl cl i j->Cl cl j i->False:=fun j a b=>jr (hi.qq hs (sH j a) b).1
       have JM:∀ t∈qH o.op.operands.toList,bj (bT ai r) t=bj (bT (dq L ai) r) t:=by
        intro t ht;have CG:t∈ja all o:=by unfold ja;exact List.mem_append_right _ ht
        refine JC hi hs (qw t CG) (yv hi hs ho (fun x hx=>(pz.1 hx).1) ?_ ?_ t CG) wK
        ·intro j hj;exact ⟨sH j hj,fun x hx CB=>pz.2 ⟨hx,by rw [CB];exact sG j hj⟩⟩
        intro x hx jD;exact jr (hi.qq hs (hi.gu x (pz.1 hx).1).1 jD).1
       -- the heap behind it
       have uS:gF P c.own c.lc o.dst (bT (dq L ai) r) h (fun v h'=>(fN n o.dst [] v (bT ai r) fun r'=>rF P c n all cl K rest nf r' h')/\(rE o.op=true->∃ x,h'=x::h)/\(calm (bT ai r) o.op=true->Kept h h')) o.op:=by
        have CD:gF P c.own c.lc o.dst (bT ai r) h (fun v h'=>(fN n o.dst [] v (bT ai r) fun r'=>rF P c n all cl K rest nf r' h')/\(calm (bT ai r) o.op=true->Kept h h')) o.op:=by
         by_cases gl:calm (bT ai r) o.op=true
         ·exact ri (fun v h' hh=>⟨hh.1,fun _=>hh.2⟩) (Xg gl hr)
         exact ri (fun v h' hh=>⟨hh,fun hy=>absurd hy gl⟩) hr
        have tP:=Px JM CD;by_cases ji:rE o.op=true
        ·have:=WY ji tP;exact ri (fun v h' hh=>⟨hh.1.1,fun _=>hh.2,hh.1.2⟩) this
        exact ri (fun v h' hh=>⟨hh.1,fun hy=>absurd hy ji,hh.2⟩) tP
       refine IB uS hc ?_;rintro v h' g' u w' ⟨iA,hx,Xm⟩ dw cG aA
       have CH:∀ k'∈kn,(L.setIfInBounds i true).getD k' false=false->∃ o g v Rk,all[k']?=some o/\dG P all Rk h' (fun g' v'=>g'=g/\v'=v) o /\
         (∀ t∈ja all o,mn all cl ai r k' t (bj Rk t)) /\
         (∀ d,o.dst=some d->(k',d,g,v)∈ai/\d<n/\(∀ e∈g,e.1≠d)/\∀ t gg v,bj r t=some (gg,v)->∀ e∈gg,e.1≠d) /\
         (k' ∉ nf->∀ h',dG P all Rk h' (fun g' v'=>g'=g/\v'=v) o):=by
        intro k' bk fp
        have hl:L.getD k' false=false:=by
         cases hb:L.getD k' false with
         | false=>rfl
         | true=>rw [getD_set_true hb] at fp;cases fp
        obtain ⟨o',g2,v2,Rk,q1,q2,q3,q4,q5⟩:=hi.fact k' bk hl;refine ⟨o',g2,v2,Rk,q1,?_,q3,q4,q5⟩;by_cases ji:rE o.op=true
        ·obtain ⟨x,rfl⟩:=hx ji;exact Jx (fun g K hh=>Pw hh) q2
        simp only [ji] at CF;by_cases gl:calm (bT ai r) o.op=true
        ·simp only [gl] at CF;by_cases CI:k'∈nf
         ·rcases JI CF k' CI with h1|⟨o2,h1,h2⟩
          ·have:=sG k' h1;rw [hl] at this;cases this
          rw [q1] at h1;cases h1
          exact Jx (fun g K hh=>Xf h2 (Xm gl) hh) q2
         exact q5 CI h'
        simp only [gl] at CF;by_cases CI:k'∈nf
        ·have:=sG k' (PG CF k' CI);rw [hl] at this;cases this
        exact q5 CI h'
       have CJ:∀ {p:Prop},(L.setIfInBounds i true).getD i false=false->p:=by intro p hh;have:(L.setIfInBounds i true).getD i false=true:=(by simp [aL]);rw [this] at hh;cases hh
       have zB:∀ r2 h2 g2 a2 w2,K r2 h2->bK n X g2 r2 h2 a2 w2->Step X g' h' w' g2 h2 w2->Q .normal a2 w2:=
        fun r2 h2 g2 a2 w2 hK cJ mJ=>hf r2 h2 g2 a2 w2 hK cJ (aA.trans hc.cw.own mJ)
       have yr:pA all.length (L.setIfInBounds i true)<=fuel:=by have:=CA nI hi.kr.symm kc;omega
       cases hd:o.dst with
       | none=>
         rw [hd] at iA;have dH:=hi.enter (n:=n) (P:=P) (g:=[]) (v:=v) (eh:=ai) (qt:=nf) (h':=h') (L':=L.setIfInBounds i true) hs ho (by rw [hd]) (by simp) (.inr ⟨rfl,he⟩) CH CJ;refine IH rest _ nf ai h' _ g' _ w' dH iA ?_ yr zB;have hE:dq (L.setIfInBounds i true) ai=dq L ai:=by unfold dq;refine List.filter_congr fun x hx=>?_;exact getD_set_ne false (fun e=>jr (e ▸ (hi.gu x hx).1))
         rw [hE];simpa [Act.put] using hc.step dw aA
       | some d=>
         rw [hd] at iA;unfold fN at iA;simp only at iA;split at iA<;>try contradiction
         rename_i pB;rw [Nat.blt_eq] at pB;split at iA<;>try contradiction
         rename_i qf;have ql:=Ab (wo qf).2;have dH:=hi.enter (n:=n) (P:=P) (g:=[]) (v:=v) (eh:=(i,d,[],v)::ai) (qt:=nf) (h':=h') (L':=L.setIfInBounds i true) hs ho (by rw [hd]) (by simp) (.inr ⟨rfl,he⟩) CH CJ;refine IH rest _ nf ((i,d,[],v)::ai) h' _ g' _ w' dH iA ?_ yr zB;have hE:dq (L.setIfInBounds i true) ((i,d,[],v)::ai)=(i,d,[],v)::dq L ai:=by unfold dq;have h1:(L.setIfInBounds i true).getD i false=true:=(by simp [aL]);rw [List.filter_cons,if_pos h1];congr 1;refine List.filter_congr fun x hx=>?_;exact getD_set_ne false (fun e=>jr (e ▸ (hi.gu x hx).1))
         rw [hE];show bK n X g' ((d,[],v)::bT (dq L ai) r) h' (a.put (some d) u) w';refine hc.JE dw aA pB (by simp) ?_ (fun _=>⟨by simp,cG⟩) (fun hh=>absurd (fun e he=>by cases he) hh);intro t gg vv hl e ra wL;rcases JF hl with ⟨x,hx,ex⟩|hl
         ·obtain ⟨hx,iS⟩:=pz.1 hx;have jD:=hi.path x hx e (by rw [ex];exact ra) i o ho (wL ▸ hd);exact jr (hi.qq hs (hi.gu x hx).1 jD).1
         exact yj ql hl e ra wL
      have:=sG k (CE i JL);rw [dX] at this;cases this
     -- a quiet one: gone through,not Q6 carried out
     obtain ⟨g,v,fY,hE⟩:=Jw hr;split at fY<;>try contradiction
     rename_i iP;have iP:=Ft iP;obtain ⟨js,pC⟩:∃ js,js=(match qI (bT ai r) g o.op with|true=>nf|false=>k::nf):=⟨_,rfl⟩
     have wN:k ∉ js->∀ h',dG P all (bT ai r) h' (fun g' v'=>g'=g/\v'=v) o:=by
      intro bk h';rw [pC] at bk;split at bk
      ·rename_i CK;exact Jy CK hE
      simp at bk
     have CL:∀ x∈nf,x∈js:=by
      intro x hx;rw [pC];split
      ·exact hx
      exact List.mem_cons_of_mem _ hx
     have hold:∀ k'∈kn,L.getD k' false=false->∃ o g v Rk,all[k']?=some o/\dG P all Rk h (fun g' v'=>g'=g/\v'=v) o /\
         (∀ t∈ja all o,mn all cl ai r k' t (bj Rk t)) /\
         (∀ d,o.dst=some d->(k',d,g,v)∈ai/\d<n/\(∀ e∈g,e.1≠d)/\∀ t gg v,bj r t=some (gg,v)->∀ e∈gg,e.1≠d) /\
         (k' ∉ js->∀ h',dG P all Rk h' (fun g' v'=>g'=g/\v'=v) o):=by
      intro k' bk fp;obtain ⟨o',g2,v2,Rk,q1,q2,q3,q4,q5⟩:=hi.fact k' bk fp;exact ⟨o',g2,v2,Rk,q1,q2,q3,q4,fun hh=>q5 fun hm=>hh (CL _ hm)⟩
     cases hd:o.dst with
     | none=>
       rw [hd] at fY
       have dH:=hi.enter (n:=n) (P:=P) (g:=g) (v:=v) (eh:=ai) (qt:=js) (h':=h) (L':=L) hs ho (by rw [hd]) iP (.inl rfl) hold
        (fun _=>⟨o,g,v,bT ai r,ho,hE,qw,fun d cU=>(by rw [hd] at cU;cases cU),wN⟩)
       exact wM _ _ ai h L g0 a w dH (by rw [pC];exact fY) hc hu hf
     | some d=>
       rw [hd] at fY;unfold fN at fY;simp only at fY;split at fY<;>try contradiction
       rename_i pB;rw [Nat.blt_eq] at pB;split at fY<;>try contradiction
       rename_i qf;obtain ⟨jh,dx⟩:=wo qf;have ql:=Ab dx
       have dH:=hi.enter (n:=n) (P:=P) (g:=g) (v:=v) (eh:=(k,d,g,v)::ai) (qt:=js) (h':=h) (L':=L) hs ho (by rw [hd]) iP (.inl rfl) hold
        (fun _=>⟨o,g,v,bT ai r,ho,hE,fun t ht=>(qw t ht).more (fun x hx=>List.mem_cons_of_mem _ hx),
          fun d' cU=>(by rw [hd] at cU;cases cU;exact ⟨List.mem_cons_self,pB,jh,fun t gg vv hl=>yj ql hl⟩),wN⟩)
       refine wM _ _ ((k,d,g,v)::ai) h L g0 a w dH (by rw [pC];exact fY) ?_ hu hf;have hE:dq L ((k,d,g,v)::ai)=dq L ai:=by unfold dq;rw [List.filter_cons,if_neg (by simp only [dX];exact Bool.false_ne_true)]
       rw [hE];exact hc
end Go.Abs
/-
 The abstract fB,part R: the AN LZ xd the code does;loops;functions.
-/
namespace Go.Abs
open Go
variable {P:Program} {n:Nat} {X:Nat->Prop} {g0:Gh} {r:aC} {h:ab} {a:Act} {w:World}
theorem Xn {l1 l2:ab} {b d:Nat} {cs:List AV} (hc:bK n X g0 r (l1++(b,.vec cs)::l2) a w) (hl:bj r d=some ([],.bn b 0)) :
  bK n X g0 ((d,[],.au cs)::r) (l1++l2) a w/\Step X g0 (l1++(b,.vec cs)::l2) w g0 (l1++l2) w:=by
 have ck:cZ a []:=fun e he=>by cases he
 obtain ⟨s1,s2⟩:=hc.cw.sub (h':=l1++l2) (by
   intro k o hm;simp only [List.mem_append,List.mem_cons] at hm ⊢;rcases hm with h|h
   ·exact .inl h
   ·exact .inr (.inr h)) (by
   have:=hc.cw.nodup;rw [tI] at this;simp only [keys,List.map_append,List.nodup_append,List.nodup_cons,List.mem_cons] at this ⊢;exact ⟨this.1,this.2.1.2,fun x hx y hy=>this.2.2 x hx y (.inr hy)⟩)
 refine ⟨⟨s1,?_,hc.defers,hc.size⟩,s2⟩;have cJ:=hc.step s1 s2;have BX:=hc.cw.sj;have BY:=hc.cw.sep b (by rw [iQ];exact .inl rfl);have jm:=hc.cw.obj b (.vec cs) (by simp);intro t gg v' fp;rw [qo] at fp;split at fp
 ·rename_i ht;subst ht;cases fp
  refine ⟨fun _=>⟨by simp,?_⟩,fun hh=>absurd ck hh⟩;obtain ⟨_,u,uQ,gf⟩:=(hc.kX _ _ _ hl).1 ck;rw [aa] at gf;obtain ⟨p,q1,q2,q3⟩:=gf;refine ⟨u,uQ,?_⟩;rw [aa];refine ⟨p.block,p.off+0,q3,?_⟩;obtain ⟨pp,rz,t2,h1,h2,h3,h4,h5,h6⟩:=jm;simp only at h1 h3 h4 q1;rw [q1] at h1;cases h1
  have key:∀ (l':List AV) (o:Nat),(∀ i x,l'[i]?=some x->∃ u,rz[p.off+(o+i)]?=some u/\u.oneCell'=true/\aa ⟨g0,live X (l1++(b,.vec cs)::l2),w⟩ x u) ->
    bz ⟨g0,live X (l1++l2),w⟩ l' p.block (p.off+o):=by
   intro l';induction l' with
   | nil=>intro o _;simp [bz]
   | cons x l' ih=>
     intro o hh;simp only [bz];obtain ⟨u,e1,e2,e3⟩:=hh 0 x (by simp);refine ⟨⟨u,?_,e2,?_,aa.mono (Step.le s2) _ _ e3⟩,?_⟩
     ·rw [cell_of_row _ p.block _ rz t2 _ h4];simpa using e1
     ·intro k s hk wq;simp only at hk;rw [h3] at hk;cases hk
      rcases wq with hx|hk
      ·exact absurd hx BY
      exact absurd hk BX
     rw [show p.off+o+1=p.off+(o+1) from rfl];refine ih (o+1) (fun i x hx=>?_);have:=hh (i+1) x (by simpa using hx);rwa [show o+(i+1)=o+1+i from by omega] at this
  exact key cs 0 (fun i x hx=>by simpa using h6 i x hx)
 exact cJ.kX t gg v' fp
theorem JN {K:aC->ab->Prop}:∀ {ds:List Nat} {r:aC} {h:ab} {w:World},sZ K ds r h->bK n X g0 r h a w->∃ r' h',K r' h'/\bK n X g0 r' h' a w/\Step X g0 h w g0 h' w
 | [],r,h,w,hk,hc=>⟨r,h,hk,hc,Step.refl _ _ _ _⟩
 | d::ds,r,h,w,hk,hc=>by
   unfold sZ at hk;split at hk<;>try contradiction
   rename_i b hl;obtain ⟨cs,h',hu,hk⟩:=hk;obtain ⟨l1,l2,rfl,rfl⟩:=aK.split hu;obtain ⟨c1,s1⟩:=Xn hc hl;obtain ⟨r2,h2,k1,k2,k3⟩:=JN hk c1;exact ⟨r2,h2,k1,k2,s1.trans hc.cw.own k3⟩
theorem yy {c:aw} (hm:P.follows .mixedOrders=true):∀ (code:Code) {Q:Ex->aC->ab->Prop} {r:aC} {h:ab},cw P c n X code Q r h->Holds P n X code Q r h:=by
 intro code;induction code with
 | skip=>intro Q r h hh;refine ⟨fun g a w hc=>?_⟩;exact wp_skip ⟨.normal,g,r,h,rfl,hh,hc,Step.refl _ _ _ _⟩
 | region id ops draw=>
   intro Q r h hh;cases draw with
   | true=>
     have hh:(match AS c.Dx id with
      | some (ord,fz)=>aJ ops.toList ord=true /\
         rF P c n ops.toList (iZ ops.toList []) (fun r' h'=>sZ (fun rG pS=>oP rG (fun r3=>Q .normal r3 pS) c.mw) fz r' h') ord [] r h
      | none=>Holds P n X (.region id ops true) Q r h):=hh
     split at hh
     ·rename_i ord fz oa;obtain ⟨bf,uP⟩:=hh;refine ⟨fun g a w hc=>?_⟩;refine wp_region_any hm ?_;obtain ⟨dc,ds⟩:=hc.cw.drew;have hs:=PA bf;have bQ:bK n X g r h a w.drew:=hc.step dc ds
      have hi:gZ n P ops.toList (iZ ops.toList []) ord r [] ord [] [] h (Array.replicate ops.size false):=by
       have cG:∀ i,(Array.replicate ops.size false).getD i false=false:=by intro i;by_cases hi:i<ops.size<;>simp [hi]
       refine ⟨rfl,by simp,?_,?_,by simp,by simp,by simp,by simp,by simp⟩
       ·intro i hL;rw [cG i] at hL;cases hL
       intro i hL;rw [cG i] at hL;cases hL
      have:=JK (n:=n) (X:=X) (r:=r) (c:=c) (Q:=fun e a' w'=>∃ ex g' r' h',e=Ex.toExit ex/\Q ex r' h'/\bK n X g' r' h' a' w'/\Step X g h w g' h' w') hs ops.size ord [] [] [] h
       (Array.replicate ops.size false) g a w.drew hi uP bQ (by unfold pA;exact Nat.le_trans (List.length_filter_le _ _) (by simp)) (by
         intro r' h' g' a' w' hK cJ aA;obtain ⟨r2,h2,hK,Ac,CM⟩:=JN hK cJ;obtain ⟨r3,hK,hl⟩:=zJ (k:=fun r3=>Q .normal r3 h2) hK;exact ⟨.normal,g',r3,h2,rfl,hK,Ac.less hl,ds.trans hc.cw.own (aA.trans bQ.cw.own CM)⟩)
      exact this
     exact hh
   | false=>
     refine ⟨fun g a w hc=>?_⟩;have hh:kV P c n ops.toList (Q .normal) ops.toList r h:=hh;refine wp_region ?_
     have:=Ol (Q:=fun e a' w'=>∃ ex g' r' h',e=Ex.toExit ex/\Q ex r' h'/\bK n X g' r' h' a' w'/\Step X g h w g' h' w') ops.toList 0 r h g a w (fun j=>by simp) hh hc
      (fun r' h' g' a' w' hK bQ aA=>⟨.normal,g',r',h',rfl,hK,bQ,aA⟩)
     simpa [List.range_eq_range'] using this
 | seq x y Xo Xp=>
   intro Q r h hh;refine ⟨fun g a w hc=>?_⟩;refine wp_seq (wp_mono ((Xo hh).holds g a w hc) ?_);rintro e a' w' ⟨ex,g',r',h',rfl,hQ,bQ,aA⟩;cases ex with
   | normal=>
     refine wp_mono ((Xp hQ).holds g' a' w' bQ) ?_;rintro e a2 w2 ⟨ex,g2,r2,h2,rfl,hQ,cJ,mJ⟩;exact ⟨ex,g2,r2,h2,rfl,hQ,cJ,aA.trans hc.cw.own mJ⟩
   | exit i=>exact ⟨.exit i,g',r',h',rfl,hQ,bQ,aA⟩
   | ret=>exact ⟨.ret,g',r',h',rfl,hQ,bQ,aA⟩
 | cond x t f wO sI=>
   intro Q r h hh;refine ⟨fun g a w hc=>?_⟩;simp only [cw] at hh;split at hh<;>try contradiction
   rename_i b hx;have hr:=hc.aM (g:=[]) (fun e he=>by cases he) hx;rw [aa] at hr;refine wp_cond_split hr (fun hb=>(wO (hh.1 hb)).holds g a w hc) (fun hb=>(sI (hh.2 hb)).holds g a w hc)
 | block id x ih=>
   intro Q r h hh;refine ⟨fun g a w hc=>?_⟩;refine wp_block (wp_mono ((ih hh).holds g a w hc) ?_);rintro e a' w' ⟨ex,g',r',h',rfl,hQ,bQ,aA⟩;cases ex with
   | normal=>exact ⟨.normal,g',r',h',rfl,hQ,bQ,aA⟩
   | exit i=>
     simp only at hQ;simp only [Ex.toExit,Exit.inBlock];split at hQ
     ·rename_i hi;rw [if_pos (Nat.eq_of_beq_eq_true hi)];exact ⟨.normal,g',r',h',rfl,hQ,bQ,aA⟩
     rename_i hi;rw [if_neg (fun e=>by subst e;rw [Nat.beq_refl] at hi;cases hi)];exact ⟨.exit i,g',r',h',rfl,hQ,bQ,aA⟩
   | ret=>exact ⟨.ret,g',r',h',rfl,hQ,bQ,aA⟩
 | loop x ih=>intro Q r h hh;exact hh
 | exit i=>intro Q r h hh;refine ⟨fun g a w hc=>?_⟩;exact wp_exit ⟨.exit i,g,r,h,rfl,hh,hc,Step.refl _ _ _ _⟩
 | ret=>intro Q r h hh;refine ⟨fun g a w hc=>?_⟩;exact wp_ret ⟨.ret,g,r,h,rfl,hh,hc,Step.refl _ _ _ _⟩
 | _=>intro Q r h hh;exact hh.elim
def wP:List (Nat × Nat)->aC->ab->(aC->ab->Prop)->Prop
 | [],r,h,K=>K r h
 | (t,k)::l,r,h,K=>match bj r t with
   | some ([],.aW)=>0<k/\∀ q,wP l ((t,[],.sl k (some q) [])::r) ((q,.tok)::h) K
   | _=>wP l r h K
theorem JO {K:aC->ab->Prop}:∀ {l:List (Nat × Nat)} {r:aC} {h:ab} {w:World},wP l r h K->bK n X g0 r h a w->∃ r' h',K r' h'/\bK n X g0 r' h' a w/\Step X g0 h w g0 h' w
 | [],r,h,w,hk,hc=>⟨r,h,hk,hc,Step.refl _ _ _ _⟩
 | (t,k)::l,r,h,w,hk,hc=>by
   have ck:cZ a []:=fun e he=>by cases he
   unfold wP at hk;split at hk
   ·rename_i hl;obtain ⟨iv,hk⟩:=hk;obtain ⟨q,c1,s1⟩:=hc.cw.EC;have eM:=hc.step c1 s1
    have cJ:bK n X g0 ((t,[],.sl k (some q) [])::r) ((q,.tok)::h) a w:=by
     refine ⟨c1,fun t' gg v' fp=>?_,hc.defers,hc.size⟩;rw [qo] at fp;split at fp
     ·rename_i ht;subst ht;cases fp
      refine ⟨fun _=>⟨by simp,?_⟩,fun hh=>absurd ck hh⟩;obtain ⟨_,u,uQ,gf⟩:=(hc.kX _ _ _ hl).1 ck;refine ⟨u,uQ,?_⟩;rw [aa] at gf;subst gf;simp only [aa];exact ⟨none,0,by simp,by simp,by simp,iv,by simp,by simp,by simp,fun _ _=>.inl rfl⟩
     exact eM.kX t' gg v' fp
    obtain ⟨r2,h2,k1,k2,k3⟩:=JO (hk q) cJ;exact ⟨r2,h2,k1,k2,s1.trans hc.cw.own k3⟩
   exact JO hk hc
def mq (ks:List Nat) (ts:List (Nat × Nat)) (J:aC->ab->Prop) (r:aC) (h:ab):Prop:=
 wP ts r h fun r' h'=>oP r' (fun rG=>J rG h') ks
theorem PK {ks:List Nat} {ts:List (Nat × Nat)} {J:aC->ab->Prop} (hh:mq ks ts J r h) (hc:bK n X g0 r h a w) :
  ∃ r' h',J r' h'/\bK n X g0 r' h' a w/\Step X g0 h w g0 h' w:=by
 obtain ⟨r1,h1,k1,c1,s1⟩:=JO hh hc;obtain ⟨r2,k2,hl⟩:=zJ (k:=fun rG=>J rG h1) k1;exact ⟨r2,h1,k2,c1.less hl,s1⟩
theorem Fu {S:Nat->Prop} (h:∃ m,S m):∃ m,S m/\∀ k,S k->m<=k:=by
 obtain ⟨m,hm⟩:=h;induction m using Nat.strongRecOn with
 | _ m ih=>
   by_cases hk:∃ k,k<m/\S k
   ·obtain ⟨k,aL,hS⟩:=hk;exact ih k aL hS
   exact ⟨m,hm,fun k hS=>Nat.le_of_not_lt fun aL=>hk ⟨k,aL,hS⟩⟩
theorem JP (ks:List Nat) (ts:List (Nat × Nat)) (J:Nat->aC->ab->Prop) {body:Code} {Q:Ex->aC->ab->Prop} (h0:mq ks ts (fun r h=>∃ m,J m r h) r h)
  (hb:∀ m r h,J m r h->Holds P n X body (fun e r' h'=>match e with
    | .normal=>mq ks ts (fun r h=>∃ m',m'<m/\J m' r h) r' h'
    | e=>Q e r' h') r h):Holds P n X (.loop body) Q r h:=by
 refine ⟨fun g a w hc=>?_⟩
 classical
 let S:Nat->Act->World->Prop:=fun m a' w'=>∃ g' r' h',J m r' h'/\bK n X g' r' h' a' w'/\Step X g h w g' h' w'
 let I:Act->World->Prop:=fun a' w'=>∃ m,S m a' w'
 let μ:Act->World->Nat:=fun a' w'=>if hI:∃ m,S m a' w' then Classical.choose (Fu hI) else 0
 have Xq:I a w:=by obtain ⟨r',h',⟨m,hJ⟩,bQ,aA⟩:=PK h0 hc;exact ⟨m,g,r',h',hJ,bQ,aA⟩
 refine wp_loop I μ Xq ?_;intro a1 w1 JQ;have hμ:μ a1 w1=Classical.choose (Fu JQ):=by simp only [μ];rw [dif_pos JQ]
 obtain ⟨g1,r1,h1,hJ,eM,Xr⟩:=(Classical.choose_spec (Fu JQ)).1;rw [<- hμ] at hJ;refine wp_mono ((hb _ r1 h1 hJ).holds g1 a1 w1 eM) ?_;rintro e a2 w2 ⟨ex,g2,r2,h2,rfl,hQ,cJ,mJ⟩;have JR:=Xr.trans hc.cw.own mJ;cases ex with
 | normal=>
   obtain ⟨r3,h3,⟨m',aL,Xs⟩,Ac,CM⟩:=PK hQ cJ;have hS:S m' a2 w2:=⟨g2,r3,h3,Xs,Ac,JR.trans hc.cw.own CM⟩;refine ⟨⟨m',hS⟩,?_⟩;have PL:∃ m,S m a2 w2:=⟨m',hS⟩;have:μ a2 w2<=m':=by simp only [μ];rw [dif_pos PL];exact (Classical.choose_spec (Fu PL)).2 m' hS
   omega
 | exit i=>exact ⟨.exit i,g2,r2,h2,rfl,hQ,cJ,JR⟩
 | ret=>exact ⟨.ret,g2,r2,h2,rfl,hQ,cJ,JR⟩
def Ad:Nat->List AV->aC
 | _,[]=>[]
 | i,x::xs=>(i,[],x)::Ad (i+1) xs
def yz (P:Program) (r:aC) (h:ab):List ResultVar->(List AV->Prop)->Prop
 | [],K=>K []
 | .tmp t::l,K=>match aM r [] (.tmp t) with
   | some v=>yz P r h l fun vs=>K (v::vs)
   | none=>False
 | .cell b t::l,K=>match aM r [] (.tmp b) with
   | some (.au cs)=>fZ P t cs fun v=>yz P r h l fun vs=>K (v::vs)
   | some (.bn b o)=>∃ cs l',(b,Ob.vec cs)∈h/\iG o cs=some l'/\fZ P t l' fun v=>yz P r h l fun vs=>K (v::vs)
   | _=>False
def PM (R:AV->ab->Prop) (h:ab):List AV->Prop
 | [v]=>R v h
 | vs=>R (.aQ vs) h
def JS (P:Program) (fn:Func) (r:aC) (h:ab) (R:AV->ab->Prop):Prop:=yz P r h fn.results.toList (PM R h)
end Go.Abs
/-
 The abstract fB,part S: functions.
-/
namespace Go.Abs
open Go
variable {P:Program} {n:Nat} {X:Nat->Prop} {g0:Gh} {r:aC} {h:ab} {a:Act} {w:World}
theorem JT (hc:bK n X g0 r h a w):∀ {l:List ResultVar} {K:List AV->Prop},yz P r h l K ->
  ∃ (vs:List AV) (us:List Value),K vs/\(l.mapM (m:=Sem) fun|.tmp t=>pure (a.tmps.getD t undef)|.cell b t=>do loadVar t (<- asAddr (a.tmps.getD b undef))).run P w=.ok us w/\av ⟨g0,live X h,w⟩ vs us
 | [],K,hr=>⟨[],[],hr,by simp,by simp [av]⟩
 | .tmp t::l,K,hr=>by
   unfold yz at hr;split at hr<;>try contradiction
   rename_i v hv;obtain ⟨vs,us,hK,h1,h2⟩:=JT hc hr;have cG:=hc.aM (g:=[]) (fun e he=>by cases he) hv;refine ⟨v::vs,a.tmps.getD t undef::us,hK,?_,?_⟩
   ·simp only [List.mapM_cons,Sem.run_bind,Sem.run_pure,Result.andThen,h1]
   simp only [av];exact ⟨_,_,rfl,by simpa [Act.eval] using cG,h2⟩
 | .cell b t::l,K,hr=>by
   unfold yz at hr;split at hr<;>try contradiction
   all_goals
    rename_i hb;have cG:=hc.aM (g:=[]) (fun e he=>by cases he) hb;obtain ⟨z,s,hz,h2,h3⟩:=Ma (t:=t) hc.cw cG hr;obtain ⟨vs,us,hK,h1,h4⟩:=JT hc hz
    have hp:∃ ad,a.eval (.tmp b)=.pointer (some ad):=by
     rw [aa] at cG
     first
      | (obtain ⟨x,y,e,_⟩:=cG;exact ⟨_,e⟩)
      | (obtain ⟨x,_,_,e⟩:=cG;exact ⟨_,e⟩)
    obtain ⟨ad,hp⟩:=hp;rw [hp] at h3;have aZ:a.tmps.getD b undef=.pointer (some ad):=(by simpa [Act.eval] using hp);have has:(asAddr (.pointer (some ad))).run P w=.ok ad w:=(by simp [asAddr]);have Xt:(loadVar t ad).run P w=.ok s w:=(by simpa [Instr.loadAt,Instr.sureAddr] using h3);refine ⟨z::vs,s::us,hK,?_,?_⟩
    ·simp only [List.mapM_cons,Sem.run_bind,Sem.run_pure,aZ,has,Result.andThen,Xt,h1]
    simp only [av];exact ⟨_,_,rfl,h2,h4⟩
theorem Fv {fn:Func} {R:AV->ab->Prop} (hc:bK n X g0 r h a w) (hr:JS P fn r h R):∃ v u,R v h/\(results fn a.tmps).run P w=.ok u w/\aa ⟨g0,live X h,w⟩ v u:=by
 obtain ⟨vs,us,hK,h1,h2⟩:=JT (P:=P) hc hr
 have key:(results fn a.tmps).run P w=.ok (if h:us.length=1 then us[0] else .tuple us.toArray) w:=by
  unfold results;rw [Array.mapM_eq_mapM_toList];simp only [Sem.run_bind,Sem.run_pure,Sem.run_map,map_eq_pure_bind,Result.andThen]
  erw [h1]
  simp
 rw [key];have hl:=h2.length;unfold PM at hK;split at hK
 ·rename_i v;simp only [av] at h2;obtain ⟨u,rr,rfl,h3,rfl⟩:=h2;exact ⟨v,u,hK,by simp,h3⟩
 rename_i aI
 have:us.length≠1:=by
  intro e;rw [e] at hl
  match vs,hl,aI with
  | [v],_,aI=>exact aI v rfl
 rw [dif_neg this];exact ⟨.aQ vs,.tuple us.toArray,hK,rfl,by simp only [aa];exact ⟨_,rfl,by simpa using h2⟩⟩
theorem JU {t:Nat} {gg:G} {v:AV}:∀ {xs:List AV} {i:Nat},bj (Ad i xs) t=some (gg,v)->gg=[]/\i<=t/\xs[t - i]?=some v
 | [],i,h=>by cases h
 | x::xs,i,h=>by
   unfold Ad at h;unfold bj at h;split at h
   ·rename_i hb;have hb:=Nat.eq_of_beq_eq_true hb;subst hb;cases h
    exact ⟨rfl,Nat.le_refl _,by simp⟩
   obtain ⟨h1,h2,h3⟩:=JU h;refine ⟨h1,by omega,?_⟩;rw [show t - i=(t - (i+1))+1 from by omega];simpa using h3
def CN (P:Program) (fn:Func) (R:AV->ab->Prop):Ex->aC->ab->Prop
 | .normal,r,h=>JS P fn r h R
 | .ret,r,h=>JS P fn r h R
 | .exit _,_,_=>False
theorem sJ {f:FuncId} {fn:Func} {c:aw} {code:Code} {args:List AV} {R:AV->ab->Prop} (hf:P.funcs[f]?=some fn) (hb:fn.body=some code) (Bv:(fn.name == "runtime.NumGoroutine")=false)
  (hm:P.follows .mixedOrders=true) (hn:args.length<=fn.ntmps) (dw:∀ X,cw P c fn.ntmps X code (CN P fn R) (Ad 0 args) h):ay P f args h R:=by
 refine ⟨fun X g w us hc hr=>.inl ⟨⟨fn,code,hf,hb,Bv⟩,?_⟩⟩;have hlen:=hr.length;simp at hlen;refine calls_of_wp hf hb (wp_mono ((yy (n:=fn.ntmps) hm code (dw X)).holds g _ w ⟨hc,?_,rfl,by simp;omega⟩) ?_)
 ·intro t gg v hl;obtain ⟨rfl,_,hx⟩:=JU hl;obtain ⟨u,hu,cG⟩:=hr.get t v (by simpa using hx);refine ⟨fun _=>⟨by simp,u,?_,cG⟩,fun hh=>absurd (fun e he=>by cases he) hh⟩;have dj:us[t]?=some u:=(by simpa using hu);have:=(Array.getElem?_eq_some_iff.1 dj).1;rw [Array.getElem?_append_left this];exact dj
 rintro e a' w' ⟨ex,g',r',h',rfl,hQ,bQ,aA⟩;cases ex with
 | normal=>
   obtain ⟨v,u,h1,h2,h3⟩:=Fv (P:=P) bQ hQ;exact ⟨bQ.defers,u,h2,v,u,g',h',rfl,h1,bQ.cw,h3,aA⟩
 | ret=>
   obtain ⟨v,u,h1,h2,h3⟩:=Fv (P:=P) bQ hQ;exact ⟨bQ.defers,u,h2,v,u,g',h',rfl,h1,bQ.cw,h3,aA⟩
 | exit i=>exact hQ.elim
theorem ae.k {f:FuncId} {vs:List AV} {v:AV} {K:AV->ab->Prop} (hq:ae P f vs h v) (hk:K v h):ay P f vs h K:=
 ay.mono (by rintro v' h' ⟨rfl,rfl⟩;exact hk) hq
theorem ae.k0 {f:FuncId} {vs:List AV} {v:AV} {K:AV->ab->Prop} (hq:ae P f vs [] v) (hk:K v h):ay P f vs h K:=(hq.wide h).k hk
theorem Fw {c:aw} (hm:P.follows .mixedOrders=true) (ks:List Nat) (ts:List (Nat × Nat)) (J:Nat->aC->ab->Prop) {body:Code} {Q:Ex->aC->ab->Prop} (h0:mq ks ts (fun r h=>∃ m,J m r h) r h)
  (hb:∀ m r h,J m r h->cw P c n X body (fun e r' h'=>match e with
    | .normal=>mq ks ts (fun r h=>∃ m',m'<m/\J m' r h) r' h'
    | e=>Q e r' h') r h):Holds P n X (.loop body) Q r h:=
 JP ks ts J h0 fun m r h hJ=>yy hm _ (hb m r h hJ)
def ints (l:List Int):List (List AV):=l.map fun x=>[AV.int .i64 x]
@[simp] theorem dB (l:List Int):(ints l).length=l.length:=by simp [ints]
theorem PN {l:List Int} {j:Nat} {x:Int} (h:l[j]?=some x):(ints l)[j]?=some [AV.int .i64 x]:=by simp [ints,h]
end Go.Abs
/-
 The abstract fB,part T: the AN again,LA Q7 in a Ti code instead of the code Q8,so that a goal stays small.
-/
namespace Go.Abs
open Go
def child:Bool->Code->Code
 | false,.seq a _=>a
 | true,.seq _ b=>b
 | false,.cond _ a _=>a
 | true,.cond _ _ b=>b
 | _,.block _ a=>a
 | _,.loop a=>a
 | _,_=>.skip
def JV (F:Func):Code:=match F.body with|some c=>c|none=>.skip
def cat (F:Func):List Bool->Code
 | []=>JV F
 | b::p=>child b (cat F p)
def aH (F:Func) (p:List Bool):List Oper:=match cat F p with|.region _ ops _=>ops.toList|_=>[]
theorem rj {n:Nat} {d:Option Nat} {g:G} {v:AV} {r:aC} {K K':aC->Prop} (hk:∀ r,K r->K' r) (h:fN n d g v r K):fN n d g v r K':=by
 cases d with
 | none=>exact hk _ h
 | some d=>
   unfold fN at h ⊢;simp only at h ⊢;cases h1:Nat.blt d n with
   | false=>rw [h1] at h;exact h.elim
   | true=>
     rw [h1] at h;simp only at h ⊢;cases h2:oO ((d,g,v)::r) d with
     | false=>rw [h2] at h;exact h.elim
     | true=>rw [h2] at h;exact hk _ h
theorem PO {P:Program} {r:aC} {h:ab} {t:TypeId} {d:Nat} {y:Operand} {K K':aC->ab->Prop} (hk:∀ r h,K r h->K' r h) (hs:xn P r h t d y K):xn P r h t d y K':=by
 unfold xn at hs ⊢;split at hs<;>try contradiction
 split at hs<;>try contradiction
 split at hs<;>try contradiction
 split at hs<;>try contradiction
 obtain ⟨cs,h',a,b,e⟩:=hs;exact ⟨cs,h',a,b,hk _ _ e⟩
theorem yA {r:aC} {k k':aC->Prop} (hk:∀ r,k r->k' r):∀ {ts:List Nat},oP r k ts->oP r k' ts
 | [],h=>hk _ h
 | t::ts,h=>by
   unfold oP at h ⊢;split at h
   ·exact yA (fun l hl=>hk _ hl) h
   exact yA hk h
theorem PQ {K K':aC->ab->Prop} (hk:∀ r h,K r h->K' r h):∀ {ds:List Nat} {r:aC} {h:ab},sZ K ds r h->sZ K' ds r h
 | [],r,h,hh=>hk _ _ hh
 | d::ds,r,h,hh=>by
   unfold sZ at hh ⊢;split at hh<;>try contradiction
   obtain ⟨cs,h',a,b⟩:=hh;exact ⟨cs,h',a,PQ hk b⟩
theorem JW {P:Program} {all:List Oper} {r:aC} {h:ab} {K K':G->AV->Prop} {o:Oper} (hk:∀ g v,K g v->K' g v) (hh:dG P all r h K o):dG P all r h K' o:=by
 unfold dG at hh ⊢;split at hh
 ·exact vj (hk _) hh
 split at hh<;>try contradiction
 split at hh<;>try contradiction
 split at hh<;>try contradiction
 exact vj (hk _) hh
def gw (R:aC->ab->Prop) (n:Nat) (d:Option Nat) (g:G) (r:aC) (h:ab) (v:AV):Prop:=fN n d g v r fun r'=>R r' h
def vl (R:aC->ab->Prop) (n:Nat) (d:Option Nat) (r:aC) (v:AV) (h:ab):Prop:=fN n d [] v r fun r'=>R r' h
def yB (R:List Nat->aC->ab->Prop) (all:List Oper) (i n:Nat) (o:Oper) (nf:List Nat) (r:aC) (h:ab) (g:G) (v:AV):Prop:=
 match xo (iZ all []) all i g with
 | true=>fN n o.dst g v r fun r'=>R (match qI r g o.op with|true=>nf|false=>i::nf) r' h
 | false=>False
def vm (P:Program) (c:aw) (n:Nat) (all:List Oper) (K:aC->ab->Prop):List Nat->List Nat->aC->ab->Prop
 | [],_,r,h=>K r h
 | i::rest,nf,r,h=>match all[i]? with
   | none=>False
   | some o=>match yY c o with
     | true=>(match o.guard with
       | none=>(match AQ (iZ all []) i rest with
         | true=>(match (match rE o.op with|true=>true|false=>(match calm r o.op with|true=>yX (iZ all []) all i nf|false=>AR (iZ all []) i nf)) with
           | true=>gF P c.own c.lc o.dst r h (vl (vm P c n all K rest nf) n o.dst r) o.op
           | false=>False)
         | false=>False)
       | some _=>False)
     | false=>dG P all r h (yB (vm P c n all K rest) all i n o nf r h) o
theorem Ae {P:Program} {c:aw} {n:Nat} {all:List Oper} {K K':aC->ab->Prop} (hk:∀ r h,K r h->K' r h):∀ {l nf:List Nat} {r:aC} {h:ab},vm P c n all K l nf r h->rF P c n all (iZ all []) K' l nf r h
 | [],nf,r,h,hh=>hk _ _ hh
 | i::l,nf,r,h,hh=>by
   unfold vm at hh;unfold rF;split at hh<;>try contradiction
   rename_i o ho;split at hh
   ·split at hh<;>try contradiction
    split at hh<;>try contradiction
    split at hh<;>try contradiction
    rename_i h1 _ h2 _ h3 _ h4;simp only [ho,h1,h2,h3];cases ha:rE o.op with
    | true=>exact ri (fun v h'=>rj fun _=>Ae hk) hh
    | false=>
      cases gl:calm r o.op with
      | true=>
        simp only [ha,gl] at h4 ⊢;rw [h4];exact ri (fun v h'=>rj fun _=>Ae hk) hh
      | false=>
        simp only [ha,gl] at h4 ⊢;rw [h4];exact ri (fun v h'=>rj fun _=>Ae hk) hh
   rename_i h1;simp only [ho,h1];refine JW (fun g v hv=>?_) hh;unfold yB at hv;split at hv<;>try contradiction
   rename_i h2;simp only [h2];exact rj (fun _=>Ae hk) hv
theorem JX {P:Program} {c:aw} {n:Nat} {all:List Oper} {K K':aC->ab->Prop} (hk:∀ r h,K r h->K' r h):∀ {l nf:List Nat} {r:aC} {h:ab},vm P c n all K l nf r h->vm P c n all K' l nf r h
 | [],nf,r,h,hh=>hk _ _ hh
 | i::l,nf,r,h,hh=>by
   unfold vm at hh ⊢;split at hh<;>try contradiction
   rename_i o ho;split at hh
   ·split at hh<;>try contradiction
    split at hh<;>try contradiction
    split at hh<;>try contradiction
    exact ri (fun v h'=>rj fun _=>JX hk) hh
   refine JW (fun g v hv=>?_) hh;unfold yB at hv ⊢;split at hv<;>try contradiction
   exact rj (fun _=>JX hk) hv
inductive Fr where
 | seq (p:List Bool)
 | aS (id:Nat)
 | head (J:aC->ab->Prop)
inductive Mode where
 | go (p:List Bool)
 | op (p:List Bool) (i:Nat)
 | ex (e:Ex)
structure En where
 n:Nat
 X:Nat->Prop
 Q:Ex->aC->ab->Prop
def run (P:Program) (c:aw) (F:Func) (E:En):Nat->Mode->List Fr->aC->ab->Prop
 | 0,_,_,_,_=>False
 | k+1,.ex e,[],r,h=>E.Q e r h
 | k+1,.ex e,.seq p::S,r,h=>(match e with
   | .normal=>run P c F E k (.go p) S r h
   | _=>run P c F E k (.ex e) S r h)
 | k+1,.ex e,.aS id::S,r,h=>(match e with
   | .exit i=>(match Nat.beq i id with
     | true=>run P c F E k (.ex .normal) S r h
     | false=>run P c F E k (.ex (.exit i)) S r h)
   | _=>run P c F E k (.ex e) S r h)
 | k+1,.ex e,.head J::S,r,h=>(match e with
   | .normal=>J r h
   | _=>run P c F E k (.ex e) S r h)
 | k+1,.op p i,S,r,h=>(match (aH F p)[i]? with
   | none=>oP r (fun r'=>run P c F E k (.ex .normal) S r' h) c.mw
   | some o=>match o.guard with
     | none=>(match vI c o.dst o.op with
       | true=>(match o.op,o.dst with
         | .store t (.tmp d) y,none=>(match qF c.xk d with
           | true=>xn P r h t d y (run P c F E k (.op p (i+1)) S)
           | false=>cz P r h (vl (run P c F E k (.op p (i+1)) S) E.n o.dst r) o.op)
         | _,_=>gF P c.own c.lc o.dst r h (vl (run P c F E k (.op p (i+1)) S) E.n o.dst r) o.op)
       | false=>bI P r [] h (gw (run P c F E k (.op p (i+1)) S) E.n o.dst [] r h) o.op)
     | some (j,w)=>match (aH F p)[j]? with
       | some oj=>(match oj.dst with
         | some tj=>(match bj r tj with
           | some (gj,.bool b)=>(match xm o.op,(match o.dst with|some d=>qF c.Gw d|none=>false) with
             | true,true=>(match gj with
               | []=>(b=w->cz P (sY tj w r) h (vl (run P c F E k (.op p (i+1)) S) E.n o.dst (sY tj w r)) o.op) /\
                  (b≠w->gw (run P c F E k (.op p (i+1)) S) E.n o.dst [(tj,b,w)] r h (.bool false))
               | _=>False)
             | _,_=>(match (match xm o.op with|true=>false|false=>vI c o.dst o.op) with
               | true=>False
               | false=>bI P r (gj++[(tj,b,w)]) h (gw (run P c F E k (.op p (i+1)) S) E.n o.dst (gj++[(tj,b,w)]) r h) o.op))
           | _=>False)
         | none=>False)
       | none=>False)
 | k+1,.go p,S,r,h=>(match cat F p with
   | .skip=>run P c F E k (.ex .normal) S r h
   | .region id _ draw=>(match draw with
     | false=>(match AS c.Dx id with
       | none=>run P c F E k (.op p 0) S r h
       | some _=>Holds P E.n E.X (cat F p) (fun e r h=>run P c F E k (.ex e) S r h) r h)
     | true=>(match AS c.Dx id with
       | some (ord,fz)=>aJ (aH F p) ord=true /\
          vm P c E.n (aH F p) (fun r' h'=>sZ (fun rG pS=>oP rG (fun r3=>run P c F E k (.ex .normal) S r3 pS) c.mw) fz r' h') ord [] r h
       | none=>Holds P E.n E.X (cat F p) (fun e r h=>run P c F E k (.ex e) S r h) r h))
   | .seq _ _=>run P c F E k (.go (false::p)) (.seq (true::p)::S) r h
   | .cond x _ _=>(match aM r [] x with
     | some (.bool t)=>(t=true->run P c F E k (.go (false::p)) S r h)/\(t=false->run P c F E k (.go (true::p)) S r h)
     | _=>False)
   | .block id _=>run P c F E k (.go (false::p)) (.aS id::S) r h
   | .loop _=>Holds P E.n E.X (cat F p) (fun e r h=>run P c F E k (.ex e) S r h) r h
   | .exit i=>run P c F E k (.ex (.exit i)) S r h
   | .ret=>run P c F E k (.ex .ret) S r h
   | _=>False)
theorem CO {R:aC->ab->Prop} {K:aC->ab->Prop} {n:Nat} {d:Option Nat} {g:G} {r:aC} {h:ab} {v:AV} (hk:∀ r h,R r h->K r h) (hh:gw R n d g r h v):fN n d g v r fun r'=>K r' h:=
 rj (fun r=>hk r h) hh
theorem Fx {R:aC->ab->Prop} {K:aC->ab->Prop} {n:Nat} {d:Option Nat} {r:aC} {h:ab} {v:AV} (hk:∀ r h,R r h->K r h) (hh:vl R n d r v h):fN n d [] v r fun r'=>K r' h:=
 rj (fun r=>hk r h) hh
theorem Af {P:Program} {n:Nat} {X:Nat->Prop} {c:Code} {Q Q':Ex->aC->ab->Prop} (hq:∀ e r h,Q e r h->Q' e r h) {r:aC} {h:ab} (hh:Holds P n X c Q r h):Holds P n X c Q' r h:=by refine ⟨fun g a w hc=>wp_mono (hh.holds g a w hc) ?_⟩;rintro e a' w' ⟨ex,g',r',h',rfl,hQ,bQ,aA⟩;exact ⟨ex,g',r',h',rfl,hq _ _ _ hQ,bQ,aA⟩
theorem Fy {R R':aC->ab->Prop} {n:Nat} {d:Option Nat} {g:G} {r:aC} {h:ab} {v:AV} (hk:∀ {r h},R r h->R' r h) (hh:gw R n d g r h v):gw R' n d g r h v:=
 rj (fun r=>hk) hh
theorem JY {R R':aC->ab->Prop} {n:Nat} {d:Option Nat} {r:aC} {h:ab} {v:AV} (hk:∀ {r h},R r h->R' r h) (hh:vl R n d r v h):vl R' n d r v h:=
 rj (fun r=>hk) hh
theorem pD {P:Program} {c:aw} {F:Func} {E:En}:∀ (k k':Nat) (m:Mode) (S:List Fr) {r:aC} {h:ab},k<=k'->run P c F E k m S r h->run P c F E k' m S r h
 | 0,k',m,S,r,h,hB,hh=>hh.elim
 | k+1,0,m,S,r,h,hB,hh=>absurd hB (by omega)
 | k+1,k'+1,m,S,r,h,hB,hh=>by
   have ih:∀ {m:Mode} {S:List Fr} {r:aC} {h:ab},run P c F E k m S r h->run P c F E k' m S r h:=pD k k' _ _ (by omega);cases m with
   | ex e=>
     cases S with
     | nil=>exact hh
     | cons f S=>
       cases f with
       | seq p=>unfold run at hh ⊢;cases e<;>exact ih hh
       | aS id=>
         unfold run at hh ⊢;cases e with
         | exit i=>
           simp only at hh ⊢;cases hb:Nat.beq i id<;>simp only [hb] at hh ⊢<;>exact ih hh
         | _=>exact ih hh
       | head J=>unfold run at hh ⊢;cases e<;>first|exact hh|exact ih hh
   | go p=>
     unfold run at hh ⊢;cases fJ:cat F p with
     | skip=>rw [fJ] at hh;exact ih hh
     | region id ops draw=>
       rw [fJ] at hh;cases draw with
       | false=>
         simp only at hh ⊢;split at hh
         ·exact ih hh
         exact Af (fun e r h=>ih) hh
       | true=>
         simp only at hh ⊢;split at hh
         ·exact ⟨hh.1,JX (fun r h=>PQ fun r h=>yA fun r' hr=>ih hr) hh.2⟩
         exact Af (fun e r h=>ih) hh
     | seq x y=>rw [fJ] at hh;exact ih hh
     | cond x t f=>
       rw [fJ] at hh;simp only at hh ⊢;split at hh<;>try contradiction
       exact ⟨fun hb=>ih (hh.1 hb),fun hb=>ih (hh.2 hb)⟩
     | block id x=>rw [fJ] at hh;exact ih hh
     | loop x=>rw [fJ] at hh;exact Af (fun e r h=>ih) hh
     | exit i=>rw [fJ] at hh;exact ih hh
     | ret=>rw [fJ] at hh;exact ih hh
     | _=>rw [fJ] at hh;exact hh.elim
   | op p i=>
     unfold run at hh ⊢;cases ho:(aH F p)[i]? with
     | none=>rw [ho] at hh;exact yA (fun r' hr=>ih hr) hh
     | some o=>
       rw [ho] at hh;simp only at hh ⊢;cases hg:o.guard with
       | none=>
         simp only [hg] at hh ⊢;cases hl:vI c o.dst o.op with
         | true=>
           simp only [hl] at hh ⊢;split at hh
           ·rename_i t d y e1 e2;cases hm:qF c.xk d with
            | true=>simp only [hm] at hh ⊢;exact PO (fun _ _=>ih) hh
            | false=>simp only [hm] at hh ⊢;exact yw (fun v h'=>JY ih) hh
           exact ri (fun v h'=>JY ih) hh
         | false=>simp only [hl] at hh ⊢;exact vj (fun v=>Fy ih) hh
       | some jw=>
         obtain ⟨j,w⟩:=jw;simp only [hg] at hh ⊢;split at hh<;>try contradiction
         split at hh<;>try contradiction
         split at hh<;>try contradiction
         cases CP:xm o.op with
         | false=>
           simp only [CP] at hh ⊢;split at hh<;>try contradiction
           exact vj (fun v=>Fy ih) hh
         | true=>
           simp only [CP] at hh ⊢;split at hh
           ·split at hh<;>try contradiction
            exact ⟨fun hb=>yw (fun v h'=>JY ih) (hh.1 hb),fun hb=>Fy ih (hh.2 hb)⟩
           exact vj (fun v=>Fy ih) hh
theorem PR {P:Program} {c:aw} {F:Func} {E:En} {p:List Bool} {S:List Fr} (B:Nat):∀ (k i:Nat) {r:aC} {h:ab},k<=B->run P c F E k (.op p i) S r h->kV P c E.n (aH F p) (run P c F E B (.ex .normal) S) ((aH F p).drop i) r h
 | 0,i,r,h,hB,hh=>hh.elim
 | k+1,i,r,h,hB,hh=>by
   have ih:∀ {r:aC} {h:ab},run P c F E k (.op p (i+1)) S r h->kV P c E.n (aH F p) (run P c F E B (.ex .normal) S) ((aH F p).drop (i+1)) r h:=PR B k (i+1) (by omega);unfold run at hh;cases ho:(aH F p)[i]? with
   | none=>
     rw [ho] at hh;rw [List.drop_of_length_le (by simpa using ho)];unfold kV;exact yA (fun r' hr=>pD k B _ _ (by omega) hr) hh
   | some o=>
     rw [ho] at hh;obtain ⟨aL,he⟩:=List.getElem?_eq_some_iff.1 ho;rw [List.drop_eq_getElem_cons aL,he];unfold kV;simp only at hh ⊢;split
     ·rename_i hg;rw [hg] at hh;simp only at hh;split
      ·rename_i hl;rw [hl] at hh;simp only at hh;split
       ·rename_i t d y e1 e2;rw [e1,e2] at hh;simp only at hh;split
        ·rename_i hm;rw [hm] at hh;exact PO (fun _ _=>ih) hh
        rename_i hm;rw [hm] at hh;simp only at hh;rw [e1,e2];exact yw (fun v h'=>Fx fun _ _=>ih) hh
       rename_i aI;refine ri (K:=vl (run P c F E k (.op p (i+1)) S) E.n o.dst r) (fun v h'=>Fx fun _ _=>ih) ?_;split at hh
       ·rename_i t d y e1 e2;exact absurd e2 (aI t d y e1)
       exact hh
      rename_i hl;rw [hl] at hh;exact vj (fun v=>CO fun _ _=>ih) hh
     rename_i j w hg;rw [hg] at hh;simp only at hh;split at hh<;>try contradiction
     rename_i oj BZ;split at hh<;>try contradiction
     rename_i tj Ca;split at hh<;>try contradiction
     rename_i gj b dz;simp only [BZ,Ca,dz];cases CP:xm o.op with
     | false=>
       simp only [CP] at hh ⊢;split at hh<;>try contradiction
       rename_i e4;simp only [e4];exact vj (fun v=>CO fun _ _=>ih) hh
     | true=>
       simp only [CP] at hh ⊢;cases hd:o.dst with
       | none=>
         simp only [hd] at hh ⊢;exact vj (fun v=>CO fun _ _=>ih) hh
       | some d=>
         simp only [hd] at hh ⊢;cases hm:qF c.Gw d with
         | false=>
           simp only [hm] at hh ⊢;exact vj (fun v=>CO fun _ _=>ih) hh
         | true=>
           simp only [hm] at hh ⊢;cases gj with
           | nil=>exact ⟨fun hb=>yw (fun v h'=>Fx fun _ _=>ih) (hh.1 hb),fun hb=>CO (fun _ _=>ih) (hh.2 hb)⟩
           | cons _ _=>exact hh.elim
theorem PS {F:Func} {p:List Bool} {id:Nat} {ops:Array Oper} {dr:Bool} (h:cat F p=.region id ops dr):aH F p=ops.toList:=by unfold aH;rw [h]
abbrev nJ (P:Program) (c:aw) (F:Func) (E:En) (k:Nat) (S:List Fr):Ex->aC->ab->Prop:=fun e r h=>run P c F E k (.ex e) S r h
theorem Fz {P:Program} {c:aw} {F:Func} {E:En} (hm:P.follows .mixedOrders=true):∀ (k:Nat) (p:List Bool) (S:List Fr) {r:aC} {h:ab},
  run P c F E k (.go p) S r h->Holds P E.n E.X (cat F p) (nJ P c F E k S) r h
 | 0,p,S,r,h,hh=>hh.elim
 | k+1,p,S,r,h,hh=>by
   have ih:∀ (p:List Bool) (S:List Fr) {r:aC} {h:ab},run P c F E k (.go p) S r h->Holds P E.n E.X (cat F p) (nJ P c F E k S) r h:=Fz hm k;have step:∀ {e:Ex} {S:List Fr} {r:aC} {h:ab},run P c F E k (.ex e) S r h->run P c F E (k+1) (.ex e) S r h:=pD k (k+1) _ _ (by omega);have up:∀ {S:List Fr} {cc:Code} {r:aC} {h:ab},Holds P E.n E.X cc (nJ P c F E k S) r h->Holds P E.n E.X cc (nJ P c F E (k+1) S) r h:=Af fun _ _ _=>step;have sI:∀ {S:List Fr} {r:aC} {h:ab},run P c F E k (.go (false::p)) S r h->Holds P E.n E.X (child false (cat F p)) (nJ P c F E k S) r h:=ih (false::p) _;have wO:∀ {S:List Fr} {r:aC} {h:ab},run P c F E k (.go (true::p)) S r h->Holds P E.n E.X (child true (cat F p)) (nJ P c F E k S) r h:=ih (true::p) _;unfold run at hh;cases fJ:cat F p with
   | skip=>
     rw [fJ] at hh;exact up (yy (c:=c) hm .skip (Q:=nJ P c F E k S) hh)
   | region id ops draw=>
     have ho:=PS fJ;rw [fJ] at hh;simp only at hh;split at hh
     ·split at hh
      ·refine up (yy (c:=c) hm (.region id ops false) (?_:kV P c E.n ops.toList (nJ P c F E k S .normal) ops.toList r h));rw [<- ho];simpa using PR k k 0 (Nat.le_refl _) hh
      exact up hh
     refine up (yy (c:=c) hm (.region id ops true) ?_);unfold cw;simp only;split at hh
     ·rename_i ord fz hf;simp only [hf];rw [<- ho];exact ⟨hh.1,Ae (fun _ _ h=>h) hh.2⟩
     rename_i hf;simp only [hf];exact hh
   | seq x y=>
     rw [fJ] at hh sI wO;simp only [child] at hh sI wO;refine ⟨fun g a w hc=>?_⟩;refine wp_seq (wp_mono ((sI hh).holds g a w hc) ?_);rintro e a' w' ⟨ex,g',r',h',rfl,hQ,bQ,aA⟩;cases k with
     | zero=>exact hQ.elim
     | succ k=>
       cases ex with
       | normal=>
         simp only [nJ] at hQ;unfold run at hQ;refine wp_mono ((wO (pD k (k+1) _ _ (by omega) hQ)).holds g' a' w' bQ) ?_;rintro e a2 w2 ⟨ex,g2,r2,h2,rfl,hQ,cJ,mJ⟩;exact ⟨ex,g2,r2,h2,rfl,step hQ,cJ,aA.trans hc.cw.own mJ⟩
       | exit i=>simp only [nJ] at hQ;unfold run at hQ;exact ⟨.exit i,g',r',h',rfl,pD k _ _ _ (by omega) hQ,bQ,aA⟩
       | ret=>simp only [nJ] at hQ;unfold run at hQ;exact ⟨.ret,g',r',h',rfl,pD k _ _ _ (by omega) hQ,bQ,aA⟩
   | cond x t f=>
     rw [fJ] at hh sI wO;simp only [child] at hh sI wO;split at hh<;>try contradiction
     rename_i b hx;refine up ⟨fun g a w hc=>?_⟩;have hr:=hc.aM (g:=[]) (fun e he=>by cases he) hx;rw [aa] at hr;refine wp_cond_split hr (fun hb=>(sI (hh.1 hb)).holds g a w hc) (fun hb=>(wO (hh.2 hb)).holds g a w hc)
   | block id x=>
     rw [fJ] at hh sI;simp only [child] at hh sI;refine ⟨fun g a w hc=>?_⟩;refine wp_block (wp_mono ((sI hh).holds g a w hc) ?_);rintro e a' w' ⟨ex,g',r',h',rfl,hQ,bQ,aA⟩;cases k with
     | zero=>exact hQ.elim
     | succ k=>
       simp only [nJ] at hQ;unfold run at hQ;cases ex with
       | normal=>exact ⟨.normal,g',r',h',rfl,pD k _ _ _ (by omega) hQ,bQ,aA⟩
       | exit i=>
         simp only at hQ;simp only [Ex.toExit,Exit.inBlock];split at hQ
         ·rename_i hi;rw [if_pos (Nat.eq_of_beq_eq_true hi)];exact ⟨.normal,g',r',h',rfl,pD k _ _ _ (by omega) hQ,bQ,aA⟩
         rename_i hi;rw [if_neg (fun e=>by subst e;rw [Nat.beq_refl] at hi;cases hi)];exact ⟨.exit i,g',r',h',rfl,pD k _ _ _ (by omega) hQ,bQ,aA⟩
       | ret=>exact ⟨.ret,g',r',h',rfl,pD k _ _ _ (by omega) hQ,bQ,aA⟩
   | loop x=>rw [fJ] at hh;exact up hh
   | exit i=>rw [fJ] at hh;exact up (yy (c:=c) hm (.exit i) (Q:=nJ P c F E k S) hh)
   | ret=>rw [fJ] at hh;exact up (yy (c:=c) hm .ret (Q:=nJ P c F E k S) hh)
   | _=>rw [fJ] at hh;exact hh.elim
theorem aG {P:Program} {f:FuncId} {F:Func} (c:aw) {args:List AV} {R:AV->ab->Prop} {h:ab} (hf:P.funcs[f]?=some F) (hb:F.body.isSome=true) (Bv:(F.name == "runtime.NumGoroutine")=false)
  (hm:P.follows .mixedOrders=true) (hn:Nat.ble args.length F.ntmps=true) (aA:∀ X,run P c F ⟨F.ntmps,X,CN P F R⟩ 4000 (.go []) [] (Ad 0 args) h):ay P f args h R:=by
 obtain ⟨code,fX⟩:=Option.isSome_iff_exists.1 hb;have Xu:JV F=code:=by unfold JV;rw [fX]
 refine ⟨fun X g w us hc hr=>.inl ⟨⟨F,code,hf,fX,Bv⟩,?_⟩⟩;have hlen:=hr.length;simp at hlen;have hn:=Nat.le_of_ble_eq_true hn;have hH:Holds P F.ntmps X code (CN P F R) (Ad 0 args) h:=by have:=Fz (c:=c) (F:=F) (E:=⟨F.ntmps,X,CN P F R⟩) hm 4000 [] [] (aA X);simp only [cat,Xu] at this;exact this
 refine calls_of_wp hf fX (wp_mono (hH.holds g _ w ⟨hc,?_,rfl,by simp;omega⟩) ?_)
 ·intro t gg v hl;obtain ⟨rfl,_,hx⟩:=JU hl;obtain ⟨u,hu,cG⟩:=hr.get t v (by simpa using hx);refine ⟨fun _=>⟨by simp,u,?_,cG⟩,fun hh=>absurd (fun e he=>by cases he) hh⟩;have dj:us[t]?=some u:=(by simpa using hu);have:=(Array.getElem?_eq_some_iff.1 dj).1;rw [Array.getElem?_append_left this];exact dj
 rintro e a' w' ⟨ex,g',r',h',rfl,hQ,bQ,aA⟩;cases ex with
 | normal=>
   obtain ⟨v,u,h1,h2,h3⟩:=Fv (P:=P) bQ hQ;exact ⟨bQ.defers,u,h2,v,u,g',h',rfl,h1,bQ.cw,h3,aA⟩
 | ret=>
   obtain ⟨v,u,h1,h2,h3⟩:=Fv (P:=P) bQ hQ;exact ⟨bQ.defers,u,h2,v,u,g',h',rfl,h1,bQ.cw,h3,aA⟩
 | exit i=>exact hQ.elim
theorem bM {P:Program} {c:aw} {F:Func} {E:En} {p:List Bool} {S:List Fr} {k:Nat} {body:Code} {r:aC} {h:ab} (fJ:cat F p=.loop body) (hm:P.follows .mixedOrders=true) (ks:List Nat) (ts:List (Nat × Nat)) (J:Nat->aC->ab->Prop)
  (h0:mq ks ts (fun r h=>∃ m,J m r h) r h)
  (hb:∀ m r h,J m r h->run P c F E k (.go (false::p)) (.head (mq ks ts (fun r h=>∃ m',m'<m/\J m' r h))::S) r h) :
  Holds P E.n E.X (cat F p) (fun e r h=>run P c F E k (.ex e) S r h) r h:=by
 rw [fJ];refine JP ks ts J h0 fun m r h hJ=>?_;have:=Fz hm k (false::p) _ (hb m r h hJ);have e:cat F (false::p)=body:=(by simp [cat,fJ,child]);rw [e] at this;refine Af (fun e r h hQ=>?_) this;cases k with
 | zero=>exact hQ.elim
 | succ k=>
   simp only [nJ] at hQ;unfold run at hQ;cases e with
   | normal=>exact hQ
   | exit i=>exact pD k _ _ _ (by omega) hQ
   | ret=>exact pD k _ _ _ (by omega) hQ
end Go.Abs
/-
 The abstract fB,part U: small laws for the steps of a walk.
-/
namespace Go.Abs
open Go
theorem aF {a b c d:Nat} (h1:Nat.ble a b=true:=by rfl) (h2:Nat.ble c d=true:=by rfl):a<=b/\c<=d:=⟨Nat.le_of_ble_eq_true h1,Nat.le_of_ble_eq_true h2⟩
theorem af {p:Prop}:∀ {g:G},p->gP g p
 | [],h=>h
 | (_,_,_)::g,h=>fun _=>af (g:=g) h
theorem ix {α:Type} {enc:α->List AV} {l:List α} {x:α} {i:Nat} {g:G} {K:AV->Prop} (hx:l[i]?=some x) (hk:K (.au (enc x))) :
  ∃ (j:Nat) (y:List AV),gP g ((i:Int)=(j:Int)/\(l.map enc)[j]?=some y)/\K (.au y):=
 ⟨i,enc x,af ⟨rfl,by simp [hx]⟩,hk⟩
theorem qQ {α:Type} {enc:α->List AV} {l:List α} {g:G} (d:α) {n:Int} {K:AV->Prop} (h:gP g (0<=n/\n<l.length)) (hk:K (.au (enc (l.getD n.toNat d)))) :
  ∃ (j:Nat) (y:List AV),gP g (n=(j:Int)/\(l.map enc)[j]?=some y)/\K (.au y):=by
 refine ⟨n.toNat,_,Cv ?_ h,hk⟩;rintro ⟨h1,h2⟩;have:n.toNat<l.length:=(by omega);exact ⟨by omega,by simp [List.getD,List.getElem?_eq_getElem this]⟩
theorem sx {s:List UInt8} {y:UInt8} {i:Nat} {g:G} {K:AV->Prop} (hx:s[i]?=some y) (hk:K (.int .u8 y.toNat)) :
  ∃ (j:Nat) (y:UInt8),gP g ((i:Int)=(j:Int)/\s[j]?=some y)/\K (.int .u8 y.toNat):=⟨i,y,af ⟨rfl,hx⟩,hk⟩
theorem Xv {s:List UInt8} {g:G} {n:Int} {K:AV->Prop} (h:gP g (0<=n/\n<s.length)) (hk:K (.int .u8 (s.getD n.toNat 0).toNat)) :
  ∃ (j:Nat) (y:UInt8),gP g (n=(j:Int)/\s[j]?=some y)/\K (.int .u8 y.toNat):=by
 refine ⟨n.toNat,_,Cv ?_ h,hk⟩;rintro ⟨h1,h2⟩;have:n.toNat<s.length:=(by omega);exact ⟨by omega,by simp [List.getD,List.getElem?_eq_getElem this]⟩
theorem aN {α:Type} {l:List α} {i:Nat} (h:i<l.length):∃ x,l[i]?=some x:=⟨_,List.getElem?_eq_getElem h⟩
theorem drop_cons {α:Type} {l:List α} {i:Nat} {x:α} (h:l[i]?=some x):l.drop i=x::l.drop (i+1):=by obtain ⟨h1,h2⟩:=List.getElem?_eq_some_iff.1 h;rw [List.drop_eq_getElem_cons h1,h2]
theorem drop_nil {α:Type} {l:List α} {i:Nat} (h:l.length<=i):l.drop i=[]:=List.drop_eq_nil_of_le h
theorem aX {P:Program} {g:G} {f:FuncId} {vs:List AV} {v:AV} {h:ab} {K:AV->Prop} (hq:ae P f vs [] v) (hk:K v):∃ v,gP g (ae P f vs h v)/\K v:=
 ⟨v,af (hq.wide h),hk⟩
theorem ae.of {P:Program} {f:FuncId} {args:List AV} {v:AV} (hq:ay P f args [] (fun v' _=>ag v' v)):ae P f args [] v:=
 ay.post hq fun v' h1 hv=>⟨v,[],⟨rfl,rfl⟩,hv,by simp,by simp [keys]⟩
theorem ae.yk {P:Program} {f:FuncId} {args:List AV} {v:AV} (hq:ay P f args [] (fun v' _=>v'=v)):ae P f args [] v:=
 ae.of (ay.mono (by rintro v' h rfl;exact ag.refl _) hq)
theorem ay.PT {P:Program} {f:FuncId} {k:Nat} {as:List AV} {h:ab} {R:AV->ab->Prop} (h1:ay P f (.aW::as) h R) (h2:ay P f (.vF k::as) h R):ay P f (.sl k none []::as) h R:=by
 refine ⟨fun X g w us hc hr=>?_⟩;simp only [av] at hr;obtain ⟨u,r,hu,hx,hr⟩:=hr;simp only [aa] at hx;obtain ⟨base,cap,rfl,_,_,hk,hn,_⟩:=hx;cases base with
 | none=>
   refine h1.1 X g w us hc ?_;simp only [av];exact ⟨_,r,hu,by simp [aa,hn rfl],hr⟩
 | some a=>
   refine h2.1 X g w us hc ?_;simp only [av];exact ⟨_,r,hu,by simp [aa,hk],hr⟩
section
variable {κ ν:Type} [DecidableEq κ]
def dF (k:κ):List (κ × ν)->Option ν
 | []=>none
 | (x,v)::es=>if k=x then some v else dF k es
def wx (k:κ) (v:ν):List (κ × ν)->List (κ × ν)
 | []=>[(k,v)]
 | (x,u)::es=>if k=x then (k,v)::es else (x,u)::wx k v es
def po (ek:κ->AV) (ev:ν->AV) (es:List (κ × ν)):List (AV × AV):=es.map fun p=>(ek p.1,ev p.2)
variable {P:Program} {t:TypeId} {ek:κ->AV} {ev:ν->AV}
theorem JZ (heq:∀ a b,ju P t (ek a) (ek b)=some (decide (a=b))) (k:κ):∀ es:List (κ × ν),qE P t (ek k) (po ek ev es)=some ((dF k es).map ev)
 | []=>rfl
 | (x,v)::es=>by
   have ih:=JZ heq k es;unfold po at ih ⊢;rw [List.map_cons,qE];simp only [heq,dF];by_cases h:k=x
   ·simp [h]
   simp [h,ih]
theorem PU (heq:∀ a b,ju P t (ek a) (ek b)=some (decide (a=b))) (k:κ) (v:ν):∀ es:List (κ × ν),oK P t (ek k) (ev v) (po ek ev es)=po ek ev (wx k v es)
 | []=>rfl
 | (x,u)::es=>by
   have ih:=PU heq k v es;unfold po at ih ⊢;rw [List.map_cons,oK];simp only [heq,wx];by_cases h:k=x
   ·simp [h]
   simp [h,ih]
theorem OG (heq:∀ a b,ju P t (ek a) (ek b)=some (decide (a=b))) (k:κ) (es:List (κ × ν)) (z:AV) :
  xj P t (ek k) (po ek ev es) z=some (((dF k es).map ev).getD z,(dF k es).isSome):=by
 unfold xj;rw [JZ heq];cases dF k es<;>rfl
theorem IW (heq:∀ a b,ju P t (ek a) (ek b)=some (decide (a=b))) (hp:pQ P t=true) (k:κ):rB P t (ek k):=⟨hp,by rw [heq];simp⟩
theorem PV {es:List (κ × Int)} {k:κ} {b:Nat} {h:ab} {g:G} {ok:Bool} {K:AV->Prop} (hm:(b,Ob.map (po ek (AV.int .i64) es))∈h) (heq:∀ a b,ju P t (ek a) (ek b)=some (decide (a=b))) (hp:pQ P t=true)
  (hk:K (rC ok (.int .i64 ((dF k es).getD 0)) (dF k es).isSome)) :
  ∃ es v f,(b,Ob.map es)∈h/\gP g (rB P t (ek k)/\xj P t (ek k) es (.int .i64 0)=some (v,f))/\K (rC ok v f):=by
 refine ⟨_,_,_,hm,af ⟨IW heq hp k,OG heq k es _⟩,?_⟩;have:((dF k es).map (AV.int .i64)).getD (.int .i64 0)=.int .i64 ((dF k es).getD 0):=by cases dF k es<;>rfl
 rw [this];exact hk
theorem OJ {es:List (κ × ν)} {k:κ} {v:ν} {b:Nat} {h h':ab} {K:AV->ab->Prop} (heq:∀ a b,ju P t (ek a) (ek b)=some (decide (a=b))) (hp:pQ P t=true)
  (hu:cH b (.map (po ek ev es)) b (.map (po ek ev (wx k v es))) h h') (hk:K .unit h') :
  ∃ es h',cH b (.map es) b (.map (oK P t (ek k) (ev v) es)) h h'/\(rB P t (ek k)/\qE P t (ek k) es≠none)/\K .unit h':=
 ⟨po ek ev es,h',by rw [PU heq];exact hu,⟨IW heq hp k,by rw [JZ heq];simp⟩,hk⟩
end
end Go.Abs
/-
 The abstract fB,part V: steps of the ghost state alone: a value said less exactly,an object left behind,a row of Xw own that Q9 writes any more.
-/
namespace Go.Abs
open Go
variable {P:Program} {n:Nat} {X:Nat->Prop} {g0:Gh} {r:aC} {h:ab} {a:Act} {w:World}
mutual
inductive iW (b:Nat) (cs:List AV):AV->AV->Prop
 | refl (x:AV):iW b cs x x
 | le {x y:AV}:ag x y->iW b cs x y
 | row {off len k:Nat} {xs pre post:List (List AV)} {wC:List (List AV)} (e:cs=pre.flatten++xs.flatten++post.flatten) (ho:pre.flatten.length=off) (hl:xs.length=len) (hk:∀ x∈xs,x.length=k):iW b cs (.aR b off len k) (.sl k none xs)
 | ptr {off:Nat} {l:List AV} (e:cs.drop off=l):iW b cs (.bn b off) (.au l)
 | aQ {xs ys:List AV}:kR b cs xs ys->iW b cs (.aQ xs) (.aQ ys)
 | agg {xs ys:List AV}:kR b cs xs ys->iW b cs (.agg xs) (.agg ys)
inductive kR (b:Nat) (cs:List AV):List AV->List AV->Prop
 | nil:kR b cs [] []
 | cons {x y:AV} {xs ys:List AV}:iW b cs x y->kR b cs xs ys->kR b cs (x::xs) (y::ys)
end
inductive tX (b:Nat) (cs:List AV):aC->aC->Prop
 | nil:tX b cs [] []
 | cons {t:Nat} {g:G} {x y:AV} {r r':aC}:iW b cs x y->tX b cs r r'->tX b cs ((t,g,x)::r) ((t,g,y)::r')
inductive kN (b:Nat) (cs:List AV):ab->ab->Prop
 | nil:kN b cs [] []
 | same {k:Nat} {o:Ob} {h h':ab}:kN b cs h h'->kN b cs ((k,o)::h) ((k,o)::h')
 | vec {k:Nat} {xs ys:List AV} {h h':ab}:kR b cs xs ys->kN b cs h h'->kN b cs ((k,.vec xs)::h) ((k,.vec ys)::h')
theorem kR.refl {b:Nat} {cs:List AV}:∀ xs,kR b cs xs xs
 | []=>.nil
 | x::xs=>.cons (.refl x) (kR.refl xs)
theorem tX.refl {b:Nat} {cs:List AV}:∀ r,tX b cs r r
 | []=>.nil
 | (t,g,x)::r=>.cons (.refl x) (tX.refl r)
theorem kN.refl {b:Nat} {cs:List AV}:∀ h,kN b cs h h
 | []=>.nil
 | (k,o)::h=>.same (kN.refl h)
theorem kR.get {b:Nat} {cs:List AV}:∀ {xs ys:List AV},kR b cs xs ys->xs.length=ys.length/\∀ (i:Nat) y,ys[i]?=some y->∃ x,xs[i]?=some x/\iW b cs x y
 | _,_,.nil=>⟨rfl,fun i y h=>by cases h⟩
 | _,_,.cons h1 h2=>by
   have ih:=h2.get;refine ⟨by simp [ih.1],fun i y hi=>?_⟩;cases i with
   | zero=>cases hi;exact ⟨_,rfl,h1⟩
   | succ i=>exact ih.2 i y (by simpa using hi)
mutual
theorem iW.rep {c c':Cx} {b:Nat} {cs:List AV} (h0:∀ x u,aa c x u->aa c' x u)
  (wQ:∀ (off k:Nat) (xs pre post:List (List AV)),cs=pre.flatten++xs.flatten++post.flatten->pre.flatten.length=off->(∀ x∈xs,x.length=k)->∀ u,aa c (.aR b off xs.length k) u->aa c' (.sl k none xs) u)
  (Ag:∀ (off:Nat) (l:List AV),cs.drop off=l->∀ u,aa c (.bn b off) u->aa c' (.au l) u):∀ {x y:AV},iW b cs x y->∀ u,aa c x u->aa c' y u
 | _,_,.refl x,u,h=>h0 x u h
 | _,_,.le hle,u,h=>h0 _ _ (hle _ _ h)
 | _,_,.row e ho hl hk,u,h=>by subst hl;exact wQ _ _ _ _ _ e ho hk u h
 | _,_,.ptr e,u,h=>Ag _ _ e u h
 | _,_,.aQ hs,u,h=>by simp only [aa] at h ⊢;obtain ⟨us,hv,hr⟩:=h;exact ⟨us,hv,kR.rep h0 wQ Ag hs _ hr⟩
 | _,_,.agg hs,u,h=>by simp only [aa] at h ⊢;obtain ⟨us,hv,h1,hr⟩:=h;exact ⟨us,hv,h1,kR.rep h0 wQ Ag hs _ hr⟩
theorem kR.rep {c c':Cx} {b:Nat} {cs:List AV} (h0:∀ x u,aa c x u->aa c' x u)
  (wQ:∀ (off k:Nat) (xs pre post:List (List AV)),cs=pre.flatten++xs.flatten++post.flatten->pre.flatten.length=off->(∀ x∈xs,x.length=k)->∀ u,aa c (.aR b off xs.length k) u->aa c' (.sl k none xs) u)
  (Ag:∀ (off:Nat) (l:List AV),cs.drop off=l->∀ u,aa c (.bn b off) u->aa c' (.au l) u):∀ {xs ys:List AV},kR b cs xs ys->∀ us,av c xs us->av c' ys us
 | _,_,.nil,us,h=>by simpa [av] using h
 | _,_,.cons h1 h2,us,h=>by simp only [av] at h ⊢;obtain ⟨u,r,rfl,a,d⟩:=h;exact ⟨u,r,rfl,iW.rep h0 wQ Ag h1 u a,kR.rep h0 wQ Ag h2 r d⟩
end
theorem kN.keys {b:Nat} {cs:List AV} {h h':ab} (hz:kN b cs h h'):Abs.keys h'=Abs.keys h:=by
 induction hz with
 | nil=>rfl
 | same _ ih=>simp only [Abs.keys,List.map_cons] at ih ⊢;rw [ih]
 | vec _ _ ih=>simp only [Abs.keys,List.map_cons] at ih ⊢;rw [ih]
theorem kN.get {b:Nat} {cs:List AV} {h h':ab} (hz:kN b cs h h'):∀ k o,(k,o)∈h'->(k,o)∈h\/∃ xs ys,o=.vec ys/\(k,Ob.vec xs)∈h/\kR b cs xs ys:=by
 induction hz with
 | nil=>intro k o hm;cases hm
 | same _ ih=>
   intro k o hm;cases List.mem_cons.1 hm with
   | inl e=>cases e;exact .inl (by simp)
   | inr e=>
     rcases ih k o e with h1|⟨xs,ys,e1,e2,e3⟩
     ·exact .inl (by simp [h1])
     exact .inr ⟨xs,ys,e1,by simp [e2],e3⟩
 | vec hv _ ih=>
   intro k o hm;cases List.mem_cons.1 hm with
   | inl e=>cases e;exact .inr ⟨_,_,rfl,by simp,hv⟩
   | inr e=>
     rcases ih k o e with h1|⟨xs,ys,e1,e2,e3⟩
     ·exact .inl (by simp [h1])
     exact .inr ⟨xs,ys,e1,by simp [e2],e3⟩
theorem tX.look {b:Nat} {cs:List AV} {r r':aC} (hz:tX b cs r r'):∀ t gg y,bj r' t=some (gg,y)->∃ x,bj r t=some (gg,x)/\iW b cs x y:=by
 induction hz with
 | nil=>intro t gg y h;cases h
 | cons h1 _ ih=>
   intro t gg y h;rw [qo] at h ⊢;split at h
   ·rename_i e;cases h;subst e;exact ⟨_,by simp,h1⟩
   rename_i e;rw [if_neg e];exact ih t gg y h
theorem CW.Ah {h':ab} (hc:CW X g0 h w) (hk:keys h'=keys h) (ho:∀ k o',(k,o')∈h'->nU ⟨g0,live X h,w⟩ k o'):CW X g0 h' w/\Step X g0 h w g0 h' w:=by
 have PW:live X h'=live X h:=by unfold live;rw [hk]
 refine ⟨⟨hc.own,?_,by rw [hk];exact hc.nodup,fun k hm=>hc.sep k (by rw [<- hk];exact hm),fun k o hm=>by rw [PW];exact ho k o hm⟩,?_⟩
 ·obtain ⟨N,hN⟩:=hc.bound;exact ⟨N,fun k hh=>hN k (by rw [hk] at hh;exact hh)⟩
 have:=Step.refl X g0 h w;exact ⟨this.os,this.xf,this.output,this.size,this.pl,this.yV,this.xg,this.AO,fun b hb hn=>⟨rfl,fun k s e=>by rw [hk];exact hn k s e⟩,this.cK,fun b k s e hm k' s' e' hl=>this.xh b k s e hm k' s' e' (by rw [PW] at hl;exact hl)⟩
theorem PX {c:Cx} {k:Nat} {b:Nat}:∀ {xs:List (List AV)} {o:Nat},(∀ x∈xs,x.length=k)->bz c xs.flatten b o->cm c k xs b o
 | [],o,_,_=>by simp [cm]
 | x::xs,o,hk,h=>by simp only [List.flatten_cons] at h;have hx:=hk x (by simp);have h1:=bz.take x.length h;have h2:=bz.drop x.length (by simp) h;simp only [List.take_left,List.drop_left] at h1 h2;simp only [cm];exact ⟨⟨hx,h1⟩,PX (fun y hy=>hk y (by simp [hy])) (by rw [<- hx];exact h2)⟩
theorem freeze {b:Nat} {cs:List AV} {h1:ab} (hr:aK b (.vec cs) h h1) (hc:CW X g0 h w) :
  CW X g0 h1 w/\Step X g0 h w g0 h1 w/\∀ x y,iW b cs x y->∀ u,aa ⟨g0,live X h,w⟩ x u->aa ⟨g0,live X h1,w⟩ y u:=by
 obtain ⟨l1,l2,rfl,rfl⟩:=aK.split hr
 obtain ⟨s1,s2⟩:=hc.sub (h':=l1++l2) (by
   intro k o hm;simp only [List.mem_append,List.mem_cons] at hm ⊢;rcases hm with h|h
   ·exact .inl h
   ·exact .inr (.inr h)) (by
   have:=hc.nodup;rw [tI] at this;simp only [keys,List.map_append,List.nodup_append,List.nodup_cons,List.mem_cons] at this ⊢;exact ⟨this.1,this.2.1.2,fun x hx y hy=>this.2.2 x hx y (.inr hy)⟩)
 refine ⟨s1,s2,?_⟩;have BX:=hc.sj;have BY:=hc.sep b (by rw [iQ];exact .inl rfl);have jm:=hc.obj b (.vec cs) (by simp);obtain ⟨p,cc,t,q1,q2,q3,q4,q5,q6⟩:=jm
 have bR:bz ⟨g0,live X (l1++l2),w⟩ cs p.block p.off:=by
  have key:∀ (xs:List AV) (o:Nat),(∀ (i:Nat) x,xs[i]?=some x->∃ u,cc[p.off+(o+i)]?=some u/\u.oneCell'=true/\aa ⟨g0,live X (l1++(b,.vec cs)::l2),w⟩ x u)->bz ⟨g0,live X (l1++l2),w⟩ xs p.block (p.off+o):=by
   intro xs;induction xs with
   | nil=>intro o _;simp [bz]
   | cons x xs ih=>
     intro o hh;simp only [bz];obtain ⟨u,h1,h2,h3⟩:=hh 0 x (by simp);refine ⟨⟨u,?_,h2,?_,aa.mono (Step.le s2) _ _ h3⟩,?_⟩
     ·have Xx:w.heap[p.block]?=some (.cells cc t (0,0)):=q4;show w.cell? _=_;simpa [World.cell?,Xx] using h1
     ·intro k s ho wq;rw [q3] at ho;cases ho
      rcases wq with hx|hk
      ·exact absurd hx BY
      exact absurd hk BX
     rw [show p.off+o+1=p.off+(o+1) from rfl];refine ih (o+1) (fun i x hx=>?_);have:=hh (i+1) x (by simpa using hx);rwa [show o+(i+1)=o+1+i from by omega] at this
  exact key cs 0 (fun i x hx=>by simpa using q6 i x hx)
 intro x y oD u hu;refine iW.rep (c:=⟨g0,live X (l1++(b,.vec cs)::l2),w⟩) (fun x u h=>aa.mono (Step.le s2) _ _ h) ?_ ?_ oD u hu
 ·intro off k xs pre post e ho hk u hu;simp only [aa] at hu ⊢;obtain ⟨p',cap,o',e1,e2,rfl,e3,e4,e5,e6,e7,e8⟩:=hu;rw [q1] at e1;cases e1
  refine ⟨_,cap,rfl,by omega,by omega,e5,by simp,by simp,?_,by simp⟩;rintro ad ⟨⟩;by_cases kF:xs=[]
  ·subst kF;simp [cm]
  rw [e7 (by have:=List.length_pos_iff.2 kF;omega)];have hd:=bz.drop off (by rw [e,List.length_append,List.length_append,ho];omega) bR;have ku:=bz.take xs.flatten.length hd;rw [e,List.append_assoc,<- ho,List.drop_left,List.take_left] at ku;rw [ho] at ku;exact PX hk ku
 intro off l e u hu;simp only [aa] at hu ⊢;obtain ⟨p',e1,e2,rfl⟩:=hu;rw [q1] at e1;cases e1
 refine ⟨_,_,rfl,?_⟩;subst e;by_cases ho:off<=cs.length
 ·exact bz.drop off ho bR
 rw [List.drop_eq_nil_of_le (by omega)];simp [bz]
def ar (r:aC) (h:ab) (r':aC) (h':ab):Prop:=∀ n X g a w,bK n X g r h a w->∃ g',bK n X g' r' h' a w/\Step X g h w g' h' w
theorem ar.refl (r:aC) (h:ab):ar r h r h:=fun n X g a w hc=>⟨g,hc,Step.refl _ _ _ _⟩
theorem ar.trans {r1 r2 r3:aC} {h1 h2 h3:ab} (a:ar r1 h1 r2 h2) (b:ar r2 h2 r3 h3):ar r1 h1 r3 h3:=by intro n X g ac w hc;obtain ⟨g1,c1,s1⟩:=a n X g ac w hc;obtain ⟨g2,c2,s2⟩:=b n X g1 ac w c1;exact ⟨g2,c2,s1.trans hc.cw.own s2⟩
theorem ar.freeze {r r':aC} {h h1 h':ab} {b:Nat} {cs:List AV} (hr:aK b (.vec cs) h h1) (hh:kN b cs h1 h') (hz:tX b cs r r'):ar r h r' h':=by
 intro n X g a w hc;obtain ⟨c1,s1,hv⟩:=Abs.freeze hr hc.cw
 have gm:∀ k o,(k,o)∈h1->(k,o)∈h:=by
  obtain ⟨l1,l2,rfl,rfl⟩:=aK.split hr;intro k o hm;simp only [List.mem_append,List.mem_cons] at hm ⊢;rcases hm with h|h
  ·exact .inl h
  exact .inr (.inr h)
 obtain ⟨c2,s2⟩:=c1.Ah hh.keys (fun k o' hm=>by
  rcases hh.get k o' hm with h1|⟨xs,ys,rfl,h2,h3⟩
  ·exact c1.obj k o' h1
  obtain ⟨p,cc,t,q1,q2,q3,q4,q5,q6⟩:=hc.cw.obj k (.vec xs) (gm _ _ h2);obtain ⟨l,hg⟩:=h3.get;refine ⟨p,cc,t,q1,q2,q3,q4,by rw [<- l];exact q5,fun i y hy=>?_⟩;obtain ⟨x,hx,oD⟩:=hg i y hy;obtain ⟨u,u1,u2,u3⟩:=q6 i x hx;exact ⟨u,u1,u2,hv x y oD u u3⟩)
 refine ⟨g,⟨c2,fun t gg y hl=>?_,hc.defers,hc.size⟩,s1.trans hc.cw.own s2⟩;obtain ⟨x,hx,oD⟩:=hz.look t gg y hl;obtain ⟨k1,k2⟩:=hc.kX t gg x hx;refine ⟨fun hh=>?_,k2⟩;obtain ⟨m1,u,m2,m3⟩:=k1 hh;exact ⟨m1,u,m2,aa.mono (Step.le s2) _ _ (hv x y oD u m3)⟩
inductive je:aC->aC->Prop
 | nil:je [] []
 | cons {t:Nat} {g:G} {x y:AV} {r r':aC}:ag x y->je r r'->je ((t,g,x)::r) ((t,g,y)::r')
theorem je.refl:∀ r,je r r
 | []=>.nil
 | (t,g,x)::r=>.cons (ag.refl x) (je.refl r)
theorem je.look {r r':aC} (hz:je r r'):∀ t gg y,bj r' t=some (gg,y)->∃ x,bj r t=some (gg,x)/\ag x y:=by
 induction hz with
 | nil=>intro t gg y h;cases h
 | cons h1 _ ih=>
   intro t gg y h;rw [qo] at h ⊢;split at h
   ·rename_i e;cases h;subst e;exact ⟨_,by simp,h1⟩
   rename_i e;rw [if_neg e];exact ih t gg y h
theorem ar.qP {r r':aC} {h:ab} (hz:je r r'):ar r h r' h:=by intro n X g a w hc;refine ⟨g,⟨hc.cw,fun t gg y hl=>?_,hc.defers,hc.size⟩,Step.refl _ _ _ _⟩;obtain ⟨x,hx,oD⟩:=hz.look t gg y hl;obtain ⟨k1,k2⟩:=hc.kX t gg x hx;refine ⟨fun hh=>?_,k2⟩;obtain ⟨m1,u,m2,m3⟩:=k1 hh;exact ⟨m1,u,m2,oD _ u m3⟩
theorem ar.cells {r:aC} {h h':ab} {b:Nat} {xs ys:List AV} (hu:cH b (.vec xs) b (.vec ys) h h') (hv:cP xs ys):ar r h r h':=by
 intro n X g a w hc
 have si:keys h'=keys h:=by
  clear hc;induction hu with
  | here l=>rfl
  | there _ ih=>simp only [keys,List.map_cons] at ih ⊢;rw [ih]
 have lg:∀ k o',(k,o')∈h'->(k,o')∈h\/(k=b/\o'=.vec ys/\(b,Ob.vec xs)∈h):=by
  clear hc si;induction hu with
  | here l=>intro k o' hm;cases List.mem_cons.1 hm with
    | inl e=>cases e;exact .inr ⟨rfl,rfl,by simp⟩
    | inr e=>exact .inl (by simp [e])
  | there _ ih=>intro k o' hm;cases List.mem_cons.1 hm with
    | inl e=>subst e;exact .inl (by simp)
    | inr e=>
      rcases ih k o' e with h1|⟨h1,h2,h3⟩
      ·exact .inl (by simp [h1])
      exact .inr ⟨h1,h2,by simp [h3]⟩
 have hlen:∀ {xs ys:List AV},cP xs ys->xs.length=ys.length/\∀ (i:Nat) y,ys[i]?=some y->∃ x,xs[i]?=some x/\ag x y:=by
  intro xs ys hv;induction hv with
  | nil=>exact ⟨rfl,fun i y h=>by cases h⟩
  | cons h1 _ ih=>
    refine ⟨by simp [ih.1],fun i y hi=>?_⟩;cases i with
    | zero=>cases hi;exact ⟨_,rfl,h1⟩
    | succ i=>exact ih.2 i y (by simpa using hi)
 obtain ⟨c2,s2⟩:=hc.cw.Ah si (fun k o' hm=>by
  rcases lg k o' hm with h1|⟨rfl,rfl,h2⟩
  ·exact hc.cw.obj k o' h1
  obtain ⟨p,cc,t,q1,q2,q3,q4,q5,q6⟩:=hc.cw.obj k (.vec xs) h2;obtain ⟨l,hg⟩:=hlen hv;refine ⟨p,cc,t,q1,q2,q3,q4,by rw [<- l];exact q5,fun i y hy=>?_⟩;obtain ⟨x,hx,oD⟩:=hg i y hy;obtain ⟨u,u1,u2,u3⟩:=q6 i x hx;exact ⟨u,u1,u2,oD _ _ u3⟩)
 exact ⟨g,hc.step c2 s2,s2⟩
theorem ar.cut {r:aC} {h h':ab} {b:Nat} {xs ys:List AV} (hu:cH b (.vec (xs++ys)) b (.vec xs) h h'):ar r h r h':=by
 intro n X g a w hc
 have si:keys h'=keys h:=by
  clear hc;induction hu with
  | here l=>rfl
  | there _ ih=>simp only [keys,List.map_cons] at ih ⊢;rw [ih]
 have lg:∀ k o',(k,o')∈h'->(k,o')∈h\/(k=b/\o'=.vec xs/\(b,Ob.vec (xs++ys))∈h):=by
  clear hc si;induction hu with
  | here l=>intro k o' hm;cases List.mem_cons.1 hm with
    | inl e=>cases e;exact .inr ⟨rfl,rfl,by simp⟩
    | inr e=>exact .inl (by simp [e])
  | there _ ih=>intro k o' hm;cases List.mem_cons.1 hm with
    | inl e=>subst e;exact .inl (by simp)
    | inr e=>
      rcases ih k o' e with h1|⟨h1,h2,h3⟩
      ·exact .inl (by simp [h1])
      exact .inr ⟨h1,h2,by simp [h3]⟩
 obtain ⟨c2,s2⟩:=hc.cw.Ah si (fun k o' hm=>by
  rcases lg k o' hm with h1|⟨rfl,rfl,h2⟩
  ·exact hc.cw.obj k o' h1
  obtain ⟨p,cc,t,q1,q2,q3,q4,q5,q6⟩:=hc.cw.obj k (.vec (xs++ys)) h2;simp only [List.length_append] at q5;exact ⟨p,cc,t,q1,q2,q3,q4,by omega,fun i y hy=>q6 i y (by rw [List.getElem?_append_left (List.getElem?_eq_some_iff.1 hy).1];exact hy)⟩)
 exact ⟨g,hc.step c2 s2,s2⟩
theorem ar.sub {r:aC} {h h':ab} (gm:∀ k o,(k,o)∈h'->(k,o)∈h) (dZ:(keys h).Nodup->(keys h').Nodup):ar r h r h':=by intro n X g a w hc;obtain ⟨c1,s1⟩:=hc.cw.sub gm (dZ hc.cw.nodup);exact ⟨g,hc.step c1 s1,s1⟩
theorem ar.drop {r:aC} {h h':ab} {b:Nat} {o:Ob} (hr:aK b o h h'):ar r h r h':=by
 obtain ⟨l1,l2,rfl,rfl⟩:=aK.split hr;refine ar.sub ?_ ?_
 ·intro k o hm;simp only [List.mem_append,List.mem_cons] at hm ⊢;rcases hm with h|h
  ·exact .inl h
  exact .inr (.inr h)
 intro this;rw [tI] at this;simp only [keys,List.map_append,List.nodup_append,List.nodup_cons,List.mem_cons] at this ⊢;exact ⟨this.1,this.2.1.2,fun x hx y hy=>this.2.2 x hx y (.inr hy)⟩
theorem Xy {c:Code} {Q:Ex->aC->ab->Prop} {r r':aC} {h h':ab} (ht:ar r h r' h') (hh:Holds P n X c Q r' h'):Holds P n X c Q r h:=by refine ⟨fun g a w hc=>?_⟩;obtain ⟨g',c1,s1⟩:=ht n X g a w hc;refine wp_mono (hh.holds g' a w c1) ?_;rintro e a' w' ⟨ex,g2,r2,h2,rfl,hQ,cJ,aA⟩;exact ⟨ex,g2,r2,h2,rfl,hQ,cJ,s1.trans hc.cw.own aA⟩
def Ai (J:aC->ab->Prop) (r:aC) (h:ab):Prop:=∃ r' h',ar r h r' h'/\J r' h'
theorem cy {P:Program} {c:aw} {F:Func} {E:En} {p:List Bool} {S:List Fr} {k:Nat} {body:Code} {r:aC} {h:ab} (fJ:cat F p=.loop body) (hm:P.follows .mixedOrders=true) (ks:List Nat) (ts:List (Nat × Nat)) (J:Nat->aC->ab->Prop)
  (h0:mq ks ts (Ai fun r h=>∃ m,J m r h) r h)
  (hb:∀ m r h,J m r h->run P c F E k (.go (false::p)) (.head (mq ks ts (Ai fun r h=>∃ m',m'<m/\J m' r h))::S) r h) :
  Holds P E.n E.X (cat F p) (fun e r h=>run P c F E k (.ex e) S r h) r h:=by
 rw [fJ]
 have cR:∀ {J J':aC->ab->Prop} {r:aC} {h:ab},(∀ r h,J r h->J' r h)->mq ks ts J r h->mq ks ts J' r h:=by
  intro J J' r h hj;unfold mq
  have:∀ {l:List (Nat × Nat)} {K K':aC->ab->Prop},(∀ r h,K r h->K' r h)->∀ {r:aC} {h:ab},wP l r h K->wP l r h K':=by
   intro l;induction l with
   | nil=>intro K K' hk r h hr;exact hk _ _ hr
   | cons x l ih=>
     obtain ⟨t,k⟩:=x;intro K K' hk r h hr;unfold wP at hr ⊢;split at hr
     ·exact ⟨hr.1,fun q=>ih hk (hr.2 q)⟩
     exact ih hk hr
  exact this fun r h=>yA fun r'=>hj r' h
 refine JP ks ts (fun m=>Ai (J m)) (cR ?_ h0) fun m r h hJ=>?_
 ·rintro r h ⟨r',h',ht,m,hj⟩;exact ⟨m,r',h',ht,hj⟩
 obtain ⟨r1,h1,ht,hJ⟩:=hJ;refine Xy ht ?_;have:=Fz hm k (false::p) _ (hb m r1 h1 hJ);have e:cat F (false::p)=body:=(by simp [cat,fJ,child]);rw [e] at this;refine Af (fun e r h hQ=>?_) this;cases k with
 | zero=>exact hQ.elim
 | succ k=>
   simp only [nJ] at hQ;unfold run at hQ;cases e with
   | normal=>
     refine cR ?_ hQ;rintro r h ⟨r',h',ht,m',aL,hj⟩;exact ⟨m',aL,r',h',ht,hj⟩
   | exit i=>exact pD k _ _ _ (by omega) hQ
   | ret=>exact pD k _ _ _ (by omega) hQ
theorem ay.xk {f:FuncId} {args:List AV} {R R':AV->ab->Prop} {h:ab} (hf:ay P f args h R)
  (hp:∀ v h1,R v h1->∃ b cs h2 h3 v',aK b (.vec cs) h1 h2/\kN b cs h2 h3/\iW b cs v v'/\R' v' h3):ay P f args h R':=by
 refine ⟨fun X g w us hc hr=>?_⟩;refine (hf.1 X g w us hc hr).mono fun e w' he=>?_;obtain ⟨v,u,g',h1,rfl,hR,eM,hu,hs⟩:=he;obtain ⟨b,cs,h2,h3,v',e1,e2,e3,e4⟩:=hp v h1 hR;obtain ⟨c1,s1,hv⟩:=Abs.freeze e1 eM
 have gm:∀ k o,(k,o)∈h2->(k,o)∈h1:=by
  obtain ⟨l1,l2,rfl,rfl⟩:=aK.split e1;intro k o hm;simp only [List.mem_append,List.mem_cons] at hm ⊢;rcases hm with h|h
  ·exact .inl h
  exact .inr (.inr h)
 obtain ⟨c2,s2⟩:=c1.Ah e2.keys (fun k o' hm=>by
  rcases e2.get k o' hm with h1|⟨xs,ys,rfl,h2,h3⟩
  ·exact c1.obj k o' h1
  obtain ⟨p,cc,t,q1,q2,q3,q4,q5,q6⟩:=eM.obj k (.vec xs) (gm _ _ h2);obtain ⟨l,hg⟩:=h3.get;refine ⟨p,cc,t,q1,q2,q3,q4,by rw [<- l];exact q5,fun i y hy=>?_⟩;obtain ⟨x,hx,oD⟩:=hg i y hy;obtain ⟨u,u1,u2,u3⟩:=q6 i x hx;exact ⟨u,u1,u2,hv x y oD u u3⟩)
 exact ⟨v',u,g',h3,rfl,e4,c2,aa.mono (Step.le s2) _ _ (hv v v' e3 u hu),hs.trans hc.own (s1.trans eM.own s2)⟩
end Go.Abs
/-
 The abstract fB,part X: rows of Xw own,of one cell an element.
-/
namespace Go.Abs
open Go
theorem Bi:∀ {n:Nat} {cs:List AV},n<=cs.length->iG n cs=some (cs.drop n)
 | 0,cs,_=>by cases cs<;>rfl
 | n+1,[],h=>by simp at h
 | n+1,c::cs,h=>by have:=Bi (n:=n) (cs:=cs) (by simpa using h);simpa [iG] using this
theorem Xz {vs:List AV} {j:Nat} {v:AV} (h:j<vs.length):cY vs j [v]=vs.set j v:=by unfold cY;rw [List.set_eq_take_append_cons_drop];simp [h]
theorem Ka (n:Nat) (v:AV):iY n [v]=List.replicate n v:=by
 unfold iY;induction n with
 | zero=>rfl
 | succ n ih=>simp only [List.replicate_succ,List.flatten_cons,ih];rfl
theorem iK {g:G} {b off len k i:Nat} {K:AV->Prop} (hi:i<len) (hk:K (.bn b (off+i*k))):∃ (j:Nat),gP g ((i:Int)=(j:Int)/\j<len)/\K (.bn b (off+j*k)):=
 ⟨i,af ⟨rfl,hi⟩,hk⟩
theorem xI {g:G} {b off len k:Nat} {n:Int} {K:AV->Prop} (hi:gP g (0<=n/\n<len)) (hk:K (.bn b (off+n.toNat*k))):∃ (j:Nat),gP g (n=(j:Int)/\j<len)/\K (.bn b (off+j*k)):=
 ⟨n.toNat,Cv (fun ⟨h1,h2⟩=>⟨by omega,by omega⟩) hi,hk⟩
theorem XA {P:Program} {t:TypeId} {v:AV} {l:List AV} {K:AV->Prop} (ht:mX P t=some false) (hk:K v):fZ P t (v::l) K:=by unfold fZ;rw [ht];exact hk
theorem XB {P:Program} {t:TypeId} {b o:Nat} {vs:List AV} {v:AV} {h:ab} {K:AV->Prop} (hm:(b,Ob.vec vs)∈h) (ht:mX P t=some false) (hv:vs[o]?=some v) (hk:K v) :
  ∃ cs l,(b,Ob.vec cs)∈h/\iG o cs=some l/\fZ P t l K:=by
 obtain ⟨h1,h2⟩:=List.getElem?_eq_some_iff.1 hv;refine ⟨vs,vs.drop o,hm,Bi (by omega),?_⟩;rw [List.drop_eq_getElem_cons h1,h2];exact XA ht hk
theorem XC {b o:Nat} {vs:List AV} {v:AV} {h h':ab} {K:AV->ab->Prop} (ho:o<vs.length) (hu:cH b (.vec vs) b (.vec (vs.set o v)) h h') (hk:K .unit h') :
  ∃ cs h',cH b (.vec cs) b (.vec (cY cs o [v])) h h'/\(0<[v].length/\o+[v].length<=cs.length)/\K .unit h':=
 ⟨vs,h',by rw [Xz ho];exact hu,⟨by simp,by simp;omega⟩,hk⟩
theorem XD {α:Type} {b:Nat} {ev:α->AV} {l:List α} {n:Nat} (hn:l.length=n):iW b (l.map ev) (.aR b 0 n 1) (.sl 1 none (l.map fun x=>[ev x])):=by
 refine iW.row (pre:=[]) (post:=[]) (wC:=[]) ?_ rfl (by simpa using hn) (by simp);clear hn;induction l with
 | nil=>rfl
 | cons x l ih=>simp at ih ⊢;exact ih
inductive iy:List (List AV)->List (List AV)->Prop
 | nil:iy [] []
 | cons {x y:List AV} {xs ys:List (List AV)}:cP x y->iy xs ys->iy (x::xs) (y::ys)
theorem iy.refl:∀ xs,iy xs xs
 | []=>.nil
 | x::xs=>.cons (cP.refl x) (iy.refl xs)
theorem iy.snoc {xs:List (List AV)} {x y:List AV} (h:cP x y):iy (xs++[x]) (xs++[y]):=by
 induction xs with
 | nil=>exact .cons h .nil
 | cons z xs ih=>exact .cons (cP.refl z) ih
theorem cP.length:∀ {xs ys:List AV},cP xs ys->xs.length=ys.length
 | _,_,.nil=>rfl
 | _,_,.cons _ h=>by simp [h.length]
theorem iy.length:∀ {xs ys:List (List AV)},iy xs ys->xs.length=ys.length
 | _,_,.nil=>rfl
 | _,_,.cons _ h=>by simp [h.length]
theorem cP.Kb {c:Cx}:∀ {xs ys:List AV} {b o:Nat},cP xs ys->bz c xs b o->bz c ys b o
 | _,_,_,_,.nil,h=>h
 | _,_,_,_,.cons h1 h2,h=>by simp only [bz] at h ⊢;obtain ⟨⟨u,a1,a2,a3,a4⟩,h⟩:=h;exact ⟨⟨u,a1,a2,a3,h1 _ _ a4⟩,h2.Kb h⟩
theorem iy.PY {c:Cx} {k:Nat}:∀ {xs ys:List (List AV)} {b o:Nat},iy xs ys->cm c k xs b o->cm c k ys b o
 | _,_,_,_,.nil,h=>h
 | _,_,_,_,.cons h1 h2,h=>by simp only [cm] at h ⊢;obtain ⟨⟨a1,a2⟩,h⟩:=h;exact ⟨⟨by rw [<- h1.length];exact a1,h1.Kb a2⟩,h2.PY h⟩
theorem ag.nx {k:Nat} {t:Option Nat} {xs ys:List (List AV)} (h:iy xs ys):ag (.sl k t xs) (.sl k t ys):=by intro c u hu;simp only [aa] at hu ⊢;obtain ⟨base,cap,hv,h1,h2,h3,h4,h5,h6,h7⟩:=hu;have hl:=h.length;refine ⟨base,cap,by rw [<- hl];exact hv,by omega,by omega,h3,h4,fun a ha aI=>h5 a ha (fun e=>aI (by subst e;exact List.eq_nil_of_length_eq_zero hl.symm)),fun a ha=>h.PY (h6 a ha),fun q hq=>?_⟩;rw [<- hl];exact h7 q hq
theorem ar.both {r r':aC} {h h':ab} (hr:je r r') (gm:∀ k o,(k,o)∈h'->(k,o)∈h) (dZ:(keys h').Nodup):ar r h r' h':=(ar.qP hr).trans (ar.sub gm fun _=>dZ)
theorem ar.one {r r':aC} {h:ab} {q:Nat} {o:Ob} (hr:je r r') (hm:(q,o)∈h):ar r h r' [(q,o)]:=
 ar.both hr (fun k o' hk=>by cases List.mem_singleton.1 hk;exact hm) (by simp [keys])
def dY (n:Nat) (f:Nat->AV):List AV:=(List.range n).map f
@[simp] theorem XE (n:Nat) (f:Nat->AV):(dY n f).length=n:=by simp [dY]
theorem Kc {n i:Nat} {f:Nat->AV} (h:i<n):(dY n f)[i]?=some (f i):=by unfold dY;rw [List.getElem?_map,List.getElem?_range h];rfl
theorem xW {n:Nat} {f g:Nat->AV} (h:∀ j,j<n->f j=g j):dY n f=dY n g:=by unfold dY;exact List.map_congr_left fun j hj=>h j (List.mem_range.1 hj)
theorem XF {n i:Nat} {f:Nat->AV} {v:AV}:(dY n f).set i v=dY n (fun j=>if j=i then v else f j):=by
 refine List.ext_getElem? fun j=>?_;rw [List.getElem?_set];by_cases hj:j<n
 ·rw [Kc hj,Kc hj];by_cases he:i=j
  ·subst he;simp [hj]
  rw [if_neg he,if_neg (fun h=>he h.symm)]
 rw [List.getElem?_eq_none (by simp;omega),List.getElem?_eq_none (by simp;omega)];simp;intro h;subst h;omega
theorem Nt (n:Nat) (v:AV):iY n [v]=dY n (fun _=>v):=by
 rw [Ka];unfold dY;refine List.ext_getElem? fun j=>?_;by_cases hj:j<n
 ·simp [hj]
 simp [hj]
theorem uK {P:Program} {t:TypeId} {b o n:Nat} {f:Nat->AV} {h:ab} {K:AV->Prop} (v:AV) (hm:(b,Ob.vec (dY n f))∈h) (ht:mX P t=some false) (ho:o<n) (hv:f o=v) (hk:K v) :
  ∃ cs l,(b,Ob.vec cs)∈h/\iG o cs=some l/\fZ P t l K:=XB hm ht (by rw [Kc ho,hv]) hk
theorem BK {b o n:Nat} {f:Nat->AV} {v:AV} {h h':ab} {K:AV->ab->Prop} (ho:o<n) (hu:cH b (.vec (dY n f)) b (.vec (dY n (fun j=>if j=o then v else f j))) h h') (hk:K .unit h') :
  ∃ cs h',cH b (.vec cs) b (.vec (cY cs o [v])) h h'/\(0<[v].length/\o+[v].length<=cs.length)/\K .unit h':=
 XC (vs:=dY n f) (by rw [XE];exact ho) (by rw [XF];exact hu) hk
theorem kR.CQ {b:Nat} {cs:List AV}:∀ {xs ys:List AV},xs.length=ys.length->(∀ (i:Nat) x y,xs[i]?=some x->ys[i]?=some y->iW b cs x y)->kR b cs xs ys
 | [],[],_,_=>.nil
 | x::xs,y::ys,hl,h=>.cons (h 0 x y rfl rfl) (kR.CQ (by simpa using hl) fun i x y h1 h2=>h (i+1) x y (by simpa using h1) (by simpa using h2))
 | [],_::_,hl,_=>by simp at hl
 | _::_,[],hl,_=>by simp at hl
theorem XG {b n:Nat} {f:Nat->AV} {xs:List (List AV)} (h:xs=(List.range n).map fun j=>[f j]):iW b (dY n f) (.aR b 0 n 1) (.sl 1 none xs):=by subst h;exact XD (ev:=f) (l:=List.range n) (by simp)
theorem Ef {P:Program} {g:G} {f:FuncId} {vs:List AV} {v:AV} {h:ab} {K:AV->Prop} (hq:ae P f vs h v) (hk:K v):∃ v,gP g (ae P f vs h v)/\K v:=⟨v,af hq,hk⟩
theorem cj {α:Type} {enc:α->List AV} {l:List α} {x:α} {g:G} {n:Int} (i:Nat) {K:AV->Prop} (hn:n=(i:Int)) (hx:l[i]?=some x) (hk:K (.au (enc x))) :
  ∃ (j:Nat) (y:List AV),gP g (n=(j:Int)/\(l.map enc)[j]?=some y)/\K (.au y):=
 ⟨i,enc x,af ⟨hn,by simp [hx]⟩,hk⟩
theorem cT {b:Bool} {A B:Prop} (h:b=true) (ha:A):(b=true->A)/\(b=false->B):=⟨fun _=>ha,fun h'=>by rw [h] at h';cases h'⟩
theorem cF {b:Bool} {A B:Prop} (h:b=false) (hb:B):(b=true->A)/\(b=false->B):=⟨(fun h'=>by rw [h] at h';cases h'),fun _=>hb⟩
theorem ay.Ff {P:Program} {f:FuncId} {args:List AV} {R R':AV->ab->Prop} {h:ab} (hf:ay P f args h R)
  (hp:∀ v h1,R v h1->R' v h1\/∃ b cs h2 h3 v',aK b (.vec cs) h1 h2/\kN b cs h2 h3/\iW b cs v v'/\R' v' h3):ay P f args h R':=by
 refine ⟨fun X g w us hc hr=>?_⟩;refine (hf.1 X g w us hc hr).mono fun e w' he=>?_;obtain ⟨v,u,g',h1,rfl,hR,eM,hu,hs⟩:=he;rcases hp v h1 hR with Hv|⟨b,cs,h2,h3,v',e1,e2,e3,e4⟩
 ·exact ⟨v,u,g',h1,rfl,Hv,eM,hu,hs⟩
 obtain ⟨c1,s1,hv⟩:=Abs.freeze e1 eM
 have gm:∀ k o,(k,o)∈h2->(k,o)∈h1:=by
  obtain ⟨l1,l2,rfl,rfl⟩:=aK.split e1;intro k o hm;simp only [List.mem_append,List.mem_cons] at hm ⊢;rcases hm with h|h
  ·exact .inl h
  exact .inr (.inr h)
 obtain ⟨c2,s2⟩:=c1.Ah e2.keys (fun k o' hm=>by
  rcases e2.get k o' hm with h1|⟨xs,ys,rfl,h2,h3⟩
  ·exact c1.obj k o' h1
  obtain ⟨p,cc,t,q1,q2,q3,q4,q5,q6⟩:=eM.obj k (.vec xs) (gm _ _ h2);obtain ⟨l,hg⟩:=h3.get;refine ⟨p,cc,t,q1,q2,q3,q4,by rw [<- l];exact q5,fun i y hy=>?_⟩;obtain ⟨x,hx,oD⟩:=hg i y hy;obtain ⟨u,u1,u2,u3⟩:=q6 i x hx;exact ⟨u,u1,u2,hv x y oD u u3⟩)
 exact ⟨v',u,g',h3,rfl,e4,c2,aa.mono (Step.le s2) _ _ (hv v v' e3 u hu),hs.trans hc.own (s1.trans eM.own s2)⟩
end Go.Abs
/-
 The abstract fB,part W: loops gone through step by step,where R0 is known.
-/
namespace Go.Abs
open Go
def wR:aC->List Nat->List Nat
 | [],_=>[]
 | (t,[],_)::r,seen=>match qF seen t with
   | true=>wR r seen
   | false=>t::wR r (t::seen)
 | (t,_::_,_)::r,seen=>wR r (t::seen)
def UL (P:Program) (c:aw) (F:Func) (E:En) (k:Nat) (p:List Bool) (S:List Fr) (ks:List Nat):Nat->aC->ab->Prop
 | 0,_,_=>False
 | n+1,r,h=>UL P c F E k p S ks n r h\/run P c F E k (.go (false::p)) (.head (mq ks [] (UL P c F E k p S ks n))::S) r h
theorem PZ {P:Program} {c:aw} {F:Func} {E:En} {k:Nat} {p:List Bool} {S:List Fr} {ks:List Nat} (m:Nat) :
  UL P c F E k p S ks m=fun r h=>∃ m',m'<m/\run P c F E k (.go (false::p)) (.head (mq ks [] (UL P c F E k p S ks m'))::S) r h:=by
 induction m with
 | zero=>funext r h;simp [UL]
 | succ m ih=>
   funext r h;refine propext ⟨?_,?_⟩
   ·intro hh;unfold UL at hh;rcases hh with hh|hh
    ·rw [ih] at hh;obtain ⟨m',h1,h2⟩:=hh;exact ⟨m',by omega,h2⟩
    exact ⟨m,by omega,hh⟩
   rintro ⟨m',h1,h2⟩;unfold UL;by_cases e:m'=m
   ·subst e;exact .inr h2
   refine .inl ?_;rw [ih];exact ⟨m',by omega,h2⟩
theorem xH {P:Program} {c:aw} {F:Func} {E:En} {p:List Bool} {S:List Fr} {k:Nat} {body:Code} {r:aC} {h:ab} (N:Nat) (fJ:cat F p=.loop body) (hm:P.follows .mixedOrders=true)
  (h0:mq (wR r []) [] (UL P c F E k p S (wR r []) N) r h) :
  Holds P E.n E.X (cat F p) (fun e r h=>run P c F E k (.ex e) S r h) r h:=by
 refine bM fJ hm (wR r []) [] (fun m r' h'=>run P c F E k (.go (false::p)) (.head (mq (wR r []) [] (UL P c F E k p S (wR r []) m))::S) r' h') ?_ ?_
 ·rw [PZ] at h0;unfold mq at h0 ⊢;exact yA (fun r' hh=>let ⟨m,_,h2⟩:=hh;⟨m,h2⟩) h0
 intro m r' h' hJ;rw [PZ] at hJ;exact hJ
end Go.Abs
