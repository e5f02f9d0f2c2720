/- Small laws for the walks and contracts of functions; each theorem names its conditions. -/
import Derived.Test.YthmcbjcgdfmmaaaGreatN2
/-
 The abstract fR,part L: calls in a S6 heap,S7 arguments and results.
-/
namespace Go.Abs
open Go
variable {P:Program} {n:Nat} {X:Nat->Prop} {g0:Gh} {r:aC} {h:af} {a:Act} {w:World}
theorem qP (h1 h2:af):keys (h1++h2)=keys h1++keys h2:=by simp [keys]
theorem Qp (h1 h2:af):live (fun k=>X k\/k∈keys h2) h1=live X (h1++h2):=by
 funext k;simp only [live,qP,List.mem_append,eq_iff_iff];constructor
 ·rintro ((h|h)|h)
  ·exact .inl h
  ·exact .inr (.inr h)
  exact .inr (.inl h)
 rintro (h|h|h)
 ·exact .inl (.inl h)
 ·exact .inr h
 exact .inl (.inr h)
theorem Yb {k:Nat} {o:Ob} (hm:(k,o)∈h):k∈keys h:=by simp only [keys,List.mem_map];exact ⟨_,hm,rfl⟩
theorem aw.frame {f:FuncId} {args:List AV} {R:AV->af->Prop} (hf:aw P f args h R) (h2:af) :
  aw P f args (h++h2) fun v h'=>∃ h1,R v h1/\h'=h1++h2:=by
 refine ⟨fun X g w us hc hr=>?_⟩;have ew:=hc.nodup;rw [qP,List.nodup_append] at ew;obtain ⟨Yc,Yd,KA⟩:=ew;have uz:=Qp (X:=X) h h2
 have bN:CW (fun k=>X k\/k∈keys h2) g h w:=by
  refine ⟨hc.own,?_,Yc,?_,?_⟩
  ·obtain ⟨N,hN⟩:=hc.bound;refine ⟨N,fun k hk=>hN k ?_⟩;rw [qP,List.mem_append];rcases hk with (h|h)|h|h
   ·exact .inl h
   ·exact .inr (.inl (.inr h))
   ·exact .inr (.inl (.inl h))
   exact .inr (.inr h)
  ·rintro k hk (hx|bg)
   ·exact hc.sep k (by rw [qP,List.mem_append];exact .inl hk) hx
   exact KA k hk k bg rfl
  intro k o hm;rw [uz];exact hc.obj k o (List.mem_append.2 (.inl hm))
 refine (hf.1 _ g w us bN (by rw [uz];exact hr)).mono fun e w' he=>?_;obtain ⟨v,u,g',h1,rfl,hR,eY,hu,hs⟩:=he;have KB:=Qp (X:=X) h1 h2
 have ax:Step X g (h++h2) w g' (h1++h2) w':=by
  refine ⟨hs.os,hs.xZ,hs.output,hs.size,hs.pl,fun b k s e x=>hs.Ae b k s e (.inl x),fun b k s e x=>hs.ya b k s e (.inl x),fun k x e=>hs.BH k (.inl x) e,?_,?_,?_⟩
  ·intro b hb pE;obtain ⟨e1,e2⟩:=hs.qe b hb (fun k s e hk=>pE k s e (by rw [qP,List.mem_append];exact .inl hk));refine ⟨e1,fun k s e hk=>?_⟩;rw [qP,List.mem_append] at hk;rcases hk with hk|hk
   ·exact e2 k s e hk
   exact pE k s (hs.ya b k s e (.inr hk)) (by rw [qP,List.mem_append];exact .inr hk)
  ·intro b k s e hk cc t f bJ;rw [qP,List.mem_append] at hk;rcases hk with hk|hk
   ·exact hs.Af b k s e hk cc t f bJ
   obtain ⟨e1,_⟩:=hs.qe b (hc.own _ _ _ e) (fun k' s' e' bn=>by rw [e] at e';cases e';exact KA k bn k hk rfl);exact ⟨cc,e1.trans bJ,rfl,fun _ _=>rfl⟩
  intro b k s e hk k' s' e' hl;rw [qP,List.mem_append] at hk;rcases hk with hk|hk
  ·exact hs.yb b k s e hk k' s' e' (by rw [KB];exact hl)
  have:=hs.Ae b k s e (.inr hk);rw [this] at e';cases e';exact Nat.le_refl _
 have cQ:CW X g' (h1++h2) w':=by
  refine ⟨eY.own,?_,?_,?_,?_⟩
  ·obtain ⟨N,hN⟩:=eY.bound;refine ⟨N,fun k hk=>hN k ?_⟩;rw [qP,List.mem_append] at hk;rcases hk with h|(h|h)|h
   ·exact .inl (.inl h)
   ·exact .inr (.inl h)
   ·exact .inl (.inr h)
   exact .inr (.inr h)
  ·rw [qP,List.nodup_append];exact ⟨eY.nodup,Yd,fun x hx y hy e=>eY.sep x hx (.inr (e ▸ hy))⟩
  ·intro k hk hx;rw [qP,List.mem_append] at hk;rcases hk with hk|hk
   ·exact eY.sep k hk (.inl hx)
   exact hc.sep k (by rw [qP,List.mem_append];exact .inr hk) hx
  intro k o hm;rcases List.mem_append.1 hm with hm|hm
  ·have:=eY.obj k o hm;rw [KB] at this;exact this
  have hk:=Yb hm;refine oC.my (c:=⟨g,live X (h++h2),w⟩) (Step.le ax) (hc.obj k o (List.mem_append.2 (.inr hm))) ?_ (fun e=>hs.BH k (.inr hk) e);intro p hp ⟨s,ho⟩;obtain ⟨e1,_⟩:=hs.qe p.block (hc.own _ _ _ ho) (fun k' s' e' bn=>by simp only at ho;rw [ho] at e';cases e';exact KA k bn k hk rfl);exact ⟨e1,(hs.Ae _ _ _ ho (.inr hk)).trans ho.symm⟩
 exact ⟨v,u,g',h1++h2,rfl,⟨h1,hR,rfl⟩,cQ,by rw [<- KB];exact hu,ax⟩
theorem aw.pre {f:FuncId} {args:List AV} {R:AV->af->Prop} {h':af} (hf:aw P f args h R) (gA:∀ k o,(k,o)∈h->(k,o)∈h')
  (ew:(keys h').Nodup->(keys h).Nodup):aw P f args h' R:=by
 refine ⟨fun X g w us hc hr=>?_⟩;obtain ⟨c1,s1⟩:=hc.sub gA (ew hc.nodup);refine (hf.1 X g w us c1 (au.mono (Step.le s1) _ _ hr)).mono fun e w' he=>?_;obtain ⟨v,u,g',h1,rfl,hR,eY,hu,hs⟩:=he;exact ⟨v,u,g',h1,rfl,hR,eY,hu,s1.trans hc.own hs⟩
def aa (x y:AV):Prop:=∀ c u,ae c x u->ae c y u
theorem aa.refl (x:AV):aa x x:=fun _ _ h=>h
theorem aa.sl {k:Nat} {t:Option Nat} {xs:List (List AV)}:aa (.sl k t xs) (.sl k none xs):=by intro c u h;simp only [ae] at h ⊢;obtain ⟨base,cap,hv,h1,h2,h3,h4,h5,h6,h7⟩:=h;exact ⟨base,cap,hv,h1,h2,h3,h4,h5,h6,by simp⟩
theorem aa.nil {k:Nat} (hk:0<k):aa .aS (.sl k none []):=by intro c u h;simp only [ae] at h ⊢;exact ⟨none,0,by simpa using h,by simp,by simp,hk,by simp,by simp,by simp,by simp⟩
inductive cu:List AV->List AV->Prop
 | nil:cu [] []
 | cons {x y:AV} {xs ys:List AV}:aa x y->cu xs ys->cu (x::xs) (y::ys)
theorem cu.refl:∀ xs,cu xs xs
 | []=>.nil
 | x::xs=>.cons (aa.refl x) (cu.refl xs)
theorem cu.rep {c:Cx}:∀ {xs ys:List AV} {us:List Value},cu xs ys->au c xs us->au c ys us
 | _,_,us,.nil,h=>h
 | _,_,us,.cons h1 h2,h=>by simp only [au] at h ⊢;obtain ⟨u,r,rfl,a1,a2⟩:=h;exact ⟨u,r,rfl,h1 _ _ a1,h2.rep a2⟩
theorem aa.aB {xs ys:List AV} (h:cu xs ys):aa (.aB xs) (.aB ys):=by intro c u hu;simp only [ae] at hu ⊢;obtain ⟨us,hv,hr⟩:=hu;exact ⟨us,hv,h.rep hr⟩
theorem aa.agg {xs ys:List AV} (h:cu xs ys):aa (.agg xs) (.agg ys):=by intro c u hu;simp only [ae] at hu ⊢;obtain ⟨us,hv,h1,hr⟩:=hu;exact ⟨us,hv,h1,h.rep hr⟩
theorem aw.args {f:FuncId} {args zx:List AV} {R:AV->af->Prop} (hf:aw P f zx h R) (hl:cu args zx):aw P f args h R:=
 ⟨fun X g w us hc hr=>hf.1 X g w us hc (hl.rep hr)⟩
theorem aw.post {f:FuncId} {args:List AV} {R R':AV->af->Prop} (hf:aw P f args h R)
  (hp:∀ v h1,R v h1->∃ v' h',R' v' h'/\aa v v'/\(∀ k o,(k,o)∈h'->(k,o)∈h1)/\((keys h1).Nodup->(keys h').Nodup)):aw P f args h R':=by
 refine ⟨fun X g w us hc hr=>?_⟩;refine (hf.1 X g w us hc hr).mono fun e w' he=>?_;obtain ⟨v,u,g',h1,rfl,hR,eY,hu,hs⟩:=he;obtain ⟨v',h',k1,k2,k3,k4⟩:=hp v h1 hR;obtain ⟨d1,d2⟩:=eY.sub k3 (k4 eY.nodup);exact ⟨v',u,g',h',rfl,k1,d1,ae.mono (Step.le d2) _ _ (k2 _ _ hu),hs.trans hc.own d2⟩
theorem ab.wide {f:FuncId} {args:List AV} {v:AV} (hq:ab P f args [] v) (h:af):ab P f args h v:=by have:=aw.frame hq h;refine aw.post (by simpa using this) ?_;rintro v' h' ⟨h1,⟨h2,rfl⟩,rfl⟩;exact ⟨v',_,⟨h2,rfl⟩,aa.refl _,by simp,by simp⟩
theorem ab.more {f:FuncId} {args:List AV} {v:AV} {x:Nat × Ob} (hq:ab P f args h v):ab P f args (x::h) v:=by
 have:=aw.frame hq [x]
 have ew:∀ {l:af},(keys (x::l)).Nodup↔(keys (l++[x])).Nodup:=by
  intro l;simp only [keys,List.map_cons,List.map_append,List.map_nil,List.nodup_cons,List.nodup_append];constructor
  ·rintro ⟨a,b⟩;exact ⟨b,by simp,fun y hy z hz=>by simp at hz;subst hz;rintro rfl;exact a hy⟩
  rintro ⟨a,b,c⟩;exact ⟨fun hm=>c _ hm _ (by simp) rfl,a⟩
 refine aw.post (aw.pre this (h':=x::h) ?_ ew.1) ?_
 ·intro k o hm;simp only [List.mem_append,List.mem_singleton,List.mem_cons,List.not_mem_nil,or_false] at hm ⊢;exact hm.symm
 rintro v' h' ⟨h1,⟨rfl,rfl⟩,rfl⟩;refine ⟨v',x::h1,⟨rfl,rfl⟩,aa.refl _,?_,ew.2⟩;intro k o hm;simp only [List.mem_append,List.mem_singleton,List.mem_cons,List.not_mem_nil,or_false] at hm ⊢;exact hm.symm
theorem ab.args {f:FuncId} {args zx:List AV} {v:AV} (hq:ab P f zx h v) (hl:cu args zx):ab P f args h v:=aw.args hq hl
theorem DC {g:G} {p q:Prop} (h:p->q):gP g p->gP g q:=by
 induction g with
 | nil=>exact h
 | cons e g ih=>exact fun hp he=>ih (hp he)
theorem Qq {g:G} {K:AV->Prop} {op:Op} {x:Nat × Ob} (hq:bH P r g h K op):bH P r g (x::h) K op:=by
 by_cases hf:rv r g op=true
 ·exact JK hf hq
 cases op
 case load t y=>
  simp only [bH] at hq ⊢;split at hq
  ·exact hq
  ·obtain ⟨cs,l,h1,h2⟩:=hq;exact ⟨cs,l,List.mem_cons_of_mem _ h1,h2⟩
  exact hq
 case call cl=>
  revert hq;unfold bH;simp only;split
  ·exact fun hh=>hh
  ·exact fun hh=>hh
  ·exact fun hh=>hh
  ·exact fun hh=>hh
  ·split
   ·rintro ⟨v,h1,h2⟩;exact ⟨v,DC ab.more h1,h2⟩
   exact fun hh=>hh
  ·split
   ·split
    ·rintro ⟨v,h1,h2⟩;exact ⟨v,DC ab.more h1,h2⟩
    exact fun hh=>hh
   exact fun hh=>hh
  exact fun hh=>hh
 case lookup t x i ok=>
  revert hq;unfold bH;simp only;repeat' split
  all_goals first
   | exact fun hh=>hh
   | exact fun ⟨es,v,f,h1,h2⟩=>⟨es,v,f,List.mem_cons_of_mem _ h1,h2⟩
 all_goals exact absurd rfl hf
end Go.Abs
/-
 The abstract fR,part M: regions S8 order is drawn.
-/
namespace Go.Abs
open Go
variable {P:Program} {n:Nat} {X:Nat->Prop} {g0:Gh} {r:aC} {h:af} {a:Act} {w:World}
theorem KC {r1 r2:aC} {K:AV->af->Prop} {op:Op} (h':∀ t∈ru op.operands.toList,bl r1 t=bl r2 t) (hq:cy P r1 h K op):cy P r2 h K op:=by
 have hx:∀ g,∀ x∈op.operands.toList,aL r1 g x=aL r2 g x:=by intro g x hx;exact JJ fun t ht=>h' t (FR (ht ▸ hx))
 clear h';cases op
 case call cl=>
  have jF:∀ g,bQ r1 g cl.args.toList=bQ r2 g cl.args.toList:=fun g=>Dd fun x iU=>hx g x (by simp [Op.operands,Call.operands];exact .inr (by simpa using iU));have cU:∀ g t,cl.callee=.value (.tmp t)->aL r1 g (.tmp t)=aL r2 g (.tmp t):=fun g t ht=>hx g _ (by simp [Op.operands,Call.operands,ht]);clear hx;revert hq;unfold cy;simp only [jF];split;all_goals first|exact fun hh=>hh|skip
  rename_i t ht;rw [cU _ _ ht];exact fun hh=>hh
 case buildSlice t m ps=>
  simp only [cy] at hq ⊢;revert hq;split
  ·rw [<- FT (r1:=r1) (fun x iU=>hx [] x (by simpa [Op.operands] using iU))];exact fun hh=>hh
  exact fun hh=>hh
 case makeMap t rr=>cases rr<;>first|exact hq|(simp [cy] at hq;done)
 case binOp op t x y yt=>
  cases op<;>try (simp [cy] at hq;done)
  simp only [cy] at hq ⊢;rw [<- hx [] x (by simp [Op.operands]),<- hx [] y (by simp [Op.operands])];exact hq
 case box t x=>
  simp only [cy] at hq ⊢;rw [<- hx [] x (by simp [Op.operands])];exact hq
 case store t x y=>
  simp only [cy] at hq ⊢;rw [<- hx [] x (by simp [Op.operands]),<- hx [] y (by simp [Op.operands])];exact hq
 case makeSlice t x y=>
  simp only [cy] at hq ⊢;rw [<- hx [] x (by simp [Op.operands]),<- hx [] y (by simp [Op.operands])];exact hq
 case alloc t=>exact hq
 case range t x=>
  simp only [cy] at hq ⊢;rw [<- hx [] x (by simp [Op.operands])];exact hq
 case next x sb=>
  cases sb
  ·simp only [cy] at hq ⊢;rw [<- hx [] x (by simp [Op.operands])];exact hq
  simp only [cy] at hq ⊢;rw [<- hx [] x (by simp [Op.operands])];exact hq
 case entry x=>
  simp only [cy] at hq ⊢;rw [<- hx [] x (by simp [Op.operands])];exact hq
 case mapUpdate t m k x=>
  simp only [cy] at hq ⊢;rw [<- hx [] m (by simp [Op.operands]),<- hx [] k (by simp [Op.operands]),<- hx [] x (by simp [Op.operands])];exact hq
 all_goals (simp [cy] at hq)
theorem KD {K:AV->af->Prop} {op:Op} (ha:sC op=true) (hq:cy P r h K op):cy P r h (fun v h'=>K v h'/\∃ x,h'=x::h) op:=by
 cases op
 case alloc t=>
  simp only [cy] at hq ⊢;revert hq;split
  ·exact fun hh b=>⟨hh b,_,rfl⟩
  exact fun hh=>hh
 case box t x=>
  simp only [cy] at hq ⊢;revert hq;repeat' split
  all_goals first|exact fun hh=>hh.elim|exact fun hh b=>⟨hh b,_,rfl⟩
 case makeMap t rr=>
  cases rr
  ·simp only [cy] at hq ⊢;exact fun b=>⟨hq b,_,rfl⟩
  simp [cy] at hq
 case makeSlice t x y=>
  simp only [cy] at hq ⊢;revert hq;repeat' split
  all_goals first|exact fun hh=>hh.elim|exact fun hh=>⟨hh.1,fun b=>⟨hh.2 b,_,rfl⟩⟩
 case buildSlice t m ps=>
  simp only [cy] at hq ⊢;revert hq;repeat' split
  all_goals first|exact fun hh=>hh.elim|exact fun hh b=>⟨hh b,_,rfl⟩
 all_goals (simp [sC] at ha)
theorem Qr {r1 r2:aC} {K:AV->af->Prop} {op:Op} {own jE:List Nat} {d:Option Nat} (h':∀ t∈ru op.operands.toList,bl r1 t=bl r2 t) (hq:gJ P own jE d r1 h K op):gJ P own jE d r2 h K op:=by
 have hx:∀ g,∀ x∈op.operands.toList,aL r1 g x=aL r2 g x:=by intro g x hx;exact JJ fun t ht=>h' t (FR (ht ▸ hx))
 unfold gJ at hq ⊢;split at hq
 ·rename_i cl d;split at hq
  ·skip;have jF:∀ g,bQ r1 g cl.args.toList=bQ r2 g cl.args.toList:=fun g=>Dd fun x iU=>hx g x (by simp [Op.operands,Call.operands];exact .inr (by simpa using iU));unfold uS at hq ⊢;simp only [jF] at hq;exact hq
  skip;exact KC h' hq
 ·rename_i t m parts d;split at hq
  ·skip;unfold uT at hq ⊢;revert hq;split
   ·rw [<- FT (r1:=r1) (fun x iU=>hx [] x (by simpa [Op.operands] using iU))];exact fun hh=>hh
   exact fun hh=>hh
  skip;exact KC h' hq
 exact KC h' hq
theorem Ye {K:AV->af->Prop} {op:Op} {own jE:List Nat} {d:Option Nat} (ha:sC op=true) (hq:gJ P own jE d r h K op):gJ P own jE d r h (fun v h'=>K v h'/\∃ x,h'=x::h) op:=by
 unfold gJ at hq ⊢;split at hq
 ·simp [sC] at ha
 ·split at hq
  ·skip;unfold uT at hq ⊢;revert hq;repeat' split
   all_goals first|exact fun hh=>hh.elim|exact fun hh b=>⟨hh b,_,rfl⟩
  skip;exact KD ha hq
 exact KD ha hq
theorem KE {all:List Oper} {K:G->AV->Prop} {o:Oper} (hq:dS P all r h K o):∃ g v,K g v/\dS P all r h (fun g' v'=>g'=g/\v'=v) o:=by
 unfold dS at hq ⊢;split at hq
 ·obtain ⟨v,h1,h2⟩:=JH hq;exact ⟨_,v,h1,by simpa using h2⟩
 split at hq<;>try contradiction
 split at hq<;>try contradiction
 split at hq<;>try contradiction
 obtain ⟨v,h1,h2⟩:=JH hq;exact ⟨_,v,h1,by simp [*]⟩
theorem vS {g:G} {K K':AV->Prop} {op:Op} (hk:∀ v,K v->K' v) (hq:bH P r g h K op):bH P r g h K' op:=by
 obtain ⟨v,h1,h2⟩:=JH hq;have:(fun x=>x=v)=fun x=>x=v/\K' x:=by funext x;simp only [eq_iff_iff];exact ⟨fun e=>⟨e,e ▸ hk v h1⟩,fun e=>e.1⟩
 rw [this] at h2;clear this
 -- from the conjunction to its second half,by the same S9
 have key:∀ {K1 K2:AV->Prop},(∀ v,K1 v->K2 v)->bH P r g h K1 op->bH P r g h K2 op:=by
  intro K1 K2 hk;have sW:∀ {k:IntKind} {m:Int},arith g k m K1->arith g k m K2:=by intro k m hh;unfold arith at hh ⊢;cases k<;>first|exact ⟨hh.1,hk _ hh.2⟩|exact hk _ hh
  have xa:∀ {t:TypeId} {cs:List AV},gv P t cs K1->gv P t cs K2:=by
   intro t cs;unfold gv;repeat' split
   all_goals first|exact hk _|exact fun hh=>hh
  have JI:∀ {t:TypeId} {op:BinOp} {x y:AV},tO P g t op x y K1->tO P g t op x y K2:=by
   intro t op x y;unfold tO;simp only [pj];repeat' split
   all_goals first
    | exact fun hh=>hh.elim
    | exact hk _
    | exact fun hh=>⟨hh.1,hk _ hh.2⟩
    | exact fun hh=>⟨hh.1,sW hh.2⟩
    | exact fun hh=>⟨hh.1,hh.2.1,sW hh.2.2⟩
    | exact fun hh=>⟨hh.1,hh.2.1,hk _ hh.2.2⟩
  have hlen:∀ {d:Option TypeDesc} {x:AV},tQ d x K1->tQ d x K2:=by
   intro d x;unfold tQ;repeat' split
   all_goals first|exact hk _|exact fun hh=>hh
  have fl:∀ {x:AV} {lo hi:Int} {b:Bool},po g x lo hi b K1->po g x lo hi b K2:=by
   intro x lo hi b;unfold po;repeat' split
   all_goals first|exact fun hh=>hh.elim|exact fun hh=>⟨hh.1,hk _ hh.2⟩
  have lV:∀ {s:TypeId} {xs:List (List AV)},uR P s xs K1->uR P s xs K2:=by
   intro s xs;unfold uR;repeat' split
   all_goals first|exact fun hh=>hh.elim|exact fun ⟨ns,h1,hh⟩=>⟨ns,h1,hk _ hh⟩
  unfold bH;repeat' split
  all_goals first
   | exact fun hh=>hh.elim
   | exact hk _
   | exact lV
   | exact xa
   | exact sW
   | exact JI
   | exact hlen
   | exact fl
   | exact fun ⟨cs,l,h1,h2,hq⟩=>⟨cs,l,h1,h2,xa hq⟩
   | exact fun ⟨j,y,h1,hq⟩=>⟨j,y,h1,hk _ hq⟩
   | exact fun ⟨es,v,f,h1,h2,hq⟩=>⟨es,v,f,h1,h2,hk _ hq⟩
   | exact fun ⟨j,l,h1,h2,hq⟩=>⟨j,l,h1,h2,hk _ hq⟩
   | exact fun ⟨h1,hq⟩=>⟨h1,hk _ hq⟩
   | exact fun ⟨j,h1,hq⟩=>⟨j,h1,hk _ hq⟩
 exact key (fun v h=>h.2) h2
theorem Gw {all:List Oper} {K:G->AV->Prop} {o:Oper} {h':af} (hh:∀ g K,bH P r g h K o.op->bH P r g h' K o.op) (hq:dS P all r h K o):dS P all r h' K o:=by
 unfold dS at hq ⊢;split at hq
 ·rename_i fE;try simp only [fE]
  exact hh _ _ hq
 rename_i j wt fE;split at hq<;>try contradiction
 rename_i oj h1;split at hq<;>try contradiction
 rename_i tj h2;split at hq<;>try contradiction
 rename_i gj b h3;try simp only [fE,h1,h2,h3]
 exact hh _ _ hq
theorem KG {all:List Oper} {g:G} {v:AV} {o:Oper} {h':af} (hf:rv r g o.op=true) (hq:dS P all r h (fun g' v'=>g'=g/\v'=v) o) :
  dS P all r h' (fun g' v'=>g'=g/\v'=v) o:=by
 unfold dS at hq ⊢;split at hq
 ·rename_i hg;obtain ⟨_,vT,_⟩:=CQ hq;subst vT;exact JK hf hq
 rename_i j wt fE;split at hq<;>try contradiction
 rename_i oj h1;split at hq<;>try contradiction
 rename_i tj h2;split at hq<;>try contradiction
 rename_i gj b h3;try simp only [fE,h1,h2,h3]
 obtain ⟨_,vT,_⟩:=CQ hq;subst vT;exact JK hf hq
theorem Yf {all:List Oper} {r1 r2:aC} {K:G->AV->Prop} {o:Oper} (h':∀ t∈jg all o,bl r1 t=bl r2 t) (hq:dS P all r1 h K o):dS P all r2 h K o:=by
 have cR:∀ t∈ru o.op.operands.toList,bl r1 t=bl r2 t:=fun t ht=>h' t (by unfold jg;exact List.mem_append_right _ ht);unfold dS at hq ⊢;split at hq
 ·rename_i fE;try simp only [fE]
  exact Pc cR hq
 rename_i j wt fE;split at hq<;>try contradiction
 rename_i oj h1;split at hq<;>try contradiction
 rename_i tj h2;have:=h' tj (by unfold jg;simp [fE,h1,h2]);rw [this] at hq;split at hq<;>try contradiction
 rename_i gj b h3;try simp only [fE,h1,h2,h3]
 exact Pc cR hq
theorem Yg {all:List Oper} {gg:G} {vv:AV} {o:Oper} {i:Nat} {K:Act->World->Prop} {Q:Exit->Act->World->Prop} (hE:dS P all r h (fun g v=>g=gg/\v=vv) o) (hc:bK n X g0 r h a w)
  (hi:all.toArray[i]?=some o)
  (hn:∀ g' u w',CW X g' h w'->Step X g0 h w g' h w'->(dj a gg->(∀ e∈gg,e.2.1=e.2.2)/\ae ⟨g',live X h,w'⟩ vv u)->(¬ dj a gg->u=undef)->K (a.put o.dst u) w') :
  wpOp P all.toArray Q i K a w:=by
 have cq:dj a []:=fun e he=>by cases he
 unfold wpOp;simp only [hi];unfold dS at hE;split at hE
 ·rename_i fE;rw [if_pos (FP fE)];left;obtain ⟨_,vT,_⟩:=CQ hE;subst vT;refine ES hE hc cq (by simp) ?_;rintro v g' u w' ⟨_,rfl⟩ dH cJ ax;exact hn g' u w' dH ax (fun _=>⟨by simp,cJ⟩) (fun hh=>absurd cq hh)
 rename_i j wt fE;split at hE<;>try contradiction
 rename_i oj Da;split at hE<;>try contradiction
 rename_i tj Db;split at hE<;>try contradiction
 rename_i gj b dh;obtain ⟨_,vT,_⟩:=CQ hE;have vA:=hc.lr tj gj (.bool b) dh
 have hy:yielded all.toArray a.tmps j=match a.tmps[tj]? with|some (.bool b)=>some b|_=>none:=by
  unfold yielded;simp [Da,Db];rcases a.tmps[tj]? with _|v
  ·rfl
  cases v<;>rfl
 have Dc:Region.wanted o (yielded all.toArray a.tmps)=(yielded all.toArray a.tmps j == some wt):=(by simp [Region.wanted,fE]);have uA:dj a gj->Region.wanted o (yielded all.toArray a.tmps)=decide (b=wt)/\a.tmps[tj]?=some (.bool b)/\∀ e∈gj,e.2.1=e.2.2:=by intro hh;obtain ⟨h1,u,h2,h3⟩:=vA.1 hh;rw [ae] at h3;subst h3;refine ⟨?_,h2,h1⟩;rw [Dc,hy,h2];simp only;cases b<;>cases wt<;>rfl
 have JG:¬ dj a gj->Region.wanted o (yielded all.toArray a.tmps)=false:=by intro hh;have h1:=vA.2 hh;rw [Dc,hy,h1];rfl
 have jO:dj a (gj++[(tj,b,wt)])↔(dj a gj/\b=wt):=by
  constructor
  ·intro hh;have h1:dj a gj:=fun e he=>hh e (by simp [he]);refine ⟨h1,?_⟩;have h2:=hh (tj,b,wt) (by simp);simp only at h2;rw [(uA h1).2.1] at h2;cases h2;rfl
  rintro ⟨h1,rfl⟩ e he;simp only [List.mem_append,List.mem_singleton] at he;rcases he with he|rfl
  ·exact h1 e he
  exact (uA h1).2.1
 by_cases hh:dj a (gj++[(tj,b,wt)])
 ·obtain ⟨h1,h2⟩:=jO.1 hh;obtain ⟨y1,y2,y3⟩:=uA h1;rw [y1];simp only [h2,decide_true,if_true];left
  have he:∀ e∈gj++[(tj,b,wt)],e.2.1=e.2.2:=by
   intro e he;simp only [List.mem_append,List.mem_singleton] at he;rcases he with he|rfl
   ·exact y3 e he
   exact h2
  refine ES hE hc hh he ?_;rintro v g' u w' ⟨_,rfl⟩ dH cJ ax;exact hn g' u w' dH ax (fun _=>⟨vT ▸ he,cJ⟩) (fun pE=>absurd (vT ▸ hh) pE)
 have hw:Region.wanted o (yielded all.toArray a.tmps)=false:=by
  by_cases h1:dj a gj
  ·rw [(uA h1).1];simp only [decide_eq_false_iff_not];intro hb;exact hh (jO.2 ⟨h1,hb⟩)
  exact JG h1
 rw [hw];simp only [Bool.false_eq_true,if_false];exact hn g0 undef w hc.cw (Step.refl _ _ _ _) (fun hy=>absurd (vT ▸ hy) hh) (fun _=>rfl)
end Go.Abs
/-
 The abstract fR,part N: T0 the order,a drawn region comes to the same abstract state.
-/
namespace Go.Abs
open Go
variable {P:Program} {n:Nat} {X:Nat->Prop} {g0:Gh} {r:aC} {h:af} {a:Act} {w:World}
theorem qQ {d t:Nat} {x:G × AV}:bl ((d,x)::r) t=if d=t then some x else bl r t:=by
 conv=>lhs;unfold bl
 split
 ·rename_i hb;rw [if_pos (Nat.eq_of_beq_eq_true hb)]
 rename_i hb;rw [if_neg (fun e=>by subst e;rw [Nat.beq_refl] at hb;cases hb)]
def Cl (cl:List Nat) (i j:Nat):Prop:=(lq cl i).testBit j=true
theorem KH {cl:List Nat} {j:Nat}:∀ {es:List Edge},(wy cl es).testBit j=true↔∃ e∈es,Region.binds .any e=true/\(e.on=j\/Cl cl e.on j)
 | []=>by simp [wy]
 | e::es=>by
   unfold wy;have ih:=KH (cl:=cl) (j:=j) (es:=es);split
   ·rename_i hb;have e1:∀ a b:Nat,Nat.lor a b=a ||| b:=fun _ _=>rfl;rw [e1,e1,Nat.testBit_or,Nat.testBit_or,Nat.testBit_two_pow];simp only [Bool.or_eq_true,decide_eq_true_eq,ih,List.mem_cons];constructor
    ·rintro ((h|h)|⟨e',h1,h2⟩)
     ·exact ⟨e,.inl rfl,hb,.inl h⟩
     ·exact ⟨e,.inl rfl,hb,.inr h⟩
     exact ⟨e',.inr h1,h2⟩
    rintro ⟨e',rfl|h1,h2,h3⟩
    ·exact .inl h3
    exact .inr ⟨e',h1,h2,h3⟩
   rename_i hb;rw [ih];constructor
   ·rintro ⟨e',h1,h2⟩;exact ⟨e',by simp [h1],h2⟩
   rintro ⟨e',h1,h2⟩;rcases List.mem_cons.1 h1 with rfl|h1
   ·rw [h2.1] at hb;cases hb
   exact ⟨e',h1,h2⟩
structure gH (all:List Oper) (cl:List Nat) (ord:List Nat):Prop where
 e1:∀ i o,all[i]?=some o->∀ e∈o.after.toList,Region.binds .any e=true->e.on<i
 e2:∀ i o,all[i]?=some o->lq cl i=wy cl o.after.toList
 p2:∀ i,i<all.length->i∈ord
 p3:ord.Nodup
 p4:∀ pre i post,ord=pre++i::post->∃ o,all[i]?=some o/\∀ e∈o.after.toList,Region.binds .any e=true->e.on∈pre
 n1:∀ (i:Nat) (o:Oper) (t:Nat),all[i]?=some o->t∈jg all o->∀ (j:Nat) (o':Oper),all[j]?=some o'->o'.dst=some t->Cl cl i j\/Cl cl j i
 d1:∀ (i j:Nat) (o o':Oper) (d:Nat),all[i]?=some o->all[j]?=some o'->o.dst=some d->o'.dst=some d->i=j
theorem Qs:∀ {l:List Nat},aJ.ED l=true->l.Nodup
 | [],_=>List.nodup_nil
 | x::l,h=>by simp only [aJ.ED,Bool.and_eq_true,Bool.not_eq_true',List.contains_eq_mem,decide_eq_false_iff_not] at h;exact List.nodup_cons.2 ⟨h.1,Qs h.2⟩
theorem Qt {all:List Oper}:∀ {l KI:List Nat},aJ.EE all KI l=true->∀ pre i post,l=pre++i::post ->
  ∃ o,all[i]?=some o/\∀ e∈o.after.toList,Region.binds .any e=true->e.on∈KI\/e.on∈pre
 | [],_,_,pre,i,post,he=>by simp at he
 | x::l,KI,h,pre,i,post,he=>by
   simp only [aJ.EE,Bool.and_eq_true] at h;cases pre with
   | nil=>
     simp at he;obtain ⟨rfl,rfl⟩:=he;have h1:=h.1;split at h1
     ·rename_i o ho;refine ⟨o,ho,fun e he hb=>.inl ?_⟩;have:=List.all_eq_true.1 h1 e he;simpa [hb] using this
     cases h1
   | cons y pre=>
     simp at he;obtain ⟨rfl,he⟩:=he;obtain ⟨o,ho,h2⟩:=Qt h.2 pre i post he;refine ⟨o,ho,fun e he hb=>?_⟩;rcases h2 e he hb with h3|h3
     ·rcases List.mem_cons.1 h3 with h3|h3
      ·exact .inr (by simp [h3])
      exact .inl h3
     exact .inr (by simp [h3])
theorem Bc {all:List Oper} {i:Nat} {o:Oper}:(i,o)∈(all.zipIdx.map fun (o,i)=>(i,o))↔all[i]?=some o:=by
 simp only [List.mem_map,Prod.exists,Prod.mk.injEq,List.mem_zipIdx_iff_getElem?];constructor
 ·rintro ⟨a,b,h,rfl,rfl⟩;exact h
 intro h;exact ⟨o,i,h,rfl,rfl⟩
theorem KJ {t:Nat} {o:Oper}:isDst t o=true↔o.dst=some t:=by
 unfold isDst;split
 ·rename_i d hd;rw [hd];constructor
  ·intro h;rw [Nat.eq_of_beq_eq_true h]
  intro h;cases h;exact Nat.beq_refl _
 rename_i hd;simp [hd]
theorem Qu {all:List Oper} {ord:List Nat} (hk:aJ all ord=true):gH all (iS all []) ord:=by
 unfold aJ at hk;simp only [Bool.and_eq_true] at hk;obtain ⟨⟨⟨⟨⟨⟨h1,h2⟩,h3⟩,h4⟩,h5⟩,h6⟩,h7⟩:=hk;have h1:=List.all_eq_true.1 h1;have h3:=List.all_eq_true.1 h3;have h6:=List.all_eq_true.1 h6;have h7:=List.all_eq_true.1 h7;refine ⟨?_,?_,?_,Qs h4,?_,?_,?_⟩
 ·intro i o ho e he hb;have:=h1 (i,o) (Bc.2 ho);simp only [Bool.and_eq_true] at this;have:=List.all_eq_true.1 this.1 e he;simp only [hb,Bool.not_true,Bool.false_or,Nat.blt_eq] at this;exact this
 ·intro i o ho;have:=h1 (i,o) (Bc.2 ho);simp only [Bool.and_eq_true] at this;exact Nat.eq_of_beq_eq_true this.2
 ·intro i hi;have:=h3 i (List.mem_range.2 hi);simpa using this
 ·intro pre i post he;obtain ⟨o,ho,hh⟩:=Qt h5 pre i post he;exact ⟨o,ho,fun e he hb=>(hh e he hb).resolve_left (by simp)⟩
 ·intro i o t ho ht j o' bF hd;have:=h6 (i,o) (Bc.2 ho);simp only at this;have:=List.all_eq_true.1 this t ht;unfold MF at this;have:=List.all_eq_true.1 this (j,o') (Bc.2 bF);simp only [KJ.2 hd,Bool.not_true,Bool.false_or,Bool.or_eq_true] at this;exact this
 intro i j o o' d ho bF hd db;have:=h7 (i,o) (Bc.2 ho);simp only at this;have:=List.all_eq_true.1 this (j,o') (Bc.2 bF);simp only [Bool.or_eq_true,hd,KJ.2 db,Bool.not_true,or_false,Bool.false_eq_true] at this;exact Nat.eq_of_beq_eq_true this
section
variable {all:List Oper} {cl:List Nat} {ord:List Nat}
theorem tz (hs:gH all cl ord) {S:Nat->Prop} (hS:∀ i,S i->∃ o,all[i]?=some o/\∀ e∈o.after.toList,Region.binds .any e=true->S e.on) :
  ∀ i,S i->∀ j,Cl cl i j->S j/\j<i:=by
 intro i;induction i using Nat.strongRecOn with
 | _ i ih=>
   intro hi j hj;obtain ⟨o,ho,hc⟩:=hS i hi;unfold Cl at hj;rw [hs.e2 i o ho,KH] at hj;obtain ⟨e,he,hb,h1⟩:=hj;have aP:=hs.e1 i o ho e he hb;rcases h1 with rfl|h1
   ·exact ⟨hc e he hb,aP⟩
   obtain ⟨k1,k2⟩:=ih e.on aP (hc e he hb) j h1;exact ⟨k1,by omega⟩
def bG (aj:List (Nat × Nat × G × AV)) (r:aC):aC:=aj.map (·.2)++r
theorem Qv {aj:List (Nat × Nat × G × AV)} {t:Nat} (h:∀ x∈aj,x.2.1≠t):bl (bG aj r) t=bl r t:=by
 induction aj with
 | nil=>rfl
 | cons x aj ih=>
   obtain ⟨i,d,g,v⟩:=x;have aM:=h _ List.mem_cons_self;simp only at aM;show bl ((d,g,v)::bG aj r) t=_;rw [qQ,if_neg aM];exact ih fun x hx=>h x (List.mem_cons_of_mem _ hx)
theorem Qw {aj:List (Nat × Nat × G × AV)} {t j:Nat} {g:G} {v:AV} (hm:(j,t,g,v)∈aj) (hu:∀ x∈aj,x.2.1=t->x=(j,t,g,v)) :
  bl (bG aj r) t=some (g,v):=by
 induction aj with
 | nil=>cases hm
 | cons x aj ih=>
   by_cases hx:x.2.1=t
   ·have:=hu x List.mem_cons_self hx;subst this;show bl ((t,g,v)::bG aj r) t=_;rw [qQ,if_pos rfl]
   have yU:(j,t,g,v)∈aj:=by
    rcases List.mem_cons.1 hm with rfl|hm
    ·exact absurd rfl hx
    exact hm
   obtain ⟨i,d,g',v'⟩:=x;show bl ((d,g',v')::bG aj r) t=_;rw [qQ,if_neg hx];exact ih yU fun x hx=>hu x (List.mem_cons_of_mem _ hx)
def ml (all:List Oper) (cl:List Nat) (aj:List (Nat × Nat × G × AV)) (r:aC) (k t:Nat) (x:Option (G × AV)):Prop:=
 (∃ j g v,Cl cl k j/\(j,t,g,v)∈aj/\x=some (g,v))\/((∀ j o,all[j]?=some o->o.dst=some t->Cl cl j k)/\x=bl r t)
structure iz (n:Nat) (P:Program) (all:List Oper) (cl ord:List Nat) (r:aC) (kn rest nf:List Nat) (aj:List (Nat × Nat × G × AV)) (h:af) (L:Array Bool):Prop where
 split:ord=kn++rest
 kD:L.size=all.length
 qR:∀ i,L.getD i false=true->i∈kn
 tA:∀ i,L.getD i false=true->∃ o,all[i]?=some o/\∀ e∈o.after.toList,Region.binds .any e=true->L.getD e.on false=true
 gI:∀ x∈aj,x.1∈kn/\∃ o,all[x.1]?=some o/\o.dst=some x.2.1
 zy:∀ x∈aj,∀ y∈aj,x.1=y.1->x=y
 DD:∀ k∈kn,∀ o d,all[k]?=some o->o.dst=some d->∃ g v,(k,d,g,v)∈aj
 path:∀ x∈aj,∀ e∈x.2.2.1,∀ j o,all[j]?=some o->o.dst=some e.1->Cl cl x.1 j
 fact:∀ k∈kn,L.getD k false=false->∃ o g v Rk,all[k]?=some o/\dS P all Rk h (fun g' v'=>g'=g/\v'=v) o /\
  (∀ t∈jg all o,ml all cl aj r k t (bl Rk t)) /\
  (∀ d,o.dst=some d->(k,d,g,v)∈aj/\d<n/\(∀ e∈g,e.1≠d)/\∀ t gg v,bl r t=some (gg,v)->∀ e∈gg,e.1≠d) /\
  (k ∉ nf->∀ h',dS P all Rk h' (fun g' v'=>g'=g/\v'=v) o)
variable {kn rest nf:List Nat} {aj:List (Nat × Nat × G × AV)} {L:Array Bool}
theorem iz.DE (hi:iz n P all cl ord r kn rest nf aj h L) (hs:gH all cl ord) (i:Nat) (hk:i∈kn):∃ o,all[i]?=some o/\∀ e∈o.after.toList,Region.binds .any e=true->e.on∈kn:=by obtain ⟨pre,post,rfl⟩:=List.append_of_mem hk;obtain ⟨o,ho,hh⟩:=hs.p4 pre i (post++rest) (by rw [hi.split];simp);exact ⟨o,ho,fun e he hb=>by have:=hh e he hb;simp [this]⟩
theorem iz.qS (hi:iz n P all cl ord r kn rest nf aj h L) (hs:gH all cl ord) {i j:Nat} (hk:i∈kn) (hc:Cl cl i j):j∈kn/\j<i:=
 tz hs (S:=fun i=>i∈kn) (fun i hk=>hi.DE hs i hk) i hk j hc
theorem zz (hi:iz n P all cl ord r kn rest nf aj h L) (hs:gH all cl ord) {k:Nat} {o:Oper} (hk:all[k]?=some o) {eF:List (Nat × Nat × G × AV)} (gA:∀ x∈eF,x∈aj)
  (bq:∀ j,Cl cl k j->j∈kn/\∀ x∈aj,x.1=j->x∈eF) (pE:∀ x∈eF,¬ Cl cl x.1 k) (t:Nat) (ht:t∈jg all o):ml all cl aj r k t (bl (bG eF r) t):=by
 have Gx:∀ x∈aj,∀ j o',all[j]?=some o'->o'.dst=some t->x.2.1=t->x.1=j:=by intro x hx j o' bF db oc;obtain ⟨_,o2,cg,kE⟩:=hi.gI x hx;rw [oc] at kE;exact hs.d1 _ _ _ _ _ cg bF kE db
 by_cases hw:∃ (j:Nat) (o':Oper),all[j]?=some o'/\o'.dst=some t
 ·obtain ⟨j,o',bF,db⟩:=hw;rcases hs.n1 k o t hk ht j o' bF db with hc|hc
  ·obtain ⟨hj,cH⟩:=bq j hc;obtain ⟨g,v,hm⟩:=hi.DD j hj o' t bF db;refine .inl ⟨j,g,v,hc,hm,Qw (cH _ hm rfl) ?_⟩;intro x hx oc;exact hi.zy x (gA x hx) _ hm (Gx x (gA x hx) j o' bF db oc)
  refine .inr ⟨fun j2 o2 cg kE=>by rw [hs.d1 _ _ _ _ _ cg bF kE db];exact hc,Qv ?_⟩;intro x hx oc;have:=Gx x (gA x hx) j o' bF db oc;exact pE x hx (this ▸ hc)
 refine .inr ⟨fun j o' bF db=>absurd ⟨j,o',bF,db⟩ hw,Qv ?_⟩;intro x hx oc;obtain ⟨_,o2,cg,kE⟩:=hi.gI x (gA x hx);exact hw ⟨_,o2,cg,oc ▸ kE⟩
theorem KK (hi:iz n P all cl ord r kn rest nf aj h L) (hs:gH all cl ord) {k t:Nat} {x y:Option (G × AV)} (hx:ml all cl aj r k t x) (hy:ml all cl aj r k t y)
  (iy:∀ j,Cl cl k j->Cl cl j k->False):x=y:=by
 rcases hx with ⟨j,g,v,h1,h2,rfl⟩|⟨h1,rfl⟩<;>rcases hy with ⟨j',g',v',k1,k2,rfl⟩|⟨k1,rfl⟩
 ·obtain ⟨_,o,ho,hd⟩:=hi.gI _ h2;obtain ⟨_,o',bF,db⟩:=hi.gI _ k2;have:=hs.d1 _ _ _ _ _ ho bF hd db;have:=hi.zy _ h2 _ k2 this;cases this;rfl
 ·obtain ⟨_,o,ho,hd⟩:=hi.gI _ h2;exact (iy j h1 (k1 _ _ ho hd)).elim
 ·obtain ⟨_,o,ho,hd⟩:=hi.gI _ k2;exact (iy j' k1 (h1 _ _ ho hd)).elim
 rfl
def dC (L:Array Bool) (aj:List (Nat × Nat × G × AV)):List (Nat × Nat × G × AV):=aj.filter fun x=>L.getD x.1 false
theorem pM {x:Nat × Nat × G × AV}:x∈dC L aj↔x∈aj/\L.getD x.1 false=true:=by simp [dC,List.mem_filter]
theorem KL {p q:(Nat × Nat × G × AV)->Bool} {t:Nat}:∀ {aj:List (Nat × Nat × G × AV)},(∀ x∈aj,x.2.1=t->p x=q x)->bl (bG (aj.filter p) r) t=bl (bG (aj.filter q) r) t
 | [],_=>rfl
 | x::aj,h=>by
   have ih:=KL (p:=p) (q:=q) (t:=t) (aj:=aj) fun y hy=>h y (List.mem_cons_of_mem _ hy);have skip:∀ l:List (Nat × Nat × G × AV),x.2.1≠t->bl (bG (x::l) r) t=bl (bG l r) t:=by intro l aM;obtain ⟨i,d,g,v⟩:=x;show bl ((d,g,v)::bG l r) t=_;rw [qQ,if_neg aM]
   have my:∀ l l':List (Nat × Nat × G × AV),bl (bG l r) t=bl (bG l' r) t->bl (bG (x::l) r) t=bl (bG (x::l') r) t:=by intro l l' he;obtain ⟨i,d,g,v⟩:=x;show bl ((d,g,v)::bG l r) t=bl ((d,g,v)::bG l' r) t;rw [qQ,qQ,he]
   simp only [List.filter_cons];by_cases hx:x.2.1=t
   ·rw [h x List.mem_cons_self hx];split
    ·exact my _ _ ih
    exact ih
   split<;>split
   ·exact my _ _ ih
   ·rw [skip _ hx];exact ih
   ·rw [skip _ hx];exact ih
   exact ih
theorem bK.KM {g':Gh} {h':af} {w':World} (hc:bK n X g0 r h a w) (dH:CW X g' h' w') (ax:Step X g0 h w g' h' w') {d:Nat} (hd:d<n) {gg:G} {v:AV} {u:Value}
  (n1:∀ e∈gg,e.1≠d) (n2:∀ t gg v,bl r t=some (gg,v)->∀ e∈gg,e.1≠d) (h1:dj a gg->(∀ e∈gg,e.2.1=e.2.2)/\ae ⟨g',live X h',w'⟩ v u) (h2:¬ dj a gg->u=undef) :
  bK n X g' ((d,gg,v)::r) h' (a.put (some d) u) w':=by
 have lz:(a.put (some d) u).tmps[d]?=some u:=by have:=hc.size;simp [Act.put,Array.getElem?_setIfInBounds,show d<a.tmps.size from by omega]
 refine ⟨dH,?_,hc.defers,by simpa [Act.put] using hc.size⟩;intro t FO v' hl;unfold bl at hl;split at hl
 ·rename_i ht;have ht:=Nat.eq_of_beq_eq_true ht;subst ht;cases hl
  rw [FN n1,lz];exact ⟨fun hh=>⟨(h1 hh).1,u,rfl,(h1 hh).2⟩,fun hh=>by rw [h2 hh]⟩
 rename_i ht;have aM:t≠d:=by intro e;subst e;rw [Nat.beq_refl] at ht;cases ht
 rw [FN (n2 t FO v' hl)];have hg:(a.put (some d) u).tmps[t]?=a.tmps[t]?:=(by simp [Act.put,Array.getElem?_setIfInBounds_ne (Ne.symm aM)]);rw [hg];exact (hc.step dH ax).lr t FO v' hl
theorem KN {aj:List (Nat × Nat × G × AV)} {t:Nat} {gg:G} {v:AV} (h:bl (bG aj r) t=some (gg,v)):(∃ x∈aj,x.2=(t,gg,v))\/bl r t=some (gg,v):=by
 induction aj with
 | nil=>exact .inr h
 | cons x aj ih=>
   obtain ⟨i,d,g',v'⟩:=x;have h2:bl ((d,g',v')::bG aj r) t=some (gg,v):=h;clear h;rw [qQ] at h2;split at h2
   ·rename_i hb;subst hb;cases h2
    exact .inl ⟨_,List.mem_cons_self,rfl⟩
   rcases ih h2 with ⟨x,hx,e⟩|h
   ·exact .inl ⟨x,List.mem_cons_of_mem _ hx,e⟩
   exact .inr h
theorem DF {L:Array Bool} {i j:Nat}:(L.setIfInBounds i true).getD j false=true->i=j\/L.getD j false=true:=by
 intro hh;by_cases e:i=j
 ·exact .inl e
 rw [getD_set_ne false e] at hh;exact .inr hh
theorem DG {L:Array Bool} {i:Nat} (h:i<L.size):L.getD i true=L.getD i false:=by simp [h]
theorem Yh (hi:iz n P all cl ord r kn rest nf aj h L) (hs:gH all cl ord) {k:Nat} {o:Oper} (hk:k∈kn) (mm:all[k]?=some o) (ea:L.getD k false=false)
  (aP:k<L.size) {g v} (CX:∀ d,o.dst=some d->(k,d,g,v)∈aj) :
  ∀ t gg vv,bl (bG (dC (L.setIfInBounds k true) aj) r) t=some (gg,vv)->bl (match o.dst with|some d=>(d,g,v)::bG (dC L aj) r|none=>bG (dC L aj) r) t=some (gg,vv):=by
 intro t gg vv hl;have ju:(L.setIfInBounds k true).getD k false=true:=(by simp [aP]);cases hd:o.dst with
 | none=>
   simp only;rw [<- hl];refine KL fun x hx oc=>?_
   have aM:k≠x.1:=by
    intro e;obtain ⟨_,o2,cg,kE⟩:=hi.gI x hx;rw [<- e,mm] at cg;cases cg
    rw [hd] at kE;cases kE
   simp only [getD_set_ne false aM]
 | some d=>
   simp only;have hm:=CX d hd;have Gx:∀ x∈aj,x.2.1=d->x=(k,d,g,v):=by intro x hx Yi;obtain ⟨_,o2,cg,kE⟩:=hi.gI x hx;rw [Yi] at kE;exact hi.zy x hx _ hm (hs.d1 _ _ _ _ _ cg mm kE hd)
   by_cases ht:t=d
   ·subst ht
    have:bl (bG (dC (L.setIfInBounds k true) aj) r) t=some (g,v):=
     Qw (pM.2 ⟨hm,ju⟩) fun x hx oc=>Gx x (pM.1 hx).1 oc
    rw [this] at hl;rw [qQ,if_pos rfl];exact hl
   rw [qQ,if_neg (Ne.symm ht),<- hl];refine KL fun x hx oc=>?_
   have aM:k≠x.1:=by
    intro e;obtain ⟨_,o2,cg,kE⟩:=hi.gI x hx;rw [<- e,mm] at cg;cases cg
    rw [hd] at kE;have Yj:d=x.2.1:=(by injection kE);exact ht (oc.symm.trans Yj.symm)
   simp only [getD_set_ne false aM]
end
end Go.Abs
/-
 The abstract fR,part O: the law on drawn regions.
-/
namespace Go.Abs
open Go
variable {P:Program} {n:Nat} {X:Nat->Prop} {g0:Gh} {r:aC} {h:af} {a:Act} {w:World}
variable {all:List Oper} {cl:List Nat} {ord:List Nat}
variable {kn rest nf:List Nat} {aj:List (Nat × Nat × G × AV)} {L:Array Bool}
theorem iz.lt (hi:iz n P all cl ord r kn rest nf aj h L) (hs:gH all cl ord) {i:Nat} (hm:i∈ord):i<L.size/\∃ o,all[i]?=some o:=by obtain ⟨pre,post,e⟩:=List.append_of_mem hm;obtain ⟨o,ho,_⟩:=hs.p4 pre i post e;exact ⟨by rw [hi.kD];exact (List.getElem?_eq_some_iff.1 ho).1,o,ho⟩
theorem iz.list (hi:iz n P all cl ord r kn rest nf aj h L) {k:Nat} {o:Oper} (hk:k∈kn) (mm:all[k]?=some o)
  (he:∀ e∈o.after.toList,Region.binds .any e=true->L.getD e.on false=true):iz n P all cl ord r kn rest nf aj h (L.setIfInBounds k true):=by
 refine ⟨hi.split,by simpa using hi.kD,?_,?_,hi.gI,hi.zy,hi.DD,hi.path,?_⟩
 ·intro i hL;rcases DF hL with rfl|hL
  ·exact hk
  exact hi.qR i hL
 ·intro i hL;rcases DF hL with rfl|hL
  ·exact ⟨o,mm,fun e h1 h2=>getD_set_true (he e h1 h2)⟩
  obtain ⟨o',bF,hh⟩:=hi.tA i hL;exact ⟨o',bF,fun e h1 h2=>getD_set_true (hh e h1 h2)⟩
 intro k' bn hL;refine hi.fact k' bn ?_;cases hb:L.getD k' false with
 | false=>rfl
 | true=>rw [getD_set_true hb] at hL;cases hL
theorem Qx {p:Nat->Bool}:∀ {l:List Nat},(∃ i∈l,p i=false)->∃ pre i post,l=pre++i::post/\(∀ j∈pre,p j=true)/\p i=false
 | [],h=>by obtain ⟨i,h,_⟩:=h;cases h
 | x::l,h=>by
   cases hx:p x with
   | false=>exact ⟨[],x,l,rfl,by simp,hx⟩
   | true=>
     obtain ⟨i,hi,hp⟩:=h
     have:∃ i∈l,p i=false:=by
      rcases List.mem_cons.1 hi with rfl|hi
      ·rw [hx] at hp;cases hp
      exact ⟨i,hi,hp⟩
     obtain ⟨pre,i,post,rfl,h1,h2⟩:=Qx this;refine ⟨x::pre,i,post,rfl,fun j hj=>?_,h2⟩;rcases List.mem_cons.1 hj with rfl|hj
     ·exact hx
     exact h1 j hj
theorem KO (hi:iz n P all cl ord r kn rest nf aj h L) (hs:gH all cl ord) (hr:Region.ready .any all.toArray L=[]):∀ i∈ord,L.getD i false=true:=by
 intro i hm;cases hb:L.getD i false with
 | true=>rfl
 | false=>
   obtain ⟨pre,k,post,e,h1,h2⟩:=Qx (p:=fun i=>L.getD i false) ⟨i,hm,hb⟩;obtain ⟨o,ho,hh⟩:=hs.p4 pre k post e;have aP:k<L.size:=by rw [hi.kD];exact (List.getElem?_eq_some_iff.1 ho).1
   have:k∈Region.ready .any all.toArray L:=by rw [mem_ready];refine ⟨by rw [DG aP];exact h2,o,by simpa using ho,fun e he hb=>h1 _ (hh e (by simpa using he) hb)⟩
   rw [hr] at this;cases this
def pN (N:Nat) (L:Array Bool):Nat:=((List.range N).filter fun i=>!L.getD i false).length
theorem DH {N k:Nat} (hk:k<N) (hN:N=L.size) (hf:L.getD k false=false):pN N (L.setIfInBounds k true)<pN N L:=by
 unfold pN
 have key:∀ l:List Nat,(l.filter fun i=>!(L.setIfInBounds k true).getD i false).length<=(l.filter fun i=>!L.getD i false).length /\
   (k∈l->(l.filter fun i=>!(L.setIfInBounds k true).getD i false).length<(l.filter fun i=>!L.getD i false).length):=by
  intro l;induction l with
  | nil=>simp
  | cons x l ih=>
    simp only [List.filter_cons];by_cases hx:k=x
    ·subst hx;have h1:(L.setIfInBounds k true).getD k false=true:=(by simp [show k<L.size from hN ▸ hk]);rw [h1,hf];simp only [Bool.not_true,Bool.false_eq_true,if_false,Bool.not_false,if_true,List.length_cons];exact ⟨by omega,fun _=>by omega⟩
    rw [getD_set_ne false hx];split
    ·simp only [List.length_cons];refine ⟨by omega,fun hm=>?_⟩;have:=ih.2 ((List.mem_cons.1 hm).resolve_left hx);omega
    refine ⟨ih.1,fun hm=>ih.2 ((List.mem_cons.1 hm).resolve_left hx)⟩
 exact (key _).2 (List.mem_range.2 hk)
theorem Qy {N:Nat} (h:pN N L=0):∀ i<N,L.getD i false=true:=by intro i hi;unfold pN at h;have:=List.eq_nil_of_length_eq_zero h;rw [List.filter_eq_nil_iff] at this;simpa using this i (List.mem_range.2 hi)
theorem Gy {i:Nat}:∀ {g:G},yi cl all i g=true->∀ e∈g,∀ j o,all[j]?=some o->o.dst=some e.1->Cl cl i j
 | [],_,e,he=>by cases he
 | (t,b,w)::g,h,e,he=>by
   simp only [yi,Bool.and_eq_true] at h;rcases List.mem_cons.1 he with rfl|he
   ·intro j o ho hd;have:=List.all_eq_true.1 h.1 (o,j) (by rw [List.mem_zipIdx_iff_getElem?];exact ho);unfold Cl;simpa [KJ.2 hd] using this
   exact Gy h.2 e he
theorem Qz {i:Nat}:∀ {l:List Nat},BJ cl i l=true->∀ j∈l,Cl cl j i
 | [],_,j,hj=>by cases hj
 | x::l,h,j,hj=>by
   unfold BJ at h;split at h
   ·rename_i hb;rcases List.mem_cons.1 hj with rfl|hj
    ·exact hb
    exact Qz h j hj
   cases h
theorem QA {i:Nat}:∀ {l:List Nat},BK cl i l=true->∀ j∈l,Cl cl i j
 | [],_,j,hj=>by cases hj
 | x::l,h,j,hj=>by
   unfold BK at h;split at h
   ·rename_i hb;rcases List.mem_cons.1 hj with rfl|hj
    ·exact hb
    exact QA h j hj
   cases h
theorem ml.more {eF:List (Nat × Nat × G × AV)} (gA:∀ x∈aj,x∈eF) {k t:Nat} {x:Option (G × AV)} (h:ml all cl aj r k t x):ml all cl eF r k t x:=by
 rcases h with ⟨j,g,v,h1,h2,h3⟩|h
 ·exact .inl ⟨j,g,v,h1,gA _ h2,h3⟩
 exact .inr h
theorem Bd {d:Nat}:∀ {aj:List (Nat × Nat × G × AV)},pt (bG aj r) d=true->pt r d=true
 | [],h=>h
 | (i,t,g,v)::aj,h=>by have h:pt ((t,g,v)::bG aj r) d=true:=h;exact Bd (xh h).2
theorem iz.enter {k:Nat} (hi:iz n P all cl ord r kn (k::rest) nf aj h L) (hs:gH all cl ord) {o:Oper} (mm:all[k]?=some o) {eF:List (Nat × Nat × G × AV)} {qT:List Nat} {h':af} {g:G} {v:AV}
  (KP:eF=match o.dst with|some d=>(k,d,g,v)::aj|none=>aj) (jO:∀ e∈g,∀ j o,all[j]?=some o->o.dst=some e.1->Cl cl k j)
  {L':Array Bool} (hL:L'=L\/L'=L.setIfInBounds k true/\∀ e∈o.after.toList,Region.binds .any e=true->L.getD e.on false=true)
  (Yk:∀ k'∈kn,L'.getD k' false=false->∃ o g v Rk,all[k']?=some o/\dS P all Rk h' (fun g' v'=>g'=g/\v'=v) o /\
    (∀ t∈jg all o,ml all cl aj r k' t (bl Rk t)) /\
    (∀ d,o.dst=some d->(k',d,g,v)∈aj/\d<n/\(∀ e∈g,e.1≠d)/\∀ t gg v,bl r t=some (gg,v)->∀ e∈gg,e.1≠d) /\
    (k' ∉ qT->∀ h',dS P all Rk h' (fun g' v'=>g'=g/\v'=v) o))
  (Jp:L'.getD k false=false->∃ o g v Rk,all[k]?=some o/\dS P all Rk h' (fun g' v'=>g'=g/\v'=v) o /\
    (∀ t∈jg all o,ml all cl eF r k t (bl Rk t)) /\
    (∀ d,o.dst=some d->(k,d,g,v)∈eF/\d<n/\(∀ e∈g,e.1≠d)/\∀ t gg v,bl r t=some (gg,v)->∀ e∈gg,e.1≠d) /\
    (k ∉ qT->∀ h',dS P all Rk h' (fun g' v'=>g'=g/\v'=v) o)) :
  iz n P all cl ord r (kn++[k]) rest qT eF h' L':=by
 have jz:k ∉ kn:=by have:=hs.p3;rw [hi.split,List.nodup_append] at this;exact fun hm=>this.2.2 k hm k (by simp) rfl
 have gA:∀ x∈aj,x∈eF:=by
  intro x hx;rw [KP];split
  ·exact List.mem_cons_of_mem _ hx
  exact hx
 have cH:∀ x∈eF,x∈aj\/(∃ d,o.dst=some d/\x=(k,d,g,v)):=by
  intro x hx;rw [KP] at hx;split at hx
  ·rename_i d hd;rcases List.mem_cons.1 hx with rfl|hx
   ·exact .inr ⟨d,hd,rfl⟩
   exact .inl hx
  exact .inl hx
 refine ⟨by rw [hi.split];simp,?_,?_,?_,?_,?_,?_,?_,?_⟩
 ·rcases hL with rfl|⟨rfl,_⟩
  ·exact hi.kD
  simpa using hi.kD
 ·intro i dW;rcases hL with rfl|⟨rfl,_⟩
  ·exact List.mem_append_left _ (hi.qR i dW)
  rcases DF dW with rfl|dW
  ·simp
  exact List.mem_append_left _ (hi.qR i dW)
 ·intro i dW;rcases hL with rfl|⟨rfl,he⟩
  ·exact hi.tA i dW
  rcases DF dW with rfl|dW
  ·exact ⟨o,mm,fun e h1 h2=>getD_set_true (he e h1 h2)⟩
  obtain ⟨o',bF,hh⟩:=hi.tA i dW;exact ⟨o',bF,fun e h1 h2=>getD_set_true (hh e h1 h2)⟩
 ·intro x hx;rcases cH x hx with hx|⟨d,hd,rfl⟩
  ·obtain ⟨h1,h2⟩:=hi.gI x hx;exact ⟨List.mem_append_left _ h1,h2⟩
  exact ⟨by simp,o,mm,hd⟩
 ·intro x hx y hy e;rcases cH x hx with hx|⟨d,hd,rfl⟩<;>rcases cH y hy with hy|⟨d',db,rfl⟩
  ·exact hi.zy x hx y hy e
  ·exact absurd (show k∈kn from (show x.1=k from e) ▸ (hi.gI x hx).1) jz
  ·exact absurd (show k∈kn from (show y.1=k from e.symm) ▸ (hi.gI y hy).1) jz
  rw [hd] at db;cases db;rfl
 ·intro k' bn o' d bF hd;rcases List.mem_append.1 bn with bn|bn
  ·obtain ⟨g',v',hm⟩:=hi.DD k' bn o' d bF hd;exact ⟨g',v',gA _ hm⟩
  simp at bn;subst bn;rw [mm] at bF;cases bF
  refine ⟨g,v,?_⟩;rw [KP,hd];exact List.mem_cons_self
 ·intro x hx e he j o' bF db;rcases cH x hx with hx|⟨d,hd,rfl⟩
  ·exact hi.path x hx e he j o' bF db
  exact jO e he j o' bF db
 intro k' bn hl;rcases List.mem_append.1 bn with bn|bn
 ·obtain ⟨o',g',v',Rk,h1,h2,h3,h4,h5⟩:=Yk k' bn hl;exact ⟨o',g',v',Rk,h1,h2,fun t ht=>(h3 t ht).more gA,fun d hd=>⟨gA _ (h4 d hd).1,(h4 d hd).2⟩,h5⟩
 simp at bn;subst bn;exact Jp hl
end Go.Abs
/-
 The abstract fR,part P: appending behind a token leaves every own object but tokens as it T1.
-/
namespace Go.Abs
open Go
variable {P:Program} {r:aC} {h h':af}
def Kept (h h':af):Prop:=∀ b o,(b,o)∈h->o≠.tok->(b,o)∈h'
theorem Kept.cons (x:Nat × Ob):Kept h (x::h):=fun b o hm _=>List.mem_cons_of_mem _ hm
theorem Kept.QB {q q':Nat} (hu:cP q .tok q' .tok h h'):Kept h h':=by
 induction hu with
 | here h=>
   intro b o hm aM;rcases List.mem_cons.1 hm with e|hm
   ·cases e;exact absurd rfl aM
   exact List.mem_cons_of_mem _ hm
 | there hu ih=>
   intro b o hm aM;rcases List.mem_cons.1 hm with e|hm
   ·subst e;exact List.mem_cons_self
   exact List.mem_cons_of_mem _ (ih b o hm aM)
theorem QC {g:G} {K:AV->Prop} {op:Op} (ho:reads op=true) (hk:Kept h h') (hq:bH P r g h K op):bH P r g h' K op:=by
 cases op<;>try (simp [reads] at ho;done)
 case load t y=>
  simp only [bH] at hq ⊢;split at hq
  ·exact hq
  ·obtain ⟨cs,l,h1,h2⟩:=hq;exact ⟨cs,l,hk _ _ h1 (by simp),h2⟩
  exact hq
 case lookup t x i ok=>
  revert hq;unfold bH;simp only;repeat' split
  all_goals first
   | exact fun hh=>hh
   | exact fun ⟨es,v,f,h1,h2⟩=>⟨es,v,f,hk _ _ h1 (by simp),h2⟩
theorem Gz {all:List Oper} {cl:List Nat} {i:Nat}:∀ {nf:List Nat},uV cl all i nf=true->∀ j∈nf,Nat.testBit (lq cl i) j=true\/∃ o,all[j]?=some o/\reads o.op=true
 | [],_,j,hj=>by cases hj
 | k::nf,h,j,hj=>by
   unfold uV at h;split at h
   ·rename_i h1;rcases List.mem_cons.1 hj with rfl|hj
    ·exact .inl h1
    exact Gz h j hj
   split at h<;>try contradiction
   rename_i o ho;split at h<;>try contradiction
   rename_i hr;rcases List.mem_cons.1 hj with rfl|hj
   ·exact .inr ⟨o,ho,hr⟩
   exact Gz h j hj
theorem QD {K:AV->af->Prop} {op:Op} (ha:calm r op=true) (hq:cy P r h K op):cy P r h (fun v h'=>K v h'/\Kept h h') op:=by
 unfold calm at ha;split at ha<;>try contradiction
 rename_i cl;split at ha<;>try contradiction
 rename_i cU;simp only [cy,cU] at hq ⊢;split at hq<;>try contradiction
 split at hq<;>try contradiction
 split at hq<;>try contradiction
 split at hq<;>try contradiction
 split at hq<;>try contradiction
 split at hq<;>try contradiction
 split at hq
 ·split at hq<;>try contradiction
  obtain ⟨eH,ys,h1,h2,h3,h4⟩:=hq;exact ⟨eH,ys,h1,h2,h3,fun q=>⟨h4 q,.cons _⟩⟩
 ·rename_i e;rw [e] at ha;simp at ha
 ·split at hq<;>try contradiction
  exact ⟨hq.1,fun q=>⟨hq.2 q,.cons _⟩⟩
 ·rename_i e;rw [e] at ha;simp at ha
 ·rename_i e;rw [e] at ha;simp at ha
 ·split at hq<;>try contradiction
  obtain ⟨cs,ys,h1,h2,h3,h4⟩:=hq;exact ⟨cs,ys,h1,h2,h3,fun q'=>let ⟨h',a,b⟩:=h4 q';⟨h',a,b,.QB a⟩⟩
 ·split at hq<;>try contradiction
  split at hq<;>try contradiction
  exact ⟨hq.1,fun q'=>let ⟨h',a,b⟩:=hq.2 q';⟨h',a,b,.QB a⟩⟩
 ·exact hq.elim
 split at hq<;>try contradiction
 split at hq<;>try contradiction
 split at hq<;>try contradiction
 split at hq<;>try contradiction
 split at hq<;>try contradiction
 split at hq<;>try contradiction
 rename_i e;rw [e] at ha;simp at ha
theorem QE {K:AV->af->Prop} {op:Op} {own jE:List Nat} {d:Option Nat} (ha:calm r op=true) (hq:gJ P own jE d r h K op):gJ P own jE d r h (fun v h'=>K v h'/\Kept h h') op:=by
 unfold gJ at hq ⊢;split at hq
 ·rename_i cl d;split at hq
  ·skip;unfold uS at hq ⊢;revert hq;repeat' split
   all_goals first|exact fun hh=>hh.elim|exact fun hh=>⟨hh.1,fun b=>⟨hh.2 b,.cons _⟩⟩
  skip;exact QD ha hq
 ·simp [calm] at ha
 exact QD ha hq
end Go.Abs
/-
 The abstract fR,part Q: the law on drawn regions,its end.
-/
namespace Go.Abs
open Go
variable {P:Program} {n:Nat} {X:Nat->Prop} {g0:Gh} {r:aC} {h:af} {a:Act} {w:World}
variable {all:List Oper} {cl:List Nat} {ord:List Nat}
variable {kn rest nf:List Nat} {aj:List (Nat × Nat × G × AV)} {L:Array Bool}
theorem aw.mono {f:FuncId} {args:List AV} {R R':AV->af->Prop} (hk:∀ v h',R v h'->R' v h') (hf:aw P f args h R):aw P f args h R':=
 hf.post fun v h1 hR=>⟨v,h1,hk v h1 hR,aa.refl _,fun _ _ hm=>hm,fun hn=>hn⟩
theorem zA {K K':AV->af->Prop} {op:Op} (hk:∀ v h',K v h'->K' v h') (hq:cy P r h K op):cy P r h K' op:=by
 revert hq;unfold cy;repeat' split
 all_goals first
  | exact fun hh=>hh.elim
  | exact fun hh=>hk _ _ hh
  | exact fun hh b=>hk _ _ (hh b)
  | exact aw.mono hk
  | exact fun ⟨cs,h',h1,h2,h3⟩=>⟨cs,h',h1,h2,hk _ _ h3⟩
  | exact fun ⟨es,h1,h2⟩=>⟨es,h1,fun bs cl hb=>let ⟨h',a,b⟩:=h2 bs cl hb;⟨h',a,fun it=>hk _ _ (b it)⟩⟩
  | exact fun ⟨m,cl,seen,es,bs,h1,h2,h3,h4⟩=>⟨m,cl,seen,es,bs,h1,h2,fun hb=>hk _ _ (h3 hb),fun i b e a1 a2 a3=>let ⟨h',a,b⟩:=h4 i b e a1 a2 a3;⟨h',a,hk _ _ b⟩⟩
  | exact fun ⟨m,cl,seen,es,bs,h1,h2,i,b,e,s0,a1,a2,a3,a4⟩=>⟨m,cl,seen,es,bs,h1,h2,i,b,e,s0,a1,a2,a3,hk _ _ a4⟩
  | exact fun ⟨eH,ys,h1,h2,cs,h',a1,a2,a3⟩=>⟨eH,ys,h1,h2,cs,h',a1,a2,hk _ _ a3⟩
  | exact fun ⟨cs,ys,h1,h2,h3,h4⟩=>⟨cs,ys,h1,h2,h3,fun q'=>let ⟨h',a,b⟩:=h4 q';⟨h',a,hk _ _ b⟩⟩
  | exact fun ⟨s,pos,h1,h2,h3⟩=>⟨s,pos,h1,fun hb=>hk _ _ (h2 hb),fun hb=>let ⟨h',a,b⟩:=h3 hb;⟨h',a,hk _ _ b⟩⟩
  | exact fun hh=>⟨hh.1,fun b=>hk _ _ (hh.2 b)⟩
  | exact fun ⟨eH,ys,h1,h2,h3,h4⟩=>⟨eH,ys,h1,h2,h3,fun b=>hk _ _ (h4 b)⟩
  | exact fun ⟨cs,h1,h2,h3⟩=>⟨cs,h1,h2,fun b=>hk _ _ (h3 b)⟩
  | exact fun ⟨eH,ys,h1,h2,h3,cs,h4,h5⟩=>⟨eH,ys,h1,h2,h3,cs,h4,h5.elim (fun ⟨a,b,h',c,d⟩=>.inl ⟨a,b,h',c,hk _ _ d⟩) (fun ⟨a,b,c⟩=>.inr ⟨a,b,fun q=>hk _ _ (c q)⟩)⟩
  | exact fun ⟨cs,h1,h2,h3⟩=>⟨cs,h1,h2,fun b'=>let ⟨h',a,b⟩:=h3 b';⟨h',a,hk _ _ b⟩⟩
  | exact fun hh=>⟨hh.1,fun q'=>let ⟨h',h1,h2⟩:=hh.2 q';⟨h',h1,hk _ _ h2⟩⟩
theorem Yl {K K':AV->af->Prop} {cl:Call} (hk:∀ v h',K v h'->K' v h') (hq:uS P r h K cl):uS P r h K' cl:=by
 revert hq;unfold uS;repeat' split
 all_goals first
  | exact fun hh=>hh.elim
  | exact fun hh=>⟨hh.1,fun b=>hk _ _ (hh.2 b)⟩
theorem Ym {K K':AV->af->Prop} {t:TypeId} {m:Nat} {parts:Array (Nat × Operand)} (hk:∀ v h',K v h'->K' v h') (hq:uT P r h K t m parts):uT P r h K' t m parts:=by
 revert hq;unfold uT;repeat' split
 all_goals first
  | exact fun hh=>hh.elim
  | exact fun hh b=>hk _ _ (hh b)
theorem od {K K':AV->af->Prop} {own jE:List Nat} {d:Option Nat} {op:Op} (hk:∀ v h',K v h'->K' v h') (hq:gJ P own jE d r h K op):gJ P own jE d r h K' op:=by
 revert hq;unfold gJ;split
 ·split
  ·exact Yl hk
  exact zA hk
 ·split
  ·exact Ym hk
  exact zA hk
 exact zA hk
theorem QF {aj:List (Nat × Nat × G × AV)} (h:∀ x∈aj,L.getD x.1 false=true):dC L aj=aj:=by unfold dC;rw [List.filter_eq_self];exact h
theorem KQ {k:Nat} {Q:Exit->Act->World->Prop} {next:Act->World->Prop} (hi:iz n P all cl ord r kn rest nf aj h L) (hs:gH all cl ord) (hk:k∈kn) (ea:L.getD k false=false)
  (he:∀ o,all[k]?=some o->∀ e∈o.after.toList,Region.binds .any e=true->L.getD e.on false=true) (hc:bK n X g0 (bG (dC L aj) r) h a w)
  (hn:∀ g' a' w',bK n X g' (bG (dC (L.setIfInBounds k true) aj) r) h a' w'->Step X g0 h w g' h w'->next a' w'):wpOp P all.toArray Q k next a w:=by
 obtain ⟨o,g,v,Rk,h1,h2,h3,h4,h5⟩:=hi.fact k hk ea;have aP:k<L.size:=by rw [hi.kD];exact (List.getElem?_eq_some_iff.1 h1).1
 have rX:∀ j,Cl cl k j->L.getD j false=true:=by
  intro j hj
  have:=(tz hs (S:=fun i=>L.getD i false=true\/i=k) (fun i hS=>by
   rcases hS with hS|rfl
   ·obtain ⟨o',bF,hh⟩:=hi.tA i hS;exact ⟨o',bF,fun e a b=>.inl (hh e a b)⟩
   exact ⟨o,h1,fun e a b=>.inl (he o h1 e a b)⟩) k (.inr rfl) j hj)
  rcases this.1 with h|rfl
  ·exact h
  exact absurd this.2 (Nat.lt_irrefl _)
 have iy:∀ j,Cl cl k j->Cl cl j k->False:=fun j a b=>by have:=(hi.qS hs hk a).2;have:=(hi.qS hs (hi.qS hs hk a).1 b).2;omega
 have qU:∀ t∈jg all o,bl Rk t=bl (bG (dC L aj) r) t:=by
  intro t ht;refine KK hi hs (h3 t ht) (zz hi hs h1 (fun x hx=>(pM.1 hx).1) ?_ ?_ t ht) iy
  ·intro j hj;exact ⟨hi.qR j (rX j hj),fun x hx DI=>pM.2 ⟨hx,by rw [DI];exact rX j hj⟩⟩
  intro x hx jK;have jR:=(pM.1 hx).2;have:=(tz hs (S:=fun i=>L.getD i false=true) (fun i hS=>hi.tA i hS) x.1 jR k jK).1;rw [ea] at this;cases this
 refine Yg (Yf qU h2) hc (by simpa using h1) ?_;intro g' u w' dH ax Yn Yo;have xv:=Yh (r:=r) hi hs hk h1 ea aP (g:=g) (v:=v) (fun d hd=>(h4 d hd).1);cases hd:o.dst with
 | none=>
   rw [hd] at xv;refine hn g' _ w' (bK.less ?_ xv) ax;simpa [Act.put] using hc.step dH ax
 | some d=>
   rw [hd] at xv;obtain ⟨q1,q2,q3,q4⟩:=h4 d hd;refine hn g' _ w' (bK.less ?_ xv) ax;refine hc.KM dH ax q2 q3 ?_ Yn Yo;intro t gg vv hl e rQ xB;rcases KN hl with ⟨x,hx,ex⟩|hl
   ·obtain ⟨hx,jR⟩:=pM.1 hx;have jK:=hi.path x hx e (by rw [ex];exact rQ) k o h1 (xB ▸ hd);have:=(tz hs (S:=fun i=>L.getD i false=true) (fun i hS=>hi.tA i hS) x.1 jR k jK).1;rw [ea] at this;cases this
   exact q4 t gg vv hl e rQ xB
theorem KR {c:av} {K:aC->af->Prop} {Q:Exit->Act->World->Prop} (hs:gH all cl ord):∀ (fuel:Nat) (rest kn nf:List Nat) (aj:List (Nat × Nat × G × AV)) (h:af) (L:Array Bool) (g0:Gh) (a:Act) (w:World),
  iz n P all cl ord r kn rest nf aj h L->sD P c n all cl K rest nf (bG aj r) h->bK n X g0 (bG (dC L aj) r) h a w->pN all.length L<=fuel ->
  (∀ r' h' g' a' w',K r' h'->bK n X g' r' h' a' w'->Step X g0 h w g' h' w'->Q .normal a' w')->wpAny P .any all.toArray Q fuel L a w:=by
 intro fuel;induction fuel with
 | zero=>
   intro rest kn nf aj h L g0 a w hi hr hc hu hf;have xt:=Qy (Nat.le_zero.1 hu)
   have Yp:rest=[]:=by
    cases rest with
    | nil=>rfl
    | cons x rest=>
      have hx:x∈ord:=by rw [hi.split];simp
      obtain ⟨aP,_⟩:=hi.lt hs hx;have h1:=hi.qR x (xt x (by rw [<- hi.kD];exact aP));have:=hs.p3;rw [hi.split,List.nodup_append] at this;exact absurd rfl (this.2.2 x h1 x (by simp))
   subst Yp
   have hE:dC L aj=aj:=QF fun x hx=>xt x.1 (by
    have hm:x.1∈ord:=by rw [hi.split];exact List.mem_append_left _ (hi.gI x hx).1
    rw [<- hi.kD];exact (hi.lt hs hm).1)
   refine ⟨?_,?_⟩
   ·apply List.eq_nil_iff_forall_not_mem.2;intro i hm;rw [mem_ready] at hm;obtain ⟨h1,o,ho,_⟩:=hm;have aP:i<all.length:=by have:=(Array.getElem?_eq_some_iff.1 ho).1;simpa using this
    have:=xt i aP;rw [DG (by rw [hi.kD];exact aP),this] at h1;cases h1
   rw [hE] at hc;exact hf _ h g0 a w hr hc (Step.refl _ _ _ _)
 | succ fuel IH=>
   intro rest;induction rest with
   | nil=>
     intro kn nf aj h L g0 a w hi hr hc hu hf;refine ⟨fun DJ=>?_,fun i hm=>?_⟩
     ·have xt:=KO hi hs DJ;have hE:dC L aj=aj:=QF fun x hx=>xt x.1 (by rw [hi.split];exact List.mem_append_left _ (hi.gI x hx).1);rw [hE] at hc;exact hf _ h g0 a w hr hc (Step.refl _ _ _ _)
     obtain ⟨m1,o,ho,m2⟩:=mem_ready.1 hm;have bF:all[i]?=some o:=(by simpa using ho);have aP:i<all.length:=(List.getElem?_eq_some_iff.1 bF).1;have py:i∈kn:=by have:=hs.p2 i aP;rw [hi.split] at this;simpa using this
     have jk:L.getD i false=false:=by rw [<- DG (by rw [hi.kD];exact aP)];exact m1
     have he:∀ e∈o.after.toList,Region.binds .any e=true->L.getD e.on false=true:=fun e he hb=>m2 e (by simpa using he) hb;refine KQ hi hs py jk (fun o2 cg=>by rw [bF] at cg;cases cg;exact he) hc ?_;intro g' a' w' bN ax
     exact IH [] kn nf aj h _ g' a' w' (hi.list py bF he) hr bN (by have:=DH aP hi.kD.symm jk;omega)
      (fun r2 h2 g2 a2 w2 hK cQ mQ=>hf r2 h2 g2 a2 w2 hK cQ (ax.trans hc.cw.own mQ))
   | cons k rest vU=>
     intro kn nf aj h L g0 a w hi hr hc hu hf;have kF:=hr;have mm:k∈ord:=by rw [hi.split];simp
     have jz:k ∉ kn:=by have:=hs.p3;rw [hi.split,List.nodup_append] at this;exact fun hm=>this.2.2 k hm k (by simp) rfl
     obtain ⟨aP,o,ho⟩:=hi.lt hs mm
     have ea:L.getD k false=false:=by
      cases hb:L.getD k false with
      | false=>rfl
      | true=>exact absurd (hi.qR k hb) jz
     -- xY k reads,in the T2 of all that T3 gone through
     have sN:∀ e∈o.after.toList,Region.binds .any e=true->e.on∈kn:=by obtain ⟨o2,cg,hh⟩:=hs.p4 kn k rest hi.split;rw [ho] at cg;cases cg;exact hh
     have tB:∀ j,Cl cl k j->j∈kn:=by
      intro j hj
      have:=(tz hs (S:=fun i=>i∈kn\/i=k) (fun i hS=>by
       rcases hS with hS|rfl
       ·obtain ⟨o',bF,hh⟩:=hi.DE hs i hS;exact ⟨o',bF,fun e a b=>.inl (hh e a b)⟩
       exact ⟨o,ho,fun e a b=>.inl (sN e a b)⟩) k (.inr rfl) j hj)
      rcases this.1 with h|rfl
      ·exact h
      exact absurd this.2 (Nat.lt_irrefl _)
     have qU:∀ t∈jg all o,ml all cl aj r k t (bl (bG aj r) t):=by intro t ht;refine zz hi hs ho (fun x hx=>hx) (fun j hj=>⟨tB j hj,fun x hx _=>hx⟩) ?_ t ht;intro x hx jK;exact jz (hi.qS hs (hi.gI x hx).1 jK).1
     unfold sD at hr;rw [ho] at hr;simp only at hr;split at hr
     · -- a wx one
      split at hr<;>try contradiction
      rename_i fE;split at hr<;>try contradiction
      rename_i DK;split at hr<;>try contradiction
      rename_i DL;have DK:=Qz DK;refine ⟨fun DJ=>?_,fun i hm=>?_⟩
      ·have:=KO hi hs DJ k mm;rw [ea] at this;cases this
      obtain ⟨m1,oi,zB,m2⟩:=mem_ready.1 hm;have qV:all[i]?=some oi:=(by simpa using zB);have oe:i<all.length:=(List.getElem?_eq_some_iff.1 qV).1;have jk:L.getD i false=false:=by rw [<- DG (by rw [hi.kD];exact oe)];exact m1
      have he:∀ e∈oi.after.toList,Region.binds .any e=true->L.getD e.on false=true:=fun e he hb=>m2 e (by simpa using he) hb
      have rX:∀ j,Cl cl i j->L.getD j false=true:=by
       intro j hj
       have:=(tz hs (S:=fun x=>L.getD x false=true\/x=i) (fun x hS=>by
        rcases hS with hS|rfl
        ·obtain ⟨o',bF,hh⟩:=hi.tA x hS;exact ⟨o',bF,fun e a b=>.inl (hh e a b)⟩
        exact ⟨oi,qV,fun e a b=>.inl (he e a b)⟩) i (.inr rfl) j hj)
       rcases this.1 with h|rfl
       ·exact h
       exact absurd this.2 (Nat.lt_irrefl _)
      have cH:i∈kn\/i=k\/i∈rest:=by have:=hs.p2 i oe;rw [hi.split] at this;simpa using this
      rcases cH with py|rfl|KS
      ·refine KQ hi hs py jk (fun o2 cg=>by rw [qV] at cg;cases cg;exact he) hc ?_;intro g' a' w' bN ax
       exact IH (k::rest) kn nf aj h _ g' a' w' (hi.list py qV he) kF bN (by have:=DH oe hi.kD.symm jk;omega)
        (fun r2 h2 g2 a2 w2 hK cQ mQ=>hf r2 h2 g2 a2 w2 hK cQ (ax.trans hc.cw.own mQ))
      ·rw [ho] at qV;cases qV
       unfold wpOp;simp only [zB,FP fE,if_true];left;have iy:∀ j,Cl cl i j->Cl cl j i->False:=fun j a b=>jz (hi.qS hs (tB j a) b).1
       have KT:∀ t∈ru o.op.operands.toList,bl (bG aj r) t=bl (bG (dC L aj) r) t:=by
        intro t ht;have DM:t∈jg all o:=by unfold jg;exact List.mem_append_right _ ht
        refine KK hi hs (qU t DM) (zz hi hs ho (fun x hx=>(pM.1 hx).1) ?_ ?_ t DM) iy
        ·intro j hj;exact ⟨tB j hj,fun x hx DI=>pM.2 ⟨hx,by rw [DI];exact rX j hj⟩⟩
        intro x hx jK;exact jz (hi.qS hs (hi.gI x (pM.1 hx).1).1 jK).1
       -- the heap behind it
       have vC:gJ P c.own c.lc o.dst (bG (dC L aj) r) h (fun v h'=>(fS n o.dst [] v (bG aj r) fun r'=>sD P c n all cl K rest nf r' h')/\(sC o.op=true->∃ x,h'=x::h)/\(calm (bG aj r) o.op=true->Kept h h')) o.op:=by
        have kF:gJ P c.own c.lc o.dst (bG aj r) h (fun v h'=>(fS n o.dst [] v (bG aj r) fun r'=>sD P c n all cl K rest nf r' h')/\(calm (bG aj r) o.op=true->Kept h h')) o.op:=by
         by_cases fL:calm (bG aj r) o.op=true
         ·exact od (fun v h' hh=>⟨hh.1,fun _=>hh.2⟩) (QE fL hr)
         exact od (fun v h' hh=>⟨hh,fun hy=>absurd hy fL⟩) hr
        have qI:=Qr KT kF;by_cases il:sC o.op=true
        ·have:=Ye il qI;exact od (fun v h' hh=>⟨hh.1.1,fun _=>hh.2,hh.1.2⟩) this
        exact od (fun v h' hh=>⟨hh.1,fun hy=>absurd hy il,hh.2⟩) qI
       refine JF vC hc ?_;rintro v h' g' u w' ⟨ju,hx,uJ⟩ dH cJ ax
       have DN:∀ k'∈kn,(L.setIfInBounds i true).getD k' false=false->∃ o g v Rk,all[k']?=some o/\dS P all Rk h' (fun g' v'=>g'=g/\v'=v) o /\
         (∀ t∈jg all o,ml all cl aj r k' t (bl Rk t)) /\
         (∀ d,o.dst=some d->(k',d,g,v)∈aj/\d<n/\(∀ e∈g,e.1≠d)/\∀ t gg v,bl r t=some (gg,v)->∀ e∈gg,e.1≠d) /\
         (k' ∉ nf->∀ h',dS P all Rk h' (fun g' v'=>g'=g/\v'=v) o):=by
        intro k' bn dR
        have hl:L.getD k' false=false:=by
         cases hb:L.getD k' false with
         | false=>rfl
         | true=>rw [getD_set_true hb] at dR;cases dR
        obtain ⟨o',g2,v2,Rk,q1,q2,q3,q4,q5⟩:=hi.fact k' bn hl;refine ⟨o',g2,v2,Rk,q1,?_,q3,q4,q5⟩;by_cases il:sC o.op=true
        ·obtain ⟨x,rfl⟩:=hx il;exact Gw (fun g K hh=>Qq hh) q2
        simp only [il] at DL;by_cases fL:calm (bG aj r) o.op=true
        ·simp only [fL] at DL;by_cases xC:k'∈nf
         ·rcases Gz DL k' xC with h1|⟨o2,h1,h2⟩
          ·have:=rX k' h1;rw [hl] at this;cases this
          rw [q1] at h1;cases h1
          exact Gw (fun g K hh=>QC h2 (uJ fL) hh) q2
         exact q5 xC h'
        simp only [fL] at DL;by_cases xC:k'∈nf
        ·have:=rX k' (QA DL k' xC);rw [hl] at this;cases this
        exact q5 xC h'
       have DO:∀ {p:Prop},(L.setIfInBounds i true).getD i false=false->p:=by intro p hh;have:(L.setIfInBounds i true).getD i false=true:=(by simp [aP]);rw [this] at hh;cases hh
       have AH:∀ r2 h2 g2 a2 w2,K r2 h2->bK n X g2 r2 h2 a2 w2->Step X g' h' w' g2 h2 w2->Q .normal a2 w2:=
        fun r2 h2 g2 a2 w2 hK cQ mQ=>hf r2 h2 g2 a2 w2 hK cQ (ax.trans hc.cw.own mQ)
       have tm:pN all.length (L.setIfInBounds i true)<=fuel:=by have:=DH oe hi.kD.symm jk;omega
       cases hd:o.dst with
       | none=>
         rw [hd] at ju;have dT:=hi.enter (n:=n) (P:=P) (g:=[]) (v:=v) (eF:=aj) (qT:=nf) (h':=h') (L':=L.setIfInBounds i true) hs ho (by rw [hd]) (by simp) (.inr ⟨rfl,he⟩) DN DO;refine IH rest _ nf aj h' _ g' _ w' dT ju ?_ tm AH;have hE:dC (L.setIfInBounds i true) aj=dC L aj:=by unfold dC;refine List.filter_congr fun x hx=>?_;exact getD_set_ne false (fun e=>jz (e ▸ (hi.gI x hx).1))
         rw [hE];simpa [Act.put] using hc.step dH ax
       | some d=>
         rw [hd] at ju;unfold fS at ju;simp only at ju;split at ju<;>try contradiction
         rename_i pO;rw [Nat.blt_eq] at pO;split at ju<;>try contradiction
         rename_i qH;have mX:=Bd (xh qH).2;have dT:=hi.enter (n:=n) (P:=P) (g:=[]) (v:=v) (eF:=(i,d,[],v)::aj) (qT:=nf) (h':=h') (L':=L.setIfInBounds i true) hs ho (by rw [hd]) (by simp) (.inr ⟨rfl,he⟩) DN DO;refine IH rest _ nf ((i,d,[],v)::aj) h' _ g' _ w' dT ju ?_ tm AH;have hE:dC (L.setIfInBounds i true) ((i,d,[],v)::aj)=(i,d,[],v)::dC L aj:=by unfold dC;have h1:(L.setIfInBounds i true).getD i false=true:=(by simp [aP]);rw [List.filter_cons,if_pos h1];congr 1;refine List.filter_congr fun x hx=>?_;exact getD_set_ne false (fun e=>jz (e ▸ (hi.gI x hx).1))
         rw [hE];show bK n X g' ((d,[],v)::bG (dC L aj) r) h' (a.put (some d) u) w';refine hc.KM dH ax pO (by simp) ?_ (fun _=>⟨by simp,cJ⟩) (fun hh=>absurd (fun e he=>by cases he) hh);intro t gg vv hl e rQ xB;rcases KN hl with ⟨x,hx,ex⟩|hl
         ·obtain ⟨hx,jR⟩:=pM.1 hx;have jK:=hi.path x hx e (by rw [ex];exact rQ) i o ho (xB ▸ hd);exact jz (hi.qS hs (hi.gI x hx).1 jK).1
         exact zb mX hl e rQ xB
      have:=rX k (DK i KS);rw [ea] at this;cases this
     -- a quiet one: gone through,not T4 carried out
     obtain ⟨g,v,gr,hE⟩:=KE hr;split at gr<;>try contradiction
     rename_i jO;have jO:=Gy jO;obtain ⟨jA,pP⟩:∃ jA,jA=(match rv (bG aj r) g o.op with|true=>nf|false=>k::nf):=⟨_,rfl⟩
     have xD:k ∉ jA->∀ h',dS P all (bG aj r) h' (fun g' v'=>g'=g/\v'=v) o:=by
      intro bn h';rw [pP] at bn;split at bn
      ·rename_i DP;exact KG DP hE
      simp at bn
     have DQ:∀ x∈nf,x∈jA:=by
      intro x hx;rw [pP];split
      ·exact hx
      exact List.mem_cons_of_mem _ hx
     have hold:∀ k'∈kn,L.getD k' false=false->∃ o g v Rk,all[k']?=some o/\dS P all Rk h (fun g' v'=>g'=g/\v'=v) o /\
         (∀ t∈jg all o,ml all cl aj r k' t (bl Rk t)) /\
         (∀ d,o.dst=some d->(k',d,g,v)∈aj/\d<n/\(∀ e∈g,e.1≠d)/\∀ t gg v,bl r t=some (gg,v)->∀ e∈gg,e.1≠d) /\
         (k' ∉ jA->∀ h',dS P all Rk h' (fun g' v'=>g'=g/\v'=v) o):=by
      intro k' bn dR;obtain ⟨o',g2,v2,Rk,q1,q2,q3,q4,q5⟩:=hi.fact k' bn dR;exact ⟨o',g2,v2,Rk,q1,q2,q3,q4,fun hh=>q5 fun hm=>hh (DQ _ hm)⟩
     cases hd:o.dst with
     | none=>
       rw [hd] at gr
       have dT:=hi.enter (n:=n) (P:=P) (g:=g) (v:=v) (eF:=aj) (qT:=jA) (h':=h) (L':=L) hs ho (by rw [hd]) jO (.inl rfl) hold
        (fun _=>⟨o,g,v,bG aj r,ho,hE,qU,fun d db=>(by rw [hd] at db;cases db),xD⟩)
       exact vU _ _ aj h L g0 a w dT (by rw [pP];exact gr) hc hu hf
     | some d=>
       rw [hd] at gr;unfold fS at gr;simp only at gr;split at gr<;>try contradiction
       rename_i pO;rw [Nat.blt_eq] at pO;split at gr<;>try contradiction
       rename_i qH;obtain ⟨gO,dN⟩:=xh qH;have mX:=Bd dN
       have dT:=hi.enter (n:=n) (P:=P) (g:=g) (v:=v) (eF:=(k,d,g,v)::aj) (qT:=jA) (h':=h) (L':=L) hs ho (by rw [hd]) jO (.inl rfl) hold
        (fun _=>⟨o,g,v,bG aj r,ho,hE,fun t ht=>(qU t ht).more (fun x hx=>List.mem_cons_of_mem _ hx),
          fun d' db=>(by rw [hd] at db;cases db;exact ⟨List.mem_cons_self,pO,gO,fun t gg vv hl=>zb mX hl⟩),xD⟩)
       refine vU _ _ ((k,d,g,v)::aj) h L g0 a w dT (by rw [pP];exact gr) ?_ hu hf;have hE:dC L ((k,d,g,v)::aj)=dC L aj:=by unfold dC;rw [List.filter_cons,if_neg (by simp only [ea];exact Bool.false_ne_true)]
       rw [hE];exact hc
end Go.Abs
/-
 The abstract fR,part R: the BG MZ xY the code does;loops;functions.
-/
namespace Go.Abs
open Go
variable {P:Program} {n:Nat} {X:Nat->Prop} {g0:Gh} {r:aC} {h:af} {a:Act} {w:World}
theorem Yq {l1 l2:af} {b d:Nat} {cs:List AV} (hc:bK n X g0 r (l1++(b,.vec cs)::l2) a w) (hl:bl r d=some ([],.ba b 0)) :
  bK n X g0 ((d,[],.ai cs)::r) (l1++l2) a w/\Step X g0 (l1++(b,.vec cs)::l2) w g0 (l1++l2) w:=by
 have cq:dj a []:=fun e he=>by cases he
 obtain ⟨s1,s2⟩:=hc.cw.sub (h':=l1++l2) (by
   intro k o hm;simp only [List.mem_append,List.mem_cons] at hm ⊢;rcases hm with h|h
   ·exact .inl h
   ·exact .inr (.inr h)) (by
   have:=hc.cw.nodup;rw [um] at this;simp only [keys,List.map_append,List.nodup_append,List.nodup_cons,List.mem_cons] at this ⊢;exact ⟨this.1,this.2.1.2,fun x hx y hy=>this.2.2 x hx y (.inr hy)⟩)
 refine ⟨⟨s1,?_,hc.defers,hc.size⟩,s2⟩;have cQ:=hc.step s1 s2;have CY:=hc.cw.sY;have CZ:=hc.cw.sep b (by rw [iZ];exact .inl rfl);have jt:=hc.cw.obj b (.vec cs) (by simp);intro t gg v' dR;rw [qQ] at dR;split at dR
 ·rename_i ht;subst ht;cases dR
  refine ⟨fun _=>⟨by simp,?_⟩,fun hh=>absurd cq hh⟩;obtain ⟨_,u,zc,mB⟩:=(hc.lr _ _ _ hl).1 cq;rw [ae] at mB;obtain ⟨p,q1,q2,q3⟩:=mB;refine ⟨u,zc,?_⟩;rw [ae];refine ⟨p.block,p.off+0,q3,?_⟩;obtain ⟨pp,sw,t2,h1,h2,h3,h4,h5,h6⟩:=jt;simp only at h1 h3 h4 q1;rw [q1] at h1;cases h1
  have key:∀ (l':List AV) (o:Nat),(∀ i x,l'[i]?=some x->∃ u,sw[p.off+(o+i)]?=some u/\u.oneCell'=true/\ae ⟨g0,live X (l1++(b,.vec cs)::l2),w⟩ x u) ->
    bC ⟨g0,live X (l1++l2),w⟩ l' p.block (p.off+o):=by
   intro l';induction l' with
   | nil=>intro o _;simp [bC]
   | cons x l' ih=>
     intro o hh;simp only [bC];obtain ⟨u,e1,e2,e3⟩:=hh 0 x (by simp);refine ⟨⟨u,?_,e2,?_,ae.mono (Step.le s2) _ _ e3⟩,?_⟩
     ·rw [cell_of_row _ p.block _ sw t2 _ h4];simpa using e1
     ·intro k s hk uz;simp only at hk;rw [h3] at hk;cases hk
      rcases uz with hx|hk
      ·exact absurd hx CZ
      exact absurd hk CY
     rw [show p.off+o+1=p.off+(o+1) from rfl];refine ih (o+1) (fun i x hx=>?_);have:=hh (i+1) x (by simpa using hx);rwa [show o+(i+1)=o+1+i from by omega] at this
  exact key cs 0 (fun i x hx=>by simpa using h6 i x hx)
 exact cQ.lr t gg v' dR
theorem KU {K:aC->af->Prop}:∀ {ds:List Nat} {r:aC} {h:af} {w:World},tU K ds r h->bK n X g0 r h a w->∃ r' h',K r' h'/\bK n X g0 r' h' a w/\Step X g0 h w g0 h' w
 | [],r,h,w,hk,hc=>⟨r,h,hk,hc,Step.refl _ _ _ _⟩
 | d::ds,r,h,w,hk,hc=>by
   unfold tU at hk;split at hk<;>try contradiction
   rename_i b hl;obtain ⟨cs,h',hu,hk⟩:=hk;obtain ⟨l1,l2,rfl,rfl⟩:=bj.split hu;obtain ⟨c1,s1⟩:=Yq hc hl;obtain ⟨r2,h2,k1,k2,k3⟩:=KU hk c1;exact ⟨r2,h2,k1,k2,s1.trans hc.cw.own k3⟩
theorem xE {c:av} (hm:P.follows .mixedOrders=true):∀ (code:Code) {Q:Ex->aC->af->Prop} {r:aC} {h:af},cw P c n X code Q r h->Holds P n X code Q r h:=by
 intro code;induction code with
 | skip=>intro Q r h hh;refine ⟨fun g a w hc=>?_⟩;exact wp_skip ⟨.normal,g,r,h,rfl,hh,hc,Step.refl _ _ _ _⟩
 | region id ops draw=>
   intro Q r h hh;cases draw with
   | true=>
     have hh:(match BL c.EB id with
      | some (ord,fz)=>aJ ops.toList ord=true /\
         sD P c n ops.toList (iS ops.toList []) (fun r' h'=>tU (fun sE qi=>pw sE (fun r3=>Q .normal r3 qi) c.my) fz r' h') ord [] r h
      | none=>Holds P n X (.region id ops true) Q r h):=hh
     split at hh
     ·rename_i ord fz jG;obtain ⟨aV,vA⟩:=hh;refine ⟨fun g a w hc=>?_⟩;refine wp_region_any hm ?_;obtain ⟨dc,ds⟩:=hc.cw.drew;have hs:=Qu aV;have bN:bK n X g r h a w.drew:=hc.step dc ds
      have hi:iz n P ops.toList (iS ops.toList []) ord r [] ord [] [] h (Array.replicate ops.size false):=by
       have cJ:∀ i,(Array.replicate ops.size false).getD i false=false:=by intro i;by_cases hi:i<ops.size<;>simp [hi]
       refine ⟨rfl,by simp,?_,?_,by simp,by simp,by simp,by simp,by simp⟩
       ·intro i hL;rw [cJ i] at hL;cases hL
       intro i hL;rw [cJ i] at hL;cases hL
      have:=KR (n:=n) (X:=X) (r:=r) (c:=c) (Q:=fun e a' w'=>∃ ex g' r' h',e=Ex.toExit ex/\Q ex r' h'/\bK n X g' r' h' a' w'/\Step X g h w g' h' w') hs ops.size ord [] [] [] h
       (Array.replicate ops.size false) g a w.drew hi vA bN (by unfold pN;exact Nat.le_trans (List.length_filter_le _ _) (by simp)) (by
         intro r' h' g' a' w' hK cQ ax;obtain ⟨r2,h2,hK,vV,DR⟩:=KU hK cQ;obtain ⟨r3,hK,hl⟩:=AK (k:=fun r3=>Q .normal r3 h2) hK;exact ⟨.normal,g',r3,h2,rfl,hK,vV.less hl,ds.trans hc.cw.own (ax.trans bN.cw.own DR)⟩)
      exact this
     exact hh
   | false=>
     refine ⟨fun g a w hc=>?_⟩;have hh:kJ P c n ops.toList (Q .normal) ops.toList r h:=hh;refine wp_region ?_
     have:=OZ (Q:=fun e a' w'=>∃ ex g' r' h',e=Ex.toExit ex/\Q ex r' h'/\bK n X g' r' h' a' w'/\Step X g h w g' h' w') ops.toList 0 r h g a w (fun j=>by simp) hh hc
      (fun r' h' g' a' w' hK bN ax=>⟨.normal,g',r',h',rfl,hK,bN,ax⟩)
     simpa [List.range_eq_range'] using this
 | seq x y Yr Ys=>
   intro Q r h hh;refine ⟨fun g a w hc=>?_⟩;refine wp_seq (wp_mono ((Yr hh).holds g a w hc) ?_);rintro e a' w' ⟨ex,g',r',h',rfl,hQ,bN,ax⟩;cases ex with
   | normal=>
     refine wp_mono ((Ys hQ).holds g' a' w' bN) ?_;rintro e a2 w2 ⟨ex,g2,r2,h2,rfl,hQ,cQ,mQ⟩;exact ⟨ex,g2,r2,h2,rfl,hQ,cQ,ax.trans hc.cw.own mQ⟩
   | exit i=>exact ⟨.exit i,g',r',h',rfl,hQ,bN,ax⟩
   | ret=>exact ⟨.ret,g',r',h',rfl,hQ,bN,ax⟩
 | cond x t f xF tC=>
   intro Q r h hh;refine ⟨fun g a w hc=>?_⟩;simp only [cw] at hh;split at hh<;>try contradiction
   rename_i b hx;have hr:=hc.aL (g:=[]) (fun e he=>by cases he) hx;rw [ae] at hr;refine wp_cond_split hr (fun hb=>(xF (hh.1 hb)).holds g a w hc) (fun hb=>(tC (hh.2 hb)).holds g a w hc)
 | block id x ih=>
   intro Q r h hh;refine ⟨fun g a w hc=>?_⟩;refine wp_block (wp_mono ((ih hh).holds g a w hc) ?_);rintro e a' w' ⟨ex,g',r',h',rfl,hQ,bN,ax⟩;cases ex with
   | normal=>exact ⟨.normal,g',r',h',rfl,hQ,bN,ax⟩
   | exit i=>
     simp only at hQ;simp only [Ex.toExit,Exit.inBlock];split at hQ
     ·rename_i hi;rw [if_pos (Nat.eq_of_beq_eq_true hi)];exact ⟨.normal,g',r',h',rfl,hQ,bN,ax⟩
     rename_i hi;rw [if_neg (fun e=>by subst e;rw [Nat.beq_refl] at hi;cases hi)];exact ⟨.exit i,g',r',h',rfl,hQ,bN,ax⟩
   | ret=>exact ⟨.ret,g',r',h',rfl,hQ,bN,ax⟩
 | loop x ih=>intro Q r h hh;exact hh
 | exit i=>intro Q r h hh;refine ⟨fun g a w hc=>?_⟩;exact wp_exit ⟨.exit i,g,r,h,rfl,hh,hc,Step.refl _ _ _ _⟩
 | ret=>intro Q r h hh;refine ⟨fun g a w hc=>?_⟩;exact wp_ret ⟨.ret,g,r,h,rfl,hh,hc,Step.refl _ _ _ _⟩
 | _=>intro Q r h hh;exact hh.elim
def xG:List (Nat × Nat)->aC->af->(aC->af->Prop)->Prop
 | [],r,h,K=>K r h
 | (t,k)::l,r,h,K=>match bl r t with
   | some ([],.aS)=>0<k/\∀ q,xG l ((t,[],.sl k (some q) [])::r) ((q,.tok)::h) K
   | _=>xG l r h K
theorem KV {K:aC->af->Prop}:∀ {l:List (Nat × Nat)} {r:aC} {h:af} {w:World},xG l r h K->bK n X g0 r h a w->∃ r' h',K r' h'/\bK n X g0 r' h' a w/\Step X g0 h w g0 h' w
 | [],r,h,w,hk,hc=>⟨r,h,hk,hc,Step.refl _ _ _ _⟩
 | (t,k)::l,r,h,w,hk,hc=>by
   have cq:dj a []:=fun e he=>by cases he
   unfold xG at hk;split at hk
   ·rename_i hl;obtain ⟨iJ,hk⟩:=hk;obtain ⟨q,c1,s1⟩:=hc.cw.FG;have eY:=hc.step c1 s1
    have cQ:bK n X g0 ((t,[],.sl k (some q) [])::r) ((q,.tok)::h) a w:=by
     refine ⟨c1,fun t' gg v' dR=>?_,hc.defers,hc.size⟩;rw [qQ] at dR;split at dR
     ·rename_i ht;subst ht;cases dR
      refine ⟨fun _=>⟨by simp,?_⟩,fun hh=>absurd cq hh⟩;obtain ⟨_,u,zc,mB⟩:=(hc.lr _ _ _ hl).1 cq;refine ⟨u,zc,?_⟩;rw [ae] at mB;subst mB;simp only [ae];exact ⟨none,0,by simp,by simp,by simp,iJ,by simp,by simp,by simp,fun _ _=>.inl rfl⟩
     exact eY.lr t' gg v' dR
    obtain ⟨r2,h2,k1,k2,k3⟩:=KV (hk q) cQ;exact ⟨r2,h2,k1,k2,s1.trans hc.cw.own k3⟩
   exact KV hk hc
def mn (ks:List Nat) (ts:List (Nat × Nat)) (J:aC->af->Prop) (r:aC) (h:af):Prop:=
 xG ts r h fun r' h'=>pw r' (fun sE=>J sE h') ks
theorem QG {ks:List Nat} {ts:List (Nat × Nat)} {J:aC->af->Prop} (hh:mn ks ts J r h) (hc:bK n X g0 r h a w) :
  ∃ r' h',J r' h'/\bK n X g0 r' h' a w/\Step X g0 h w g0 h' w:=by
 obtain ⟨r1,h1,k1,c1,s1⟩:=KV hh hc;obtain ⟨r2,k2,hl⟩:=AK (k:=fun sE=>J sE h1) k1;exact ⟨r2,h1,k2,c1.less hl,s1⟩
theorem GA {S:Nat->Prop} (h:∃ m,S m):∃ m,S m/\∀ k,S k->m<=k:=by
 obtain ⟨m,hm⟩:=h;induction m using Nat.strongRecOn with
 | _ m ih=>
   by_cases hk:∃ k,k<m/\S k
   ·obtain ⟨k,aP,hS⟩:=hk;exact ih k aP hS
   exact ⟨m,hm,fun k hS=>Nat.le_of_not_lt fun aP=>hk ⟨k,aP,hS⟩⟩
theorem KW (ks:List Nat) (ts:List (Nat × Nat)) (J:Nat->aC->af->Prop) {body:Code} {Q:Ex->aC->af->Prop} (h0:mn ks ts (fun r h=>∃ m,J m r h) r h)
  (hb:∀ m r h,J m r h->Holds P n X body (fun e r' h'=>match e with
    | .normal=>mn ks ts (fun r h=>∃ m',m'<m/\J m' r h) r' h'
    | e=>Q e r' h') r h):Holds P n X (.loop body) Q r h:=by
 refine ⟨fun g a w hc=>?_⟩
 classical
 let S:Nat->Act->World->Prop:=fun m a' w'=>∃ g' r' h',J m r' h'/\bK n X g' r' h' a' w'/\Step X g h w g' h' w'
 let I:Act->World->Prop:=fun a' w'=>∃ m,S m a' w'
 let μ:Act->World->Nat:=fun a' w'=>if hI:∃ m,S m a' w' then Classical.choose (GA hI) else 0
 have Yt:I a w:=by obtain ⟨r',h',⟨m,hJ⟩,bN,ax⟩:=QG h0 hc;exact ⟨m,g,r',h',hJ,bN,ax⟩
 refine wp_loop I μ Yt ?_;intro a1 w1 KX;have hμ:μ a1 w1=Classical.choose (GA KX):=by simp only [μ];rw [dif_pos KX]
 obtain ⟨g1,r1,h1,hJ,eY,Yu⟩:=(Classical.choose_spec (GA KX)).1;rw [<- hμ] at hJ;refine wp_mono ((hb _ r1 h1 hJ).holds g1 a1 w1 eY) ?_;rintro e a2 w2 ⟨ex,g2,r2,h2,rfl,hQ,cQ,mQ⟩;have KY:=Yu.trans hc.cw.own mQ;cases ex with
 | normal=>
   obtain ⟨r3,h3,⟨m',aP,Yv⟩,vV,DR⟩:=QG hQ cQ;have hS:S m' a2 w2:=⟨g2,r3,h3,Yv,vV,KY.trans hc.cw.own DR⟩;refine ⟨⟨m',hS⟩,?_⟩;have QH:∃ m,S m a2 w2:=⟨m',hS⟩;have:μ a2 w2<=m':=by simp only [μ];rw [dif_pos QH];exact (Classical.choose_spec (GA QH)).2 m' hS
   omega
 | exit i=>exact ⟨.exit i,g2,r2,h2,rfl,hQ,cQ,KY⟩
 | ret=>exact ⟨.ret,g2,r2,h2,rfl,hQ,cQ,KY⟩
def Be:Nat->List AV->aC
 | _,[]=>[]
 | i,x::xs=>(i,[],x)::Be (i+1) xs
def zC (P:Program) (r:aC) (h:af):List ResultVar->(List AV->Prop)->Prop
 | [],K=>K []
 | .tmp t::l,K=>match aL r [] (.tmp t) with
   | some v=>zC P r h l fun vs=>K (v::vs)
   | none=>False
 | .cell b t::l,K=>match aL r [] (.tmp b) with
   | some (.ai cs)=>gv P t cs fun v=>zC P r h l fun vs=>K (v::vs)
   | some (.ba b o)=>∃ cs l',(b,Ob.vec cs)∈h/\iR o cs=some l'/\gv P t l' fun v=>zC P r h l fun vs=>K (v::vs)
   | _=>False
def QI (R:AV->af->Prop) (h:af):List AV->Prop
 | [v]=>R v h
 | vs=>R (.aB vs) h
def KZ (P:Program) (fn:Func) (r:aC) (h:af) (R:AV->af->Prop):Prop:=zC P r h fn.results.toList (QI R h)
end Go.Abs
/-
 The abstract fR,part S: functions.
-/
namespace Go.Abs
open Go
variable {P:Program} {n:Nat} {X:Nat->Prop} {g0:Gh} {r:aC} {h:af} {a:Act} {w:World}
theorem La (hc:bK n X g0 r h a w):∀ {l:List ResultVar} {K:List AV->Prop},zC P r h l K ->
  ∃ (vs:List AV) (us:List Value),K vs/\(l.mapM (m:=Sem) fun|.tmp t=>pure (a.tmps.getD t undef)|.cell b t=>do loadVar t (<- asAddr (a.tmps.getD b undef))).run P w=.ok us w/\au ⟨g0,live X h,w⟩ vs us
 | [],K,hr=>⟨[],[],hr,by simp,by simp [au]⟩
 | .tmp t::l,K,hr=>by
   unfold zC at hr;split at hr<;>try contradiction
   rename_i v hv;obtain ⟨vs,us,hK,h1,h2⟩:=La hc hr;have cJ:=hc.aL (g:=[]) (fun e he=>by cases he) hv;refine ⟨v::vs,a.tmps.getD t undef::us,hK,?_,?_⟩
   ·simp only [List.mapM_cons,Sem.run_bind,Sem.run_pure,Result.andThen,h1]
   simp only [au];exact ⟨_,_,rfl,by simpa [Act.eval] using cJ,h2⟩
 | .cell b t::l,K,hr=>by
   unfold zC at hr;split at hr<;>try contradiction
   all_goals
    rename_i hb;have cJ:=hc.aL (g:=[]) (fun e he=>by cases he) hb;obtain ⟨z,s,hz,h2,h3⟩:=Na (t:=t) hc.cw cJ hr;obtain ⟨vs,us,hK,h1,h4⟩:=La hc hz
    have hp:∃ ad,a.eval (.tmp b)=.pointer (some ad):=by
     rw [ae] at cJ
     first
      | (obtain ⟨x,y,e,_⟩:=cJ;exact ⟨_,e⟩)
      | (obtain ⟨x,_,_,e⟩:=cJ;exact ⟨_,e⟩)
    obtain ⟨ad,hp⟩:=hp;rw [hp] at h3;have aX:a.tmps.getD b undef=.pointer (some ad):=(by simpa [Act.eval] using hp);have has:(asAddr (.pointer (some ad))).run P w=.ok ad w:=(by simp [asAddr]);have Yw:(loadVar t ad).run P w=.ok s w:=(by simpa [Instr.loadAt,Instr.sureAddr] using h3);refine ⟨z::vs,s::us,hK,?_,?_⟩
    ·simp only [List.mapM_cons,Sem.run_bind,Sem.run_pure,aX,has,Result.andThen,Yw,h1]
    simp only [au];exact ⟨_,_,rfl,h2,h4⟩
theorem GB {fn:Func} {R:AV->af->Prop} (hc:bK n X g0 r h a w) (hr:KZ P fn r h R):∃ v u,R v h/\(results fn a.tmps).run P w=.ok u w/\ae ⟨g0,live X h,w⟩ v u:=by
 obtain ⟨vs,us,hK,h1,h2⟩:=La (P:=P) hc hr
 have key:(results fn a.tmps).run P w=.ok (if h:us.length=1 then us[0] else .tuple us.toArray) w:=by
  unfold results;rw [Array.mapM_eq_mapM_toList];simp only [Sem.run_bind,Sem.run_pure,Sem.run_map,map_eq_pure_bind,Result.andThen]
  erw [h1]
  simp
 rw [key];have hl:=h2.length;unfold QI at hK;split at hK
 ·rename_i v;simp only [au] at h2;obtain ⟨u,rr,rfl,h3,rfl⟩:=h2;exact ⟨v,u,hK,by simp,h3⟩
 rename_i aM
 have:us.length≠1:=by
  intro e;rw [e] at hl
  match vs,hl,aM with
  | [v],_,aM=>exact aM v rfl
 rw [dif_neg this];exact ⟨.aB vs,.tuple us.toArray,hK,rfl,by simp only [ae];exact ⟨_,rfl,by simpa using h2⟩⟩
theorem Lb {t:Nat} {gg:G} {v:AV}:∀ {xs:List AV} {i:Nat},bl (Be i xs) t=some (gg,v)->gg=[]/\i<=t/\xs[t - i]?=some v
 | [],i,h=>by cases h
 | x::xs,i,h=>by
   unfold Be at h;unfold bl at h;split at h
   ·rename_i hb;have hb:=Nat.eq_of_beq_eq_true hb;subst hb;cases h
    exact ⟨rfl,Nat.le_refl _,by simp⟩
   obtain ⟨h1,h2,h3⟩:=Lb h;refine ⟨h1,by omega,?_⟩;rw [show t - i=(t - (i+1))+1 from by omega];simpa using h3
def DS (P:Program) (fn:Func) (R:AV->af->Prop):Ex->aC->af->Prop
 | .normal,r,h=>KZ P fn r h R
 | .ret,r,h=>KZ P fn r h R
 | .exit _,_,_=>False
theorem tD {f:FuncId} {fn:Func} {c:av} {code:Code} {args:List AV} {R:AV->af->Prop} (hf:P.funcs[f]?=some fn) (hb:fn.body=some code) (Cp:(fn.name == "runtime.NumGoroutine")=false)
  (hm:P.follows .mixedOrders=true) (hn:args.length<=fn.ntmps) (dH:∀ X,cw P c fn.ntmps X code (DS P fn R) (Be 0 args) h):aw P f args h R:=by
 refine ⟨fun X g w us hc hr=>.inl ⟨⟨fn,code,hf,hb,Cp⟩,?_⟩⟩;have hlen:=hr.length;simp at hlen;refine calls_of_wp hf hb (wp_mono ((xE (n:=fn.ntmps) hm code (dH X)).holds g _ w ⟨hc,?_,rfl,by simp;omega⟩) ?_)
 ·intro t gg v hl;obtain ⟨rfl,_,hx⟩:=Lb hl;obtain ⟨u,hu,cJ⟩:=hr.get t v (by simpa using hx);refine ⟨fun _=>⟨by simp,u,?_,cJ⟩,fun hh=>absurd (fun e he=>by cases he) hh⟩;have dK:us[t]?=some u:=(by simpa using hu);have:=(Array.getElem?_eq_some_iff.1 dK).1;rw [Array.getElem?_append_left this];exact dK
 rintro e a' w' ⟨ex,g',r',h',rfl,hQ,bN,ax⟩;cases ex with
 | normal=>
   obtain ⟨v,u,h1,h2,h3⟩:=GB (P:=P) bN hQ;exact ⟨bN.defers,u,h2,v,u,g',h',rfl,h1,bN.cw,h3,ax⟩
 | ret=>
   obtain ⟨v,u,h1,h2,h3⟩:=GB (P:=P) bN hQ;exact ⟨bN.defers,u,h2,v,u,g',h',rfl,h1,bN.cw,h3,ax⟩
 | exit i=>exact hQ.elim
theorem ab.k {f:FuncId} {vs:List AV} {v:AV} {K:AV->af->Prop} (hq:ab P f vs h v) (hk:K v h):aw P f vs h K:=
 aw.mono (by rintro v' h' ⟨rfl,rfl⟩;exact hk) hq
theorem ab.k0 {f:FuncId} {vs:List AV} {v:AV} {K:AV->af->Prop} (hq:ab P f vs [] v) (hk:K v h):aw P f vs h K:=(hq.wide h).k hk
theorem GC {c:av} (hm:P.follows .mixedOrders=true) (ks:List Nat) (ts:List (Nat × Nat)) (J:Nat->aC->af->Prop) {body:Code} {Q:Ex->aC->af->Prop} (h0:mn ks ts (fun r h=>∃ m,J m r h) r h)
  (hb:∀ m r h,J m r h->cw P c n X body (fun e r' h'=>match e with
    | .normal=>mn ks ts (fun r h=>∃ m',m'<m/\J m' r h) r' h'
    | e=>Q e r' h') r h):Holds P n X (.loop body) Q r h:=
 KW ks ts J h0 fun m r h hJ=>xE hm _ (hb m r h hJ)
def ints (l:List Int):List (List AV):=l.map fun x=>[AV.int .i64 x]
@[simp] theorem cO (l:List Int):(ints l).length=l.length:=by simp [ints]
theorem QJ {l:List Int} {j:Nat} {x:Int} (h:l[j]?=some x):(ints l)[j]?=some [AV.int .i64 x]:=by simp [ints,h]
end Go.Abs
/-
 The abstract fR,part T: the BG again,MC T5 in a TN code instead of the code T6,so that a goal stays small.
-/
namespace Go.Abs
open Go
def child:Bool->Code->Code
 | false,.seq a _=>a
 | true,.seq _ b=>b
 | false,.cond _ a _=>a
 | true,.cond _ _ b=>b
 | _,.block _ a=>a
 | _,.loop a=>a
 | _,_=>.skip
def Lc (F:Func):Code:=match F.body with|some c=>c|none=>.skip
def cat (F:Func):List Bool->Code
 | []=>Lc F
 | b::p=>child b (cat F p)
def aH (F:Func) (p:List Bool):List Oper:=match cat F p with|.region _ ops _=>ops.toList|_=>[]
theorem rY {n:Nat} {d:Option Nat} {g:G} {v:AV} {r:aC} {K K':aC->Prop} (hk:∀ r,K r->K' r) (h:fS n d g v r K):fS n d g v r K':=by
 cases d with
 | none=>exact hk _ h
 | some d=>
   unfold fS at h ⊢;simp only at h ⊢;cases h1:Nat.blt d n with
   | false=>rw [h1] at h;exact h.elim
   | true=>
     rw [h1] at h;simp only at h ⊢;cases h2:pt ((d,g,v)::r) d with
     | false=>rw [h2] at h;exact h.elim
     | true=>rw [h2] at h;exact hk _ h
theorem QK {P:Program} {r:aC} {h:af} {t:TypeId} {d:Nat} {y:Operand} {K K':aC->af->Prop} (hk:∀ r h,K r h->K' r h) (hs:yh P r h t d y K):yh P r h t d y K':=by
 unfold yh at hs ⊢;split at hs<;>try contradiction
 split at hs<;>try contradiction
 split at hs<;>try contradiction
 split at hs<;>try contradiction
 obtain ⟨cs,h',a,b,e⟩:=hs;exact ⟨cs,h',a,b,hk _ _ e⟩
theorem zD {r:aC} {k k':aC->Prop} (hk:∀ r,k r->k' r):∀ {ts:List Nat},pw r k ts->pw r k' ts
 | [],h=>hk _ h
 | t::ts,h=>by
   unfold pw at h ⊢;split at h
   ·exact zD (fun l hl=>hk _ hl) h
   exact zD hk h
theorem QL {K K':aC->af->Prop} (hk:∀ r h,K r h->K' r h):∀ {ds:List Nat} {r:aC} {h:af},tU K ds r h->tU K' ds r h
 | [],r,h,hh=>hk _ _ hh
 | d::ds,r,h,hh=>by
   unfold tU at hh ⊢;split at hh<;>try contradiction
   obtain ⟨cs,h',a,b⟩:=hh;exact ⟨cs,h',a,QL hk b⟩
theorem Ld {P:Program} {all:List Oper} {r:aC} {h:af} {K K':G->AV->Prop} {o:Oper} (hk:∀ g v,K g v->K' g v) (hh:dS P all r h K o):dS P all r h K' o:=by
 unfold dS at hh ⊢;split at hh
 ·exact vS (hk _) hh
 split at hh<;>try contradiction
 split at hh<;>try contradiction
 split at hh<;>try contradiction
 exact vS (hk _) hh
def gK (R:aC->af->Prop) (n:Nat) (d:Option Nat) (g:G) (r:aC) (h:af) (v:AV):Prop:=fS n d g v r fun r'=>R r' h
def vW (R:aC->af->Prop) (n:Nat) (d:Option Nat) (r:aC) (v:AV) (h:af):Prop:=fS n d [] v r fun r'=>R r' h
def zF (R:List Nat->aC->af->Prop) (all:List Oper) (i n:Nat) (o:Oper) (nf:List Nat) (r:aC) (h:af) (g:G) (v:AV):Prop:=
 match yi (iS all []) all i g with
 | true=>fS n o.dst g v r fun r'=>R (match rv r g o.op with|true=>nf|false=>i::nf) r' h
 | false=>False
def vX (P:Program) (c:av) (n:Nat) (all:List Oper) (K:aC->af->Prop):List Nat->List Nat->aC->af->Prop
 | [],_,r,h=>K r h
 | i::rest,nf,r,h=>match all[i]? with
   | none=>False
   | some o=>match Ah c o with
     | true=>(match o.guard with
       | none=>(match BJ (iS all []) i rest with
         | true=>(match (match sC o.op with|true=>true|false=>(match calm r o.op with|true=>uV (iS all []) all i nf|false=>BK (iS all []) i nf)) with
           | true=>gJ P c.own c.lc o.dst r h (vW (vX P c n all K rest nf) n o.dst r) o.op
           | false=>False)
         | false=>False)
       | some _=>False)
     | false=>dS P all r h (zF (vX P c n all K rest) all i n o nf r h) o
theorem Bf {P:Program} {c:av} {n:Nat} {all:List Oper} {K K':aC->af->Prop} (hk:∀ r h,K r h->K' r h):∀ {l nf:List Nat} {r:aC} {h:af},vX P c n all K l nf r h->sD P c n all (iS all []) K' l nf r h
 | [],nf,r,h,hh=>hk _ _ hh
 | i::l,nf,r,h,hh=>by
   unfold vX at hh;unfold sD;split at hh<;>try contradiction
   rename_i o ho;split at hh
   ·split at hh<;>try contradiction
    split at hh<;>try contradiction
    split at hh<;>try contradiction
    rename_i h1 _ h2 _ h3 _ h4;simp only [ho,h1,h2,h3];cases ha:sC o.op with
    | true=>exact od (fun v h'=>rY fun _=>Bf hk) hh
    | false=>
      cases fL:calm r o.op with
      | true=>
        simp only [ha,fL] at h4 ⊢;rw [h4];exact od (fun v h'=>rY fun _=>Bf hk) hh
      | false=>
        simp only [ha,fL] at h4 ⊢;rw [h4];exact od (fun v h'=>rY fun _=>Bf hk) hh
   rename_i h1;simp only [ho,h1];refine Ld (fun g v hv=>?_) hh;unfold zF at hv;split at hv<;>try contradiction
   rename_i h2;simp only [h2];exact rY (fun _=>Bf hk) hv
theorem Lf {P:Program} {c:av} {n:Nat} {all:List Oper} {K K':aC->af->Prop} (hk:∀ r h,K r h->K' r h):∀ {l nf:List Nat} {r:aC} {h:af},vX P c n all K l nf r h->vX P c n all K' l nf r h
 | [],nf,r,h,hh=>hk _ _ hh
 | i::l,nf,r,h,hh=>by
   unfold vX at hh ⊢;split at hh<;>try contradiction
   rename_i o ho;split at hh
   ·split at hh<;>try contradiction
    split at hh<;>try contradiction
    split at hh<;>try contradiction
    exact od (fun v h'=>rY fun _=>Lf hk) hh
   refine Ld (fun g v hv=>?_) hh;unfold zF at hv ⊢;split at hv<;>try contradiction
   exact rY (fun _=>Lf hk) hv
inductive Fr where
 | seq (p:List Bool)
 | aT (id:Nat)
 | head (J:aC->af->Prop)
inductive Mode where
 | go (p:List Bool)
 | op (p:List Bool) (i:Nat)
 | ex (e:Ex)
structure En where
 n:Nat
 X:Nat->Prop
 Q:Ex->aC->af->Prop
def run (P:Program) (c:av) (F:Func) (E:En):Nat->Mode->List Fr->aC->af->Prop
 | 0,_,_,_,_=>False
 | k+1,.ex e,[],r,h=>E.Q e r h
 | k+1,.ex e,.seq p::S,r,h=>(match e with
   | .normal=>run P c F E k (.go p) S r h
   | _=>run P c F E k (.ex e) S r h)
 | k+1,.ex e,.aT id::S,r,h=>(match e with
   | .exit i=>(match Nat.beq i id with
     | true=>run P c F E k (.ex .normal) S r h
     | false=>run P c F E k (.ex (.exit i)) S r h)
   | _=>run P c F E k (.ex e) S r h)
 | k+1,.ex e,.head J::S,r,h=>(match e with
   | .normal=>J r h
   | _=>run P c F E k (.ex e) S r h)
 | k+1,.op p i,S,r,h=>(match (aH F p)[i]? with
   | none=>pw r (fun r'=>run P c F E k (.ex .normal) S r' h) c.my
   | some o=>match o.guard with
     | none=>(match wx c o.dst o.op with
       | true=>(match o.op,o.dst with
         | .store t (.tmp d) y,none=>(match rp c.ye d with
           | true=>yh P r h t d y (run P c F E k (.op p (i+1)) S)
           | false=>cy P r h (vW (run P c F E k (.op p (i+1)) S) E.n o.dst r) o.op)
         | _,_=>gJ P c.own c.lc o.dst r h (vW (run P c F E k (.op p (i+1)) S) E.n o.dst r) o.op)
       | false=>bH P r [] h (gK (run P c F E k (.op p (i+1)) S) E.n o.dst [] r h) o.op)
     | some (j,w)=>match (aH F p)[j]? with
       | some oj=>(match oj.dst with
         | some tj=>(match bl r tj with
           | some (gj,.bool b)=>(match yg o.op,(match o.dst with|some d=>rp c.HJ d|none=>false) with
             | true,true=>(match gj with
               | []=>(b=w->cy P (tT tj w r) h (vW (run P c F E k (.op p (i+1)) S) E.n o.dst (tT tj w r)) o.op) /\
                  (b≠w->gK (run P c F E k (.op p (i+1)) S) E.n o.dst [(tj,b,w)] r h (.bool false))
               | _=>False)
             | _,_=>(match (match yg o.op with|true=>false|false=>wx c o.dst o.op) with
               | true=>False
               | false=>bH P r (gj++[(tj,b,w)]) h (gK (run P c F E k (.op p (i+1)) S) E.n o.dst (gj++[(tj,b,w)]) r h) o.op))
           | _=>False)
         | none=>False)
       | none=>False)
 | k+1,.go p,S,r,h=>(match cat F p with
   | .skip=>run P c F E k (.ex .normal) S r h
   | .region id _ draw=>(match draw with
     | false=>(match BL c.EB id with
       | none=>run P c F E k (.op p 0) S r h
       | some _=>Holds P E.n E.X (cat F p) (fun e r h=>run P c F E k (.ex e) S r h) r h)
     | true=>(match BL c.EB id with
       | some (ord,fz)=>aJ (aH F p) ord=true /\
          vX P c E.n (aH F p) (fun r' h'=>tU (fun sE qi=>pw sE (fun r3=>run P c F E k (.ex .normal) S r3 qi) c.my) fz r' h') ord [] r h
       | none=>Holds P E.n E.X (cat F p) (fun e r h=>run P c F E k (.ex e) S r h) r h))
   | .seq _ _=>run P c F E k (.go (false::p)) (.seq (true::p)::S) r h
   | .cond x _ _=>(match aL r [] x with
     | some (.bool t)=>(t=true->run P c F E k (.go (false::p)) S r h)/\(t=false->run P c F E k (.go (true::p)) S r h)
     | _=>False)
   | .block id _=>run P c F E k (.go (false::p)) (.aT id::S) r h
   | .loop _=>Holds P E.n E.X (cat F p) (fun e r h=>run P c F E k (.ex e) S r h) r h
   | .exit i=>run P c F E k (.ex (.exit i)) S r h
   | .ret=>run P c F E k (.ex .ret) S r h
   | _=>False)
theorem DT {R:aC->af->Prop} {K:aC->af->Prop} {n:Nat} {d:Option Nat} {g:G} {r:aC} {h:af} {v:AV} (hk:∀ r h,R r h->K r h) (hh:gK R n d g r h v):fS n d g v r fun r'=>K r' h:=
 rY (fun r=>hk r h) hh
theorem GD {R:aC->af->Prop} {K:aC->af->Prop} {n:Nat} {d:Option Nat} {r:aC} {h:af} {v:AV} (hk:∀ r h,R r h->K r h) (hh:vW R n d r v h):fS n d [] v r fun r'=>K r' h:=
 rY (fun r=>hk r h) hh
theorem Bg {P:Program} {n:Nat} {X:Nat->Prop} {c:Code} {Q Q':Ex->aC->af->Prop} (hq:∀ e r h,Q e r h->Q' e r h) {r:aC} {h:af} (hh:Holds P n X c Q r h):Holds P n X c Q' r h:=by refine ⟨fun g a w hc=>wp_mono (hh.holds g a w hc) ?_⟩;rintro e a' w' ⟨ex,g',r',h',rfl,hQ,bN,ax⟩;exact ⟨ex,g',r',h',rfl,hq _ _ _ hQ,bN,ax⟩
theorem GF {R R':aC->af->Prop} {n:Nat} {d:Option Nat} {g:G} {r:aC} {h:af} {v:AV} (hk:∀ {r h},R r h->R' r h) (hh:gK R n d g r h v):gK R' n d g r h v:=
 rY (fun r=>hk) hh
theorem Lg {R R':aC->af->Prop} {n:Nat} {d:Option Nat} {r:aC} {h:af} {v:AV} (hk:∀ {r h},R r h->R' r h) (hh:vW R n d r v h):vW R' n d r v h:=
 rY (fun r=>hk) hh
theorem pQ {P:Program} {c:av} {F:Func} {E:En}:∀ (k k':Nat) (m:Mode) (S:List Fr) {r:aC} {h:af},k<=k'->run P c F E k m S r h->run P c F E k' m S r h
 | 0,k',m,S,r,h,hB,hh=>hh.elim
 | k+1,0,m,S,r,h,hB,hh=>absurd hB (by omega)
 | k+1,k'+1,m,S,r,h,hB,hh=>by
   have ih:∀ {m:Mode} {S:List Fr} {r:aC} {h:af},run P c F E k m S r h->run P c F E k' m S r h:=pQ k k' _ _ (by omega);cases m with
   | ex e=>
     cases S with
     | nil=>exact hh
     | cons f S=>
       cases f with
       | seq p=>unfold run at hh ⊢;cases e<;>exact ih hh
       | aT id=>
         unfold run at hh ⊢;cases e with
         | exit i=>
           simp only at hh ⊢;cases hb:Nat.beq i id<;>simp only [hb] at hh ⊢<;>exact ih hh
         | _=>exact ih hh
       | head J=>unfold run at hh ⊢;cases e<;>first|exact hh|exact ih hh
   | go p=>
     unfold run at hh ⊢;cases fm:cat F p with
     | skip=>rw [fm] at hh;exact ih hh
     | region id ops draw=>
       rw [fm] at hh;cases draw with
       | false=>
         simp only at hh ⊢;split at hh
         ·exact ih hh
         exact Bg (fun e r h=>ih) hh
       | true=>
         simp only at hh ⊢;split at hh
         ·exact ⟨hh.1,Lf (fun r h=>QL fun r h=>zD fun r' hr=>ih hr) hh.2⟩
         exact Bg (fun e r h=>ih) hh
     | seq x y=>rw [fm] at hh;exact ih hh
     | cond x t f=>
       rw [fm] at hh;simp only at hh ⊢;split at hh<;>try contradiction
       exact ⟨fun hb=>ih (hh.1 hb),fun hb=>ih (hh.2 hb)⟩
     | block id x=>rw [fm] at hh;exact ih hh
     | loop x=>rw [fm] at hh;exact Bg (fun e r h=>ih) hh
     | exit i=>rw [fm] at hh;exact ih hh
     | ret=>rw [fm] at hh;exact ih hh
     | _=>rw [fm] at hh;exact hh.elim
   | op p i=>
     unfold run at hh ⊢;cases ho:(aH F p)[i]? with
     | none=>rw [ho] at hh;exact zD (fun r' hr=>ih hr) hh
     | some o=>
       rw [ho] at hh;simp only at hh ⊢;cases hg:o.guard with
       | none=>
         simp only [hg] at hh ⊢;cases hl:wx c o.dst o.op with
         | true=>
           simp only [hl] at hh ⊢;split at hh
           ·rename_i t d y e1 e2;cases hm:rp c.ye d with
            | true=>simp only [hm] at hh ⊢;exact QK (fun _ _=>ih) hh
            | false=>simp only [hm] at hh ⊢;exact zA (fun v h'=>Lg ih) hh
           exact od (fun v h'=>Lg ih) hh
         | false=>simp only [hl] at hh ⊢;exact vS (fun v=>GF ih) hh
       | some jw=>
         obtain ⟨j,w⟩:=jw;simp only [hg] at hh ⊢;split at hh<;>try contradiction
         split at hh<;>try contradiction
         split at hh<;>try contradiction
         cases DU:yg o.op with
         | false=>
           simp only [DU] at hh ⊢;split at hh<;>try contradiction
           exact vS (fun v=>GF ih) hh
         | true=>
           simp only [DU] at hh ⊢;split at hh
           ·split at hh<;>try contradiction
            exact ⟨fun hb=>zA (fun v h'=>Lg ih) (hh.1 hb),fun hb=>GF ih (hh.2 hb)⟩
           exact vS (fun v=>GF ih) hh
theorem Lh {P:Program} {c:av} {F:Func} {E:En} {p:List Bool} {S:List Fr} (B:Nat):∀ (k i:Nat) {r:aC} {h:af},k<=B->run P c F E k (.op p i) S r h->kJ P c E.n (aH F p) (run P c F E B (.ex .normal) S) ((aH F p).drop i) r h
 | 0,i,r,h,hB,hh=>hh.elim
 | k+1,i,r,h,hB,hh=>by
   have ih:∀ {r:aC} {h:af},run P c F E k (.op p (i+1)) S r h->kJ P c E.n (aH F p) (run P c F E B (.ex .normal) S) ((aH F p).drop (i+1)) r h:=Lh B k (i+1) (by omega);unfold run at hh;cases ho:(aH F p)[i]? with
   | none=>
     rw [ho] at hh;rw [List.drop_of_length_le (by simpa using ho)];unfold kJ;exact zD (fun r' hr=>pQ k B _ _ (by omega) hr) hh
   | some o=>
     rw [ho] at hh;obtain ⟨aP,he⟩:=List.getElem?_eq_some_iff.1 ho;rw [List.drop_eq_getElem_cons aP,he];unfold kJ;simp only at hh ⊢;split
     ·rename_i hg;rw [hg] at hh;simp only at hh;split
      ·rename_i hl;rw [hl] at hh;simp only at hh;split
       ·rename_i t d y e1 e2;rw [e1,e2] at hh;simp only at hh;split
        ·rename_i hm;rw [hm] at hh;exact QK (fun _ _=>ih) hh
        rename_i hm;rw [hm] at hh;simp only at hh;rw [e1,e2];exact zA (fun v h'=>GD fun _ _=>ih) hh
       rename_i aM;refine od (K:=vW (run P c F E k (.op p (i+1)) S) E.n o.dst r) (fun v h'=>GD fun _ _=>ih) ?_;split at hh
       ·rename_i t d y e1 e2;exact absurd e2 (aM t d y e1)
       exact hh
      rename_i hl;rw [hl] at hh;exact vS (fun v=>DT fun _ _=>ih) hh
     rename_i j w hg;rw [hg] at hh;simp only at hh;split at hh<;>try contradiction
     rename_i oj Da;split at hh<;>try contradiction
     rename_i tj Db;split at hh<;>try contradiction
     rename_i gj b dh;simp only [Da,Db,dh];cases DU:yg o.op with
     | false=>
       simp only [DU] at hh ⊢;split at hh<;>try contradiction
       rename_i e4;simp only [e4];exact vS (fun v=>DT fun _ _=>ih) hh
     | true=>
       simp only [DU] at hh ⊢;cases hd:o.dst with
       | none=>
         simp only [hd] at hh ⊢;exact vS (fun v=>DT fun _ _=>ih) hh
       | some d=>
         simp only [hd] at hh ⊢;cases hm:rp c.HJ d with
         | false=>
           simp only [hm] at hh ⊢;exact vS (fun v=>DT fun _ _=>ih) hh
         | true=>
           simp only [hm] at hh ⊢;cases gj with
           | nil=>exact ⟨fun hb=>zA (fun v h'=>GD fun _ _=>ih) (hh.1 hb),fun hb=>DT (fun _ _=>ih) (hh.2 hb)⟩
           | cons _ _=>exact hh.elim
theorem Li {F:Func} {p:List Bool} {id:Nat} {ops:Array Oper} {dr:Bool} (h:cat F p=.region id ops dr):aH F p=ops.toList:=by unfold aH;rw [h]
abbrev mZ (P:Program) (c:av) (F:Func) (E:En) (k:Nat) (S:List Fr):Ex->aC->af->Prop:=fun e r h=>run P c F E k (.ex e) S r h
theorem GG {P:Program} {c:av} {F:Func} {E:En} (hm:P.follows .mixedOrders=true):∀ (k:Nat) (p:List Bool) (S:List Fr) {r:aC} {h:af},
  run P c F E k (.go p) S r h->Holds P E.n E.X (cat F p) (mZ P c F E k S) r h
 | 0,p,S,r,h,hh=>hh.elim
 | k+1,p,S,r,h,hh=>by
   have ih:∀ (p:List Bool) (S:List Fr) {r:aC} {h:af},run P c F E k (.go p) S r h->Holds P E.n E.X (cat F p) (mZ P c F E k S) r h:=GG hm k;have step:∀ {e:Ex} {S:List Fr} {r:aC} {h:af},run P c F E k (.ex e) S r h->run P c F E (k+1) (.ex e) S r h:=pQ k (k+1) _ _ (by omega);have up:∀ {S:List Fr} {cc:Code} {r:aC} {h:af},Holds P E.n E.X cc (mZ P c F E k S) r h->Holds P E.n E.X cc (mZ P c F E (k+1) S) r h:=Bg fun _ _ _=>step;have tC:∀ {S:List Fr} {r:aC} {h:af},run P c F E k (.go (false::p)) S r h->Holds P E.n E.X (child false (cat F p)) (mZ P c F E k S) r h:=ih (false::p) _;have xF:∀ {S:List Fr} {r:aC} {h:af},run P c F E k (.go (true::p)) S r h->Holds P E.n E.X (child true (cat F p)) (mZ P c F E k S) r h:=ih (true::p) _;unfold run at hh;cases fm:cat F p with
   | skip=>
     rw [fm] at hh;exact up (xE (c:=c) hm .skip (Q:=mZ P c F E k S) hh)
   | region id ops draw=>
     have ho:=Li fm;rw [fm] at hh;simp only at hh;split at hh
     ·split at hh
      ·refine up (xE (c:=c) hm (.region id ops false) (?_:kJ P c E.n ops.toList (mZ P c F E k S .normal) ops.toList r h));rw [<- ho];simpa using Lh k k 0 (Nat.le_refl _) hh
      exact up hh
     refine up (xE (c:=c) hm (.region id ops true) ?_);unfold cw;simp only;split at hh
     ·rename_i ord fz hf;simp only [hf];rw [<- ho];exact ⟨hh.1,Bf (fun _ _ h=>h) hh.2⟩
     rename_i hf;simp only [hf];exact hh
   | seq x y=>
     rw [fm] at hh tC xF;simp only [child] at hh tC xF;refine ⟨fun g a w hc=>?_⟩;refine wp_seq (wp_mono ((tC hh).holds g a w hc) ?_);rintro e a' w' ⟨ex,g',r',h',rfl,hQ,bN,ax⟩;cases k with
     | zero=>exact hQ.elim
     | succ k=>
       cases ex with
       | normal=>
         simp only [mZ] at hQ;unfold run at hQ;refine wp_mono ((xF (pQ k (k+1) _ _ (by omega) hQ)).holds g' a' w' bN) ?_;rintro e a2 w2 ⟨ex,g2,r2,h2,rfl,hQ,cQ,mQ⟩;exact ⟨ex,g2,r2,h2,rfl,step hQ,cQ,ax.trans hc.cw.own mQ⟩
       | exit i=>simp only [mZ] at hQ;unfold run at hQ;exact ⟨.exit i,g',r',h',rfl,pQ k _ _ _ (by omega) hQ,bN,ax⟩
       | ret=>simp only [mZ] at hQ;unfold run at hQ;exact ⟨.ret,g',r',h',rfl,pQ k _ _ _ (by omega) hQ,bN,ax⟩
   | cond x t f=>
     rw [fm] at hh tC xF;simp only [child] at hh tC xF;split at hh<;>try contradiction
     rename_i b hx;refine up ⟨fun g a w hc=>?_⟩;have hr:=hc.aL (g:=[]) (fun e he=>by cases he) hx;rw [ae] at hr;refine wp_cond_split hr (fun hb=>(tC (hh.1 hb)).holds g a w hc) (fun hb=>(xF (hh.2 hb)).holds g a w hc)
   | block id x=>
     rw [fm] at hh tC;simp only [child] at hh tC;refine ⟨fun g a w hc=>?_⟩;refine wp_block (wp_mono ((tC hh).holds g a w hc) ?_);rintro e a' w' ⟨ex,g',r',h',rfl,hQ,bN,ax⟩;cases k with
     | zero=>exact hQ.elim
     | succ k=>
       simp only [mZ] at hQ;unfold run at hQ;cases ex with
       | normal=>exact ⟨.normal,g',r',h',rfl,pQ k _ _ _ (by omega) hQ,bN,ax⟩
       | exit i=>
         simp only at hQ;simp only [Ex.toExit,Exit.inBlock];split at hQ
         ·rename_i hi;rw [if_pos (Nat.eq_of_beq_eq_true hi)];exact ⟨.normal,g',r',h',rfl,pQ k _ _ _ (by omega) hQ,bN,ax⟩
         rename_i hi;rw [if_neg (fun e=>by subst e;rw [Nat.beq_refl] at hi;cases hi)];exact ⟨.exit i,g',r',h',rfl,pQ k _ _ _ (by omega) hQ,bN,ax⟩
       | ret=>exact ⟨.ret,g',r',h',rfl,pQ k _ _ _ (by omega) hQ,bN,ax⟩
   | loop x=>rw [fm] at hh;exact up hh
   | exit i=>rw [fm] at hh;exact up (xE (c:=c) hm (.exit i) (Q:=mZ P c F E k S) hh)
   | ret=>rw [fm] at hh;exact up (xE (c:=c) hm .ret (Q:=mZ P c F E k S) hh)
   | _=>rw [fm] at hh;exact hh.elim
theorem aA {P:Program} {f:FuncId} {F:Func} (c:av) {args:List AV} {R:AV->af->Prop} {h:af} (hf:P.funcs[f]?=some F) (hb:F.body.isSome=true) (Cp:(F.name == "runtime.NumGoroutine")=false)
  (hm:P.follows .mixedOrders=true) (hn:Nat.ble args.length F.ntmps=true) (ax:∀ X,run P c F ⟨F.ntmps,X,DS P F R⟩ 4000 (.go []) [] (Be 0 args) h):aw P f args h R:=by
 obtain ⟨code,gX⟩:=Option.isSome_iff_exists.1 hb;have Yx:Lc F=code:=by unfold Lc;rw [gX]
 refine ⟨fun X g w us hc hr=>.inl ⟨⟨F,code,hf,gX,Cp⟩,?_⟩⟩;have hlen:=hr.length;simp at hlen;have hn:=Nat.le_of_ble_eq_true hn;have hH:Holds P F.ntmps X code (DS P F R) (Be 0 args) h:=by have:=GG (c:=c) (F:=F) (E:=⟨F.ntmps,X,DS P F R⟩) hm 4000 [] [] (ax X);simp only [cat,Yx] at this;exact this
 refine calls_of_wp hf gX (wp_mono (hH.holds g _ w ⟨hc,?_,rfl,by simp;omega⟩) ?_)
 ·intro t gg v hl;obtain ⟨rfl,_,hx⟩:=Lb hl;obtain ⟨u,hu,cJ⟩:=hr.get t v (by simpa using hx);refine ⟨fun _=>⟨by simp,u,?_,cJ⟩,fun hh=>absurd (fun e he=>by cases he) hh⟩;have dK:us[t]?=some u:=(by simpa using hu);have:=(Array.getElem?_eq_some_iff.1 dK).1;rw [Array.getElem?_append_left this];exact dK
 rintro e a' w' ⟨ex,g',r',h',rfl,hQ,bN,ax⟩;cases ex with
 | normal=>
   obtain ⟨v,u,h1,h2,h3⟩:=GB (P:=P) bN hQ;exact ⟨bN.defers,u,h2,v,u,g',h',rfl,h1,bN.cw,h3,ax⟩
 | ret=>
   obtain ⟨v,u,h1,h2,h3⟩:=GB (P:=P) bN hQ;exact ⟨bN.defers,u,h2,v,u,g',h',rfl,h1,bN.cw,h3,ax⟩
 | exit i=>exact hQ.elim
theorem bS {P:Program} {c:av} {F:Func} {E:En} {p:List Bool} {S:List Fr} {k:Nat} {body:Code} {r:aC} {h:af} (fm:cat F p=.loop body) (hm:P.follows .mixedOrders=true) (ks:List Nat) (ts:List (Nat × Nat)) (J:Nat->aC->af->Prop)
  (h0:mn ks ts (fun r h=>∃ m,J m r h) r h)
  (hb:∀ m r h,J m r h->run P c F E k (.go (false::p)) (.head (mn ks ts (fun r h=>∃ m',m'<m/\J m' r h))::S) r h) :
  Holds P E.n E.X (cat F p) (fun e r h=>run P c F E k (.ex e) S r h) r h:=by
 rw [fm];refine KW ks ts J h0 fun m r h hJ=>?_;have:=GG hm k (false::p) _ (hb m r h hJ);have e:cat F (false::p)=body:=(by simp [cat,fm,child]);rw [e] at this;refine Bg (fun e r h hQ=>?_) this;cases k with
 | zero=>exact hQ.elim
 | succ k=>
   simp only [mZ] at hQ;unfold run at hQ;cases e with
   | normal=>exact hQ
   | exit i=>exact pQ k _ _ _ (by omega) hQ
   | ret=>exact pQ k _ _ _ (by omega) hQ
end Go.Abs
/-
 The abstract fR,part U: small laws for the steps of a walk.
-/
namespace Go.Abs
open Go
theorem aI {a b c d:Nat} (h1:Nat.ble a b=true:=by rfl) (h2:Nat.ble c d=true:=by rfl):a<=b/\c<=d:=⟨Nat.le_of_ble_eq_true h1,Nat.le_of_ble_eq_true h2⟩
theorem ag {p:Prop}:∀ {g:G},p->gP g p
 | [],h=>h
 | (_,_,_)::g,h=>fun _=>ag (g:=g) h
theorem ix {α:Type} {enc:α->List AV} {l:List α} {x:α} {i:Nat} {g:G} {K:AV->Prop} (hx:l[i]?=some x) (hk:K (.ai (enc x))) :
  ∃ (j:Nat) (y:List AV),gP g ((i:Int)=(j:Int)/\(l.map enc)[j]?=some y)/\K (.ai y):=
 ⟨i,enc x,ag ⟨rfl,by simp [hx]⟩,hk⟩
theorem rG {α:Type} {enc:α->List AV} {l:List α} {g:G} (d:α) {n:Int} {K:AV->Prop} (h:gP g (0<=n/\n<l.length)) (hk:K (.ai (enc (l.getD n.toNat d)))) :
  ∃ (j:Nat) (y:List AV),gP g (n=(j:Int)/\(l.map enc)[j]?=some y)/\K (.ai y):=by
 refine ⟨n.toNat,_,DC ?_ h,hk⟩;rintro ⟨h1,h2⟩;have:n.toNat<l.length:=(by omega);exact ⟨by omega,by simp [List.getD,List.getElem?_eq_getElem this]⟩
theorem sx {s:List UInt8} {y:UInt8} {i:Nat} {g:G} {K:AV->Prop} (hx:s[i]?=some y) (hk:K (.int .u8 y.toNat)) :
  ∃ (j:Nat) (y:UInt8),gP g ((i:Int)=(j:Int)/\s[j]?=some y)/\K (.int .u8 y.toNat):=⟨i,y,ag ⟨rfl,hx⟩,hk⟩
theorem Yy {s:List UInt8} {g:G} {n:Int} {K:AV->Prop} (h:gP g (0<=n/\n<s.length)) (hk:K (.int .u8 (s.getD n.toNat 0).toNat)) :
  ∃ (j:Nat) (y:UInt8),gP g (n=(j:Int)/\s[j]?=some y)/\K (.int .u8 y.toNat):=by
 refine ⟨n.toNat,_,DC ?_ h,hk⟩;rintro ⟨h1,h2⟩;have:n.toNat<s.length:=(by omega);exact ⟨by omega,by simp [List.getD,List.getElem?_eq_getElem this]⟩
theorem aF {α:Type} {l:List α} {i:Nat} (h:i<l.length):∃ x,l[i]?=some x:=⟨_,List.getElem?_eq_getElem h⟩
theorem drop_cons {α:Type} {l:List α} {i:Nat} {x:α} (h:l[i]?=some x):l.drop i=x::l.drop (i+1):=by obtain ⟨h1,h2⟩:=List.getElem?_eq_some_iff.1 h;rw [List.drop_eq_getElem_cons h1,h2]
theorem drop_nil {α:Type} {l:List α} {i:Nat} (h:l.length<=i):l.drop i=[]:=List.drop_eq_nil_of_le h
theorem aY {P:Program} {g:G} {f:FuncId} {vs:List AV} {v:AV} {h:af} {K:AV->Prop} (hq:ab P f vs [] v) (hk:K v):∃ v,gP g (ab P f vs h v)/\K v:=
 ⟨v,ag (hq.wide h),hk⟩
theorem ab.of {P:Program} {f:FuncId} {args:List AV} {v:AV} (hq:aw P f args [] (fun v' _=>aa v' v)):ab P f args [] v:=
 aw.post hq fun v' h1 hv=>⟨v,[],⟨rfl,rfl⟩,hv,by simp,by simp [keys]⟩
theorem ab.AL {P:Program} {f:FuncId} {args:List AV} {v:AV} (hq:aw P f args [] (fun v' _=>v'=v)):ab P f args [] v:=
 ab.of (aw.mono (by rintro v' h rfl;exact aa.refl _) hq)
theorem aw.QM {P:Program} {f:FuncId} {k:Nat} {as:List AV} {h:af} {R:AV->af->Prop} (h1:aw P f (.aS::as) h R) (h2:aw P f (.wo k::as) h R):aw P f (.sl k none []::as) h R:=by
 refine ⟨fun X g w us hc hr=>?_⟩;simp only [au] at hr;obtain ⟨u,r,hu,hx,hr⟩:=hr;simp only [ae] at hx;obtain ⟨base,cap,rfl,_,_,hk,hn,_⟩:=hx;cases base with
 | none=>
   refine h1.1 X g w us hc ?_;simp only [au];exact ⟨_,r,hu,by simp [ae,hn rfl],hr⟩
 | some a=>
   refine h2.1 X g w us hc ?_;simp only [au];exact ⟨_,r,hu,by simp [ae,hk],hr⟩
section
variable {κ ν:Type} [DecidableEq κ]
def dP (k:κ):List (κ × ν)->Option ν
 | []=>none
 | (x,v)::es=>if k=x then some v else dP k es
def xj (k:κ) (v:ν):List (κ × ν)->List (κ × ν)
 | []=>[(k,v)]
 | (x,u)::es=>if k=x then (k,v)::es else (x,u)::xj k v es
def pI (ek:κ->AV) (ev:ν->AV) (es:List (κ × ν)):List (AV × AV):=es.map fun p=>(ek p.1,ev p.2)
variable {P:Program} {t:TypeId} {ek:κ->AV} {ev:ν->AV}
theorem Lj (heq:∀ a b,jD P t (ek a) (ek b)=some (decide (a=b))) (k:κ):∀ es:List (κ × ν),rn P t (ek k) (pI ek ev es)=some ((dP k es).map ev)
 | []=>rfl
 | (x,v)::es=>by
   have ih:=Lj heq k es;unfold pI at ih ⊢;rw [List.map_cons,rn];simp only [heq,dP];by_cases h:k=x
   ·simp [h]
   simp [h,ih]
theorem QN (heq:∀ a b,jD P t (ek a) (ek b)=some (decide (a=b))) (k:κ) (v:ν):∀ es:List (κ × ν),pk P t (ek k) (ev v) (pI ek ev es)=pI ek ev (xj k v es)
 | []=>rfl
 | (x,u)::es=>by
   have ih:=QN heq k v es;unfold pI at ih ⊢;rw [List.map_cons,pk];simp only [heq,xj];by_cases h:k=x
   ·simp [h]
   simp [h,ih]
theorem Pq (heq:∀ a b,jD P t (ek a) (ek b)=some (decide (a=b))) (k:κ) (es:List (κ × ν)) (z:AV) :
  yd P t (ek k) (pI ek ev es) z=some (((dP k es).map ev).getD z,(dP k es).isSome):=by
 unfold yd;rw [Lj heq];cases dP k es<;>rfl
theorem JU (heq:∀ a b,jD P t (ek a) (ek b)=some (decide (a=b))) (hp:pg P t=true) (k:κ):sz P t (ek k):=⟨hp,by rw [heq];simp⟩
theorem QO {es:List (κ × Int)} {k:κ} {b:Nat} {h:af} {g:G} {ok:Bool} {K:AV->Prop} (hm:(b,Ob.map (pI ek (AV.int .i64) es))∈h) (heq:∀ a b,jD P t (ek a) (ek b)=some (decide (a=b))) (hp:pg P t=true)
  (hk:K (sA ok (.int .i64 ((dP k es).getD 0)) (dP k es).isSome)) :
  ∃ es v f,(b,Ob.map es)∈h/\gP g (sz P t (ek k)/\yd P t (ek k) es (.int .i64 0)=some (v,f))/\K (sA ok v f):=by
 refine ⟨_,_,_,hm,ag ⟨JU heq hp k,Pq heq k es _⟩,?_⟩;have:((dP k es).map (AV.int .i64)).getD (.int .i64 0)=.int .i64 ((dP k es).getD 0):=by cases dP k es<;>rfl
 rw [this];exact hk
theorem Pt {es:List (κ × ν)} {k:κ} {v:ν} {b:Nat} {h h':af} {K:AV->af->Prop} (heq:∀ a b,jD P t (ek a) (ek b)=some (decide (a=b))) (hp:pg P t=true)
  (hu:cP b (.map (pI ek ev es)) b (.map (pI ek ev (xj k v es))) h h') (hk:K .unit h') :
  ∃ es h',cP b (.map es) b (.map (pk P t (ek k) (ev v) es)) h h'/\(sz P t (ek k)/\rn P t (ek k) es≠none)/\K .unit h':=
 ⟨pI ek ev es,h',by rw [QN heq];exact hu,⟨JU heq hp k,by rw [Lj heq];simp⟩,hk⟩
end
end Go.Abs
/-
 The abstract fR,part V: steps of the ghost state alone: a value said less exactly,an object left behind,a row of Yz own that T7 writes any more.
-/
namespace Go.Abs
open Go
variable {P:Program} {n:Nat} {X:Nat->Prop} {g0:Gh} {r:aC} {h:af} {a:Act} {w:World}
mutual
inductive jf (b:Nat) (cs:List AV):AV->AV->Prop
 | refl (x:AV):jf b cs x x
 | le {x y:AV}:aa x y->jf b cs x y
 | row {off len k:Nat} {xs pre post:List (List AV)} {zq:List (List AV)} (e:cs=pre.flatten++xs.flatten++post.flatten) (ho:pre.flatten.length=off) (hl:xs.length=len) (hk:∀ x∈xs,x.length=k):jf b cs (.aQ b off len k) (.sl k none xs)
 | ptr {off:Nat} {l:List AV} (e:cs.drop off=l):jf b cs (.ba b off) (.ai l)
 | aB {xs ys:List AV}:lj b cs xs ys->jf b cs (.aB xs) (.aB ys)
 | agg {xs ys:List AV}:lj b cs xs ys->jf b cs (.agg xs) (.agg ys)
inductive lj (b:Nat) (cs:List AV):List AV->List AV->Prop
 | nil:lj b cs [] []
 | cons {x y:AV} {xs ys:List AV}:jf b cs x y->lj b cs xs ys->lj b cs (x::xs) (y::ys)
end
inductive qW (b:Nat) (cs:List AV):aC->aC->Prop
 | nil:qW b cs [] []
 | cons {t:Nat} {g:G} {x y:AV} {r r':aC}:jf b cs x y->qW b cs r r'->qW b cs ((t,g,x)::r) ((t,g,y)::r')
inductive jd (b:Nat) (cs:List AV):af->af->Prop
 | nil:jd b cs [] []
 | same {k:Nat} {o:Ob} {h h':af}:jd b cs h h'->jd b cs ((k,o)::h) ((k,o)::h')
 | vec {k:Nat} {xs ys:List AV} {h h':af}:lj b cs xs ys->jd b cs h h'->jd b cs ((k,.vec xs)::h) ((k,.vec ys)::h')
theorem lj.refl {b:Nat} {cs:List AV}:∀ xs,lj b cs xs xs
 | []=>.nil
 | x::xs=>.cons (.refl x) (lj.refl xs)
theorem qW.refl {b:Nat} {cs:List AV}:∀ r,qW b cs r r
 | []=>.nil
 | (t,g,x)::r=>.cons (.refl x) (qW.refl r)
theorem jd.refl {b:Nat} {cs:List AV}:∀ h,jd b cs h h
 | []=>.nil
 | (k,o)::h=>.same (jd.refl h)
theorem lj.get {b:Nat} {cs:List AV}:∀ {xs ys:List AV},lj b cs xs ys->xs.length=ys.length/\∀ (i:Nat) y,ys[i]?=some y->∃ x,xs[i]?=some x/\jf b cs x y
 | _,_,.nil=>⟨rfl,fun i y h=>by cases h⟩
 | _,_,.cons h1 h2=>by
   have ih:=h2.get;refine ⟨by simp [ih.1],fun i y hi=>?_⟩;cases i with
   | zero=>cases hi;exact ⟨_,rfl,h1⟩
   | succ i=>exact ih.2 i y (by simpa using hi)
mutual
theorem jf.rep {c c':Cx} {b:Nat} {cs:List AV} (h0:∀ x u,ae c x u->ae c' x u)
  (og:∀ (off k:Nat) (xs pre post:List (List AV)),cs=pre.flatten++xs.flatten++post.flatten->pre.flatten.length=off->(∀ x∈xs,x.length=k)->∀ u,ae c (.aQ b off xs.length k) u->ae c' (.sl k none xs) u)
  (Bi:∀ (off:Nat) (l:List AV),cs.drop off=l->∀ u,ae c (.ba b off) u->ae c' (.ai l) u):∀ {x y:AV},jf b cs x y->∀ u,ae c x u->ae c' y u
 | _,_,.refl x,u,h=>h0 x u h
 | _,_,.le hle,u,h=>h0 _ _ (hle _ _ h)
 | _,_,.row e ho hl hk,u,h=>by subst hl;exact og _ _ _ _ _ e ho hk u h
 | _,_,.ptr e,u,h=>Bi _ _ e u h
 | _,_,.aB hs,u,h=>by simp only [ae] at h ⊢;obtain ⟨us,hv,hr⟩:=h;exact ⟨us,hv,lj.rep h0 og Bi hs _ hr⟩
 | _,_,.agg hs,u,h=>by simp only [ae] at h ⊢;obtain ⟨us,hv,h1,hr⟩:=h;exact ⟨us,hv,h1,lj.rep h0 og Bi hs _ hr⟩
theorem lj.rep {c c':Cx} {b:Nat} {cs:List AV} (h0:∀ x u,ae c x u->ae c' x u)
  (og:∀ (off k:Nat) (xs pre post:List (List AV)),cs=pre.flatten++xs.flatten++post.flatten->pre.flatten.length=off->(∀ x∈xs,x.length=k)->∀ u,ae c (.aQ b off xs.length k) u->ae c' (.sl k none xs) u)
  (Bi:∀ (off:Nat) (l:List AV),cs.drop off=l->∀ u,ae c (.ba b off) u->ae c' (.ai l) u):∀ {xs ys:List AV},lj b cs xs ys->∀ us,au c xs us->au c' ys us
 | _,_,.nil,us,h=>by simpa [au] using h
 | _,_,.cons h1 h2,us,h=>by simp only [au] at h ⊢;obtain ⟨u,r,rfl,a,d⟩:=h;exact ⟨u,r,rfl,jf.rep h0 og Bi h1 u a,lj.rep h0 og Bi h2 r d⟩
end
theorem jd.keys {b:Nat} {cs:List AV} {h h':af} (hz:jd b cs h h'):Abs.keys h'=Abs.keys h:=by
 induction hz with
 | nil=>rfl
 | same _ ih=>simp only [Abs.keys,List.map_cons] at ih ⊢;rw [ih]
 | vec _ _ ih=>simp only [Abs.keys,List.map_cons] at ih ⊢;rw [ih]
theorem jd.get {b:Nat} {cs:List AV} {h h':af} (hz:jd b cs h h'):∀ k o,(k,o)∈h'->(k,o)∈h\/∃ xs ys,o=.vec ys/\(k,Ob.vec xs)∈h/\lj b cs xs ys:=by
 induction hz with
 | nil=>intro k o hm;cases hm
 | same _ ih=>
   intro k o hm;cases List.mem_cons.1 hm with
   | inl e=>cases e;exact .inl (by simp)
   | inr e=>
     rcases ih k o e with h1|⟨xs,ys,e1,e2,e3⟩
     ·exact .inl (by simp [h1])
     exact .inr ⟨xs,ys,e1,by simp [e2],e3⟩
 | vec hv _ ih=>
   intro k o hm;cases List.mem_cons.1 hm with
   | inl e=>cases e;exact .inr ⟨_,_,rfl,by simp,hv⟩
   | inr e=>
     rcases ih k o e with h1|⟨xs,ys,e1,e2,e3⟩
     ·exact .inl (by simp [h1])
     exact .inr ⟨xs,ys,e1,by simp [e2],e3⟩
theorem qW.look {b:Nat} {cs:List AV} {r r':aC} (hz:qW b cs r r'):∀ t gg y,bl r' t=some (gg,y)->∃ x,bl r t=some (gg,x)/\jf b cs x y:=by
 induction hz with
 | nil=>intro t gg y h;cases h
 | cons h1 _ ih=>
   intro t gg y h;rw [qQ] at h ⊢;split at h
   ·rename_i e;cases h;subst e;exact ⟨_,by simp,h1⟩
   rename_i e;rw [if_neg e];exact ih t gg y h
theorem CW.Bj {h':af} (hc:CW X g0 h w) (hk:keys h'=keys h) (ho:∀ k o',(k,o')∈h'->oC ⟨g0,live X h,w⟩ k o'):CW X g0 h' w/\Step X g0 h w g0 h' w:=by
 have QP:live X h'=live X h:=by unfold live;rw [hk]
 refine ⟨⟨hc.own,?_,by rw [hk];exact hc.nodup,fun k hm=>hc.sep k (by rw [<- hk];exact hm),fun k o hm=>by rw [QP];exact ho k o hm⟩,?_⟩
 ·obtain ⟨N,hN⟩:=hc.bound;exact ⟨N,fun k hh=>hN k (by rw [hk] at hh;exact hh)⟩
 have:=Step.refl X g0 h w;exact ⟨this.os,this.xZ,this.output,this.size,this.pl,this.Ae,this.ya,this.BH,fun b hb hn=>⟨rfl,fun k s e=>by rw [hk];exact hn k s e⟩,this.Af,fun b k s e hm k' s' e' hl=>this.yb b k s e hm k' s' e' (by rw [QP] at hl;exact hl)⟩
theorem QQ {c:Cx} {k:Nat} {b:Nat}:∀ {xs:List (List AV)} {o:Nat},(∀ x∈xs,x.length=k)->bC c xs.flatten b o->cj c k xs b o
 | [],o,_,_=>by simp [cj]
 | x::xs,o,hk,h=>by simp only [List.flatten_cons] at h;have hx:=hk x (by simp);have h1:=bC.take x.length h;have h2:=bC.drop x.length (by simp) h;simp only [List.take_left,List.drop_left] at h1 h2;simp only [cj];exact ⟨⟨hx,h1⟩,QQ (fun y hy=>hk y (by simp [hy])) (by rw [<- hx];exact h2)⟩
theorem freeze {b:Nat} {cs:List AV} {h1:af} (hr:bj b (.vec cs) h h1) (hc:CW X g0 h w) :
  CW X g0 h1 w/\Step X g0 h w g0 h1 w/\∀ x y,jf b cs x y->∀ u,ae ⟨g0,live X h,w⟩ x u->ae ⟨g0,live X h1,w⟩ y u:=by
 obtain ⟨l1,l2,rfl,rfl⟩:=bj.split hr
 obtain ⟨s1,s2⟩:=hc.sub (h':=l1++l2) (by
   intro k o hm;simp only [List.mem_append,List.mem_cons] at hm ⊢;rcases hm with h|h
   ·exact .inl h
   ·exact .inr (.inr h)) (by
   have:=hc.nodup;rw [um] at this;simp only [keys,List.map_append,List.nodup_append,List.nodup_cons,List.mem_cons] at this ⊢;exact ⟨this.1,this.2.1.2,fun x hx y hy=>this.2.2 x hx y (.inr hy)⟩)
 refine ⟨s1,s2,?_⟩;have CY:=hc.sY;have CZ:=hc.sep b (by rw [iZ];exact .inl rfl);have jt:=hc.obj b (.vec cs) (by simp);obtain ⟨p,cc,t,q1,q2,q3,q4,q5,q6⟩:=jt
 have bT:bC ⟨g0,live X (l1++l2),w⟩ cs p.block p.off:=by
  have key:∀ (xs:List AV) (o:Nat),(∀ (i:Nat) x,xs[i]?=some x->∃ u,cc[p.off+(o+i)]?=some u/\u.oneCell'=true/\ae ⟨g0,live X (l1++(b,.vec cs)::l2),w⟩ x u)->bC ⟨g0,live X (l1++l2),w⟩ xs p.block (p.off+o):=by
   intro xs;induction xs with
   | nil=>intro o _;simp [bC]
   | cons x xs ih=>
     intro o hh;simp only [bC];obtain ⟨u,h1,h2,h3⟩:=hh 0 x (by simp);refine ⟨⟨u,?_,h2,?_,ae.mono (Step.le s2) _ _ h3⟩,?_⟩
     ·have YA:w.heap[p.block]?=some (.cells cc t (0,0)):=q4;show w.cell? _=_;simpa [World.cell?,YA] using h1
     ·intro k s ho uz;rw [q3] at ho;cases ho
      rcases uz with hx|hk
      ·exact absurd hx CZ
      exact absurd hk CY
     rw [show p.off+o+1=p.off+(o+1) from rfl];refine ih (o+1) (fun i x hx=>?_);have:=hh (i+1) x (by simpa using hx);rwa [show o+(i+1)=o+1+i from by omega] at this
  exact key cs 0 (fun i x hx=>by simpa using q6 i x hx)
 intro x y oY u hu;refine jf.rep (c:=⟨g0,live X (l1++(b,.vec cs)::l2),w⟩) (fun x u h=>ae.mono (Step.le s2) _ _ h) ?_ ?_ oY u hu
 ·intro off k xs pre post e ho hk u hu;simp only [ae] at hu ⊢;obtain ⟨p',cap,o',e1,e2,rfl,e3,e4,e5,e6,e7,e8⟩:=hu;rw [q1] at e1;cases e1
  refine ⟨_,cap,rfl,by omega,by omega,e5,by simp,by simp,?_,by simp⟩;rintro ad ⟨⟩;by_cases lJ:xs=[]
  ·subst lJ;simp [cj]
  rw [e7 (by have:=List.length_pos_iff.2 lJ;omega)];have hd:=bC.drop off (by rw [e,List.length_append,List.length_append,ho];omega) bT;have kE:=bC.take xs.flatten.length hd;rw [e,List.append_assoc,<- ho,List.drop_left,List.take_left] at kE;rw [ho] at kE;exact QQ hk kE
 intro off l e u hu;simp only [ae] at hu ⊢;obtain ⟨p',e1,e2,rfl⟩:=hu;rw [q1] at e1;cases e1
 refine ⟨_,_,rfl,?_⟩;subst e;by_cases ho:off<=cs.length
 ·exact bC.drop off ho bT
 rw [List.drop_eq_nil_of_le (by omega)];simp [bC]
def ah (r:aC) (h:af) (r':aC) (h':af):Prop:=∀ n X g a w,bK n X g r h a w->∃ g',bK n X g' r' h' a w/\Step X g h w g' h' w
theorem ah.refl (r:aC) (h:af):ah r h r h:=fun n X g a w hc=>⟨g,hc,Step.refl _ _ _ _⟩
theorem ah.trans {r1 r2 r3:aC} {h1 h2 h3:af} (a:ah r1 h1 r2 h2) (b:ah r2 h2 r3 h3):ah r1 h1 r3 h3:=by intro n X g ac w hc;obtain ⟨g1,c1,s1⟩:=a n X g ac w hc;obtain ⟨g2,c2,s2⟩:=b n X g1 ac w c1;exact ⟨g2,c2,s1.trans hc.cw.own s2⟩
theorem ah.freeze {r r':aC} {h h1 h':af} {b:Nat} {cs:List AV} (hr:bj b (.vec cs) h h1) (hh:jd b cs h1 h') (hz:qW b cs r r'):ah r h r' h':=by
 intro n X g a w hc;obtain ⟨c1,s1,hv⟩:=Abs.freeze hr hc.cw
 have gA:∀ k o,(k,o)∈h1->(k,o)∈h:=by
  obtain ⟨l1,l2,rfl,rfl⟩:=bj.split hr;intro k o hm;simp only [List.mem_append,List.mem_cons] at hm ⊢;rcases hm with h|h
  ·exact .inl h
  exact .inr (.inr h)
 obtain ⟨c2,s2⟩:=c1.Bj hh.keys (fun k o' hm=>by
  rcases hh.get k o' hm with h1|⟨xs,ys,rfl,h2,h3⟩
  ·exact c1.obj k o' h1
  obtain ⟨p,cc,t,q1,q2,q3,q4,q5,q6⟩:=hc.cw.obj k (.vec xs) (gA _ _ h2);obtain ⟨l,hg⟩:=h3.get;refine ⟨p,cc,t,q1,q2,q3,q4,by rw [<- l];exact q5,fun i y hy=>?_⟩;obtain ⟨x,hx,oY⟩:=hg i y hy;obtain ⟨u,u1,u2,u3⟩:=q6 i x hx;exact ⟨u,u1,u2,hv x y oY u u3⟩)
 refine ⟨g,⟨c2,fun t gg y hl=>?_,hc.defers,hc.size⟩,s1.trans hc.cw.own s2⟩;obtain ⟨x,hx,oY⟩:=hz.look t gg y hl;obtain ⟨k1,k2⟩:=hc.lr t gg x hx;refine ⟨fun hh=>?_,k2⟩;obtain ⟨m1,u,m2,m3⟩:=k1 hh;exact ⟨m1,u,m2,ae.mono (Step.le s2) _ _ (hv x y oY u m3)⟩
inductive gT:aC->aC->Prop
 | nil:gT [] []
 | cons {t:Nat} {g:G} {x y:AV} {r r':aC}:aa x y->gT r r'->gT ((t,g,x)::r) ((t,g,y)::r')
theorem gT.refl:∀ r,gT r r
 | []=>.nil
 | (t,g,x)::r=>.cons (aa.refl x) (gT.refl r)
theorem gT.look {r r':aC} (hz:gT r r'):∀ t gg y,bl r' t=some (gg,y)->∃ x,bl r t=some (gg,x)/\aa x y:=by
 induction hz with
 | nil=>intro t gg y h;cases h
 | cons h1 _ ih=>
   intro t gg y h;rw [qQ] at h ⊢;split at h
   ·rename_i e;cases h;subst e;exact ⟨_,by simp,h1⟩
   rename_i e;rw [if_neg e];exact ih t gg y h
theorem ah.nD {r r':aC} {h:af} (hz:gT r r'):ah r h r' h:=by intro n X g a w hc;refine ⟨g,⟨hc.cw,fun t gg y hl=>?_,hc.defers,hc.size⟩,Step.refl _ _ _ _⟩;obtain ⟨x,hx,oY⟩:=hz.look t gg y hl;obtain ⟨k1,k2⟩:=hc.lr t gg x hx;refine ⟨fun hh=>?_,k2⟩;obtain ⟨m1,u,m2,m3⟩:=k1 hh;exact ⟨m1,u,m2,oY _ u m3⟩
theorem ah.cells {r:aC} {h h':af} {b:Nat} {xs ys:List AV} (hu:cP b (.vec xs) b (.vec ys) h h') (hv:cu xs ys):ah r h r h':=by
 intro n X g a w hc
 have sX:keys h'=keys h:=by
  clear hc;induction hu with
  | here l=>rfl
  | there _ ih=>simp only [keys,List.map_cons] at ih ⊢;rw [ih]
 have lz:∀ k o',(k,o')∈h'->(k,o')∈h\/(k=b/\o'=.vec ys/\(b,Ob.vec xs)∈h):=by
  clear hc sX;induction hu with
  | here l=>intro k o' hm;cases List.mem_cons.1 hm with
    | inl e=>cases e;exact .inr ⟨rfl,rfl,by simp⟩
    | inr e=>exact .inl (by simp [e])
  | there _ ih=>intro k o' hm;cases List.mem_cons.1 hm with
    | inl e=>subst e;exact .inl (by simp)
    | inr e=>
      rcases ih k o' e with h1|⟨h1,h2,h3⟩
      ·exact .inl (by simp [h1])
      exact .inr ⟨h1,h2,by simp [h3]⟩
 have hlen:∀ {xs ys:List AV},cu xs ys->xs.length=ys.length/\∀ (i:Nat) y,ys[i]?=some y->∃ x,xs[i]?=some x/\aa x y:=by
  intro xs ys hv;induction hv with
  | nil=>exact ⟨rfl,fun i y h=>by cases h⟩
  | cons h1 _ ih=>
    refine ⟨by simp [ih.1],fun i y hi=>?_⟩;cases i with
    | zero=>cases hi;exact ⟨_,rfl,h1⟩
    | succ i=>exact ih.2 i y (by simpa using hi)
 obtain ⟨c2,s2⟩:=hc.cw.Bj sX (fun k o' hm=>by
  rcases lz k o' hm with h1|⟨rfl,rfl,h2⟩
  ·exact hc.cw.obj k o' h1
  obtain ⟨p,cc,t,q1,q2,q3,q4,q5,q6⟩:=hc.cw.obj k (.vec xs) h2;obtain ⟨l,hg⟩:=hlen hv;refine ⟨p,cc,t,q1,q2,q3,q4,by rw [<- l];exact q5,fun i y hy=>?_⟩;obtain ⟨x,hx,oY⟩:=hg i y hy;obtain ⟨u,u1,u2,u3⟩:=q6 i x hx;exact ⟨u,u1,u2,oY _ _ u3⟩)
 exact ⟨g,hc.step c2 s2,s2⟩
theorem ah.cut {r:aC} {h h':af} {b:Nat} {xs ys:List AV} (hu:cP b (.vec (xs++ys)) b (.vec xs) h h'):ah r h r h':=by
 intro n X g a w hc
 have sX:keys h'=keys h:=by
  clear hc;induction hu with
  | here l=>rfl
  | there _ ih=>simp only [keys,List.map_cons] at ih ⊢;rw [ih]
 have lz:∀ k o',(k,o')∈h'->(k,o')∈h\/(k=b/\o'=.vec xs/\(b,Ob.vec (xs++ys))∈h):=by
  clear hc sX;induction hu with
  | here l=>intro k o' hm;cases List.mem_cons.1 hm with
    | inl e=>cases e;exact .inr ⟨rfl,rfl,by simp⟩
    | inr e=>exact .inl (by simp [e])
  | there _ ih=>intro k o' hm;cases List.mem_cons.1 hm with
    | inl e=>subst e;exact .inl (by simp)
    | inr e=>
      rcases ih k o' e with h1|⟨h1,h2,h3⟩
      ·exact .inl (by simp [h1])
      exact .inr ⟨h1,h2,by simp [h3]⟩
 obtain ⟨c2,s2⟩:=hc.cw.Bj sX (fun k o' hm=>by
  rcases lz k o' hm with h1|⟨rfl,rfl,h2⟩
  ·exact hc.cw.obj k o' h1
  obtain ⟨p,cc,t,q1,q2,q3,q4,q5,q6⟩:=hc.cw.obj k (.vec (xs++ys)) h2;simp only [List.length_append] at q5;exact ⟨p,cc,t,q1,q2,q3,q4,by omega,fun i y hy=>q6 i y (by rw [List.getElem?_append_left (List.getElem?_eq_some_iff.1 hy).1];exact hy)⟩)
 exact ⟨g,hc.step c2 s2,s2⟩
theorem ah.sub {r:aC} {h h':af} (gA:∀ k o,(k,o)∈h'->(k,o)∈h) (ew:(keys h).Nodup->(keys h').Nodup):ah r h r h':=by intro n X g a w hc;obtain ⟨c1,s1⟩:=hc.cw.sub gA (ew hc.cw.nodup);exact ⟨g,hc.step c1 s1,s1⟩
theorem ah.drop {r:aC} {h h':af} {b:Nat} {o:Ob} (hr:bj b o h h'):ah r h r h':=by
 obtain ⟨l1,l2,rfl,rfl⟩:=bj.split hr;refine ah.sub ?_ ?_
 ·intro k o hm;simp only [List.mem_append,List.mem_cons] at hm ⊢;rcases hm with h|h
  ·exact .inl h
  exact .inr (.inr h)
 intro this;rw [um] at this;simp only [keys,List.map_append,List.nodup_append,List.nodup_cons,List.mem_cons] at this ⊢;exact ⟨this.1,this.2.1.2,fun x hx y hy=>this.2.2 x hx y (.inr hy)⟩
theorem QR {c:Code} {Q:Ex->aC->af->Prop} {r r':aC} {h h':af} (ht:ah r h r' h') (hh:Holds P n X c Q r' h'):Holds P n X c Q r h:=by refine ⟨fun g a w hc=>?_⟩;obtain ⟨g',c1,s1⟩:=ht n X g a w hc;refine wp_mono (hh.holds g' a w c1) ?_;rintro e a' w' ⟨ex,g2,r2,h2,rfl,hQ,cQ,ax⟩;exact ⟨ex,g2,r2,h2,rfl,hQ,cQ,s1.trans hc.cw.own ax⟩
def Bk (J:aC->af->Prop) (r:aC) (h:af):Prop:=∃ r' h',ah r h r' h'/\J r' h'
theorem Ll {P:Program} {c:av} {F:Func} {E:En} {p:List Bool} {S:List Fr} {k id:Nat} {ops:Array Oper} {r r':aC} {h h':af} (fm:cat F p=.region id ops false) (hm:P.follows .mixedOrders=true)
  (ht:ah r h r' h') (hr:run P c F E k (.op p 0) S r' h'):Holds P E.n E.X (cat F p) (fun e r h=>run P c F E k (.ex e) S r h) r h:=by
 refine QR ht ?_;rw [fm];refine xE (c:=c) hm (.region id ops false) (?_:kJ P c E.n ops.toList (mZ P c F E k S .normal) ops.toList r' h');rw [<- Li fm];simpa using Lh k k 0 (Nat.le_refl _) hr
theorem bD {P:Program} {c:av} {F:Func} {E:En} {p:List Bool} {S:List Fr} {k:Nat} {body:Code} {r:aC} {h:af} (fm:cat F p=.loop body) (hm:P.follows .mixedOrders=true) (ks:List Nat) (ts:List (Nat × Nat)) (J:Nat->aC->af->Prop)
  (h0:mn ks ts (Bk fun r h=>∃ m,J m r h) r h)
  (hb:∀ m r h,J m r h->run P c F E k (.go (false::p)) (.head (mn ks ts (Bk fun r h=>∃ m',m'<m/\J m' r h))::S) r h) :
  Holds P E.n E.X (cat F p) (fun e r h=>run P c F E k (.ex e) S r h) r h:=by
 rw [fm]
 have cK:∀ {J J':aC->af->Prop} {r:aC} {h:af},(∀ r h,J r h->J' r h)->mn ks ts J r h->mn ks ts J' r h:=by
  intro J J' r h hj;unfold mn
  have:∀ {l:List (Nat × Nat)} {K K':aC->af->Prop},(∀ r h,K r h->K' r h)->∀ {r:aC} {h:af},xG l r h K->xG l r h K':=by
   intro l;induction l with
   | nil=>intro K K' hk r h hr;exact hk _ _ hr
   | cons x l ih=>
     obtain ⟨t,k⟩:=x;intro K K' hk r h hr;unfold xG at hr ⊢;split at hr
     ·exact ⟨hr.1,fun q=>ih hk (hr.2 q)⟩
     exact ih hk hr
  exact this fun r h=>zD fun r'=>hj r' h
 refine KW ks ts (fun m=>Bk (J m)) (cK ?_ h0) fun m r h hJ=>?_
 ·rintro r h ⟨r',h',ht,m,hj⟩;exact ⟨m,r',h',ht,hj⟩
 obtain ⟨r1,h1,ht,hJ⟩:=hJ;refine QR ht ?_;have:=GG hm k (false::p) _ (hb m r1 h1 hJ);have e:cat F (false::p)=body:=(by simp [cat,fm,child]);rw [e] at this;refine Bg (fun e r h hQ=>?_) this;cases k with
 | zero=>exact hQ.elim
 | succ k=>
   simp only [mZ] at hQ;unfold run at hQ;cases e with
   | normal=>
     refine cK ?_ hQ;rintro r h ⟨r',h',ht,m',aP,hj⟩;exact ⟨m',aP,r',h',ht,hj⟩
   | exit i=>exact pQ k _ _ _ (by omega) hQ
   | ret=>exact pQ k _ _ _ (by omega) hQ
theorem aw.ye {f:FuncId} {args:List AV} {R R':AV->af->Prop} {h:af} (hf:aw P f args h R)
  (hp:∀ v h1,R v h1->∃ b cs h2 h3 v',bj b (.vec cs) h1 h2/\jd b cs h2 h3/\jf b cs v v'/\R' v' h3):aw P f args h R':=by
 refine ⟨fun X g w us hc hr=>?_⟩;refine (hf.1 X g w us hc hr).mono fun e w' he=>?_;obtain ⟨v,u,g',h1,rfl,hR,eY,hu,hs⟩:=he;obtain ⟨b,cs,h2,h3,v',e1,e2,e3,e4⟩:=hp v h1 hR;obtain ⟨c1,s1,hv⟩:=Abs.freeze e1 eY
 have gA:∀ k o,(k,o)∈h2->(k,o)∈h1:=by
  obtain ⟨l1,l2,rfl,rfl⟩:=bj.split e1;intro k o hm;simp only [List.mem_append,List.mem_cons] at hm ⊢;rcases hm with h|h
  ·exact .inl h
  exact .inr (.inr h)
 obtain ⟨c2,s2⟩:=c1.Bj e2.keys (fun k o' hm=>by
  rcases e2.get k o' hm with h1|⟨xs,ys,rfl,h2,h3⟩
  ·exact c1.obj k o' h1
  obtain ⟨p,cc,t,q1,q2,q3,q4,q5,q6⟩:=eY.obj k (.vec xs) (gA _ _ h2);obtain ⟨l,hg⟩:=h3.get;refine ⟨p,cc,t,q1,q2,q3,q4,by rw [<- l];exact q5,fun i y hy=>?_⟩;obtain ⟨x,hx,oY⟩:=hg i y hy;obtain ⟨u,u1,u2,u3⟩:=q6 i x hx;exact ⟨u,u1,u2,hv x y oY u u3⟩)
 exact ⟨v',u,g',h3,rfl,e4,c2,ae.mono (Step.le s2) _ _ (hv v v' e3 u hu),hs.trans hc.own (s1.trans eY.own s2)⟩
end Go.Abs
/-
 The abstract fR,part X: rows of Yz own,of one cell an element.
-/
namespace Go.Abs
open Go
theorem Cd:∀ {n:Nat} {cs:List AV},n<=cs.length->iR n cs=some (cs.drop n)
 | 0,cs,_=>by cases cs<;>rfl
 | n+1,[],h=>by simp at h
 | n+1,c::cs,h=>by have:=Cd (n:=n) (cs:=cs) (by simpa using h);simpa [iR] using this
theorem YB {vs:List AV} {j:Nat} {v:AV} (h:j<vs.length):dn vs j [v]=vs.set j v:=by unfold dn;rw [List.set_eq_take_append_cons_drop];simp [h]
theorem Lm (n:Nat) (v:AV):gS n [v]=List.replicate n v:=by
 unfold gS;induction n with
 | zero=>rfl
 | succ n ih=>simp only [List.replicate_succ,List.flatten_cons,ih];rfl
theorem fy {g:G} {b off len k i:Nat} {K:AV->Prop} (hi:i<len) (hk:K (.ba b (off+i*k))):∃ (j:Nat),gP g ((i:Int)=(j:Int)/\j<len)/\K (.ba b (off+j*k)):=
 ⟨i,ag ⟨rfl,hi⟩,hk⟩
theorem yA {g:G} {b off len k:Nat} {n:Int} {K:AV->Prop} (hi:gP g (0<=n/\n<len)) (hk:K (.ba b (off+n.toNat*k))):∃ (j:Nat),gP g (n=(j:Int)/\j<len)/\K (.ba b (off+j*k)):=
 ⟨n.toNat,DC (fun ⟨h1,h2⟩=>⟨by omega,by omega⟩) hi,hk⟩
theorem YC {P:Program} {t:TypeId} {v:AV} {l:List AV} {K:AV->Prop} (ht:nm P t=some false) (hk:K v):gv P t (v::l) K:=by unfold gv;rw [ht];exact hk
theorem YD {P:Program} {t:TypeId} {b o:Nat} {vs:List AV} {v:AV} {h:af} {K:AV->Prop} (hm:(b,Ob.vec vs)∈h) (ht:nm P t=some false) (hv:vs[o]?=some v) (hk:K v) :
  ∃ cs l,(b,Ob.vec cs)∈h/\iR o cs=some l/\gv P t l K:=by
 obtain ⟨h1,h2⟩:=List.getElem?_eq_some_iff.1 hv;refine ⟨vs,vs.drop o,hm,Cd (by omega),?_⟩;rw [List.drop_eq_getElem_cons h1,h2];exact YC ht hk
theorem YE {b o:Nat} {vs:List AV} {v:AV} {h h':af} {K:AV->af->Prop} (ho:o<vs.length) (hu:cP b (.vec vs) b (.vec (vs.set o v)) h h') (hk:K .unit h') :
  ∃ cs h',cP b (.vec cs) b (.vec (dn cs o [v])) h h'/\(0<[v].length/\o+[v].length<=cs.length)/\K .unit h':=
 ⟨vs,h',by rw [YB ho];exact hu,⟨by simp,by simp;omega⟩,hk⟩
theorem YF {α:Type} {b:Nat} {ev:α->AV} {l:List α} {n:Nat} (hn:l.length=n):jf b (l.map ev) (.aQ b 0 n 1) (.sl 1 none (l.map fun x=>[ev x])):=by
 refine jf.row (pre:=[]) (post:=[]) (zq:=[]) ?_ rfl (by simpa using hn) (by simp);clear hn;induction l with
 | nil=>rfl
 | cons x l ih=>simp at ih ⊢;exact ih
inductive gz:List (List AV)->List (List AV)->Prop
 | nil:gz [] []
 | cons {x y:List AV} {xs ys:List (List AV)}:cu x y->gz xs ys->gz (x::xs) (y::ys)
theorem gz.refl:∀ xs,gz xs xs
 | []=>.nil
 | x::xs=>.cons (cu.refl x) (gz.refl xs)
theorem gz.snoc {xs:List (List AV)} {x y:List AV} (h:cu x y):gz (xs++[x]) (xs++[y]):=by
 induction xs with
 | nil=>exact .cons h .nil
 | cons z xs ih=>exact .cons (cu.refl z) ih
theorem cu.length:∀ {xs ys:List AV},cu xs ys->xs.length=ys.length
 | _,_,.nil=>rfl
 | _,_,.cons _ h=>by simp [h.length]
theorem gz.length:∀ {xs ys:List (List AV)},gz xs ys->xs.length=ys.length
 | _,_,.nil=>rfl
 | _,_,.cons _ h=>by simp [h.length]
theorem cu.Ln {c:Cx}:∀ {xs ys:List AV} {b o:Nat},cu xs ys->bC c xs b o->bC c ys b o
 | _,_,_,_,.nil,h=>h
 | _,_,_,_,.cons h1 h2,h=>by simp only [bC] at h ⊢;obtain ⟨⟨u,a1,a2,a3,a4⟩,h⟩:=h;exact ⟨⟨u,a1,a2,a3,h1 _ _ a4⟩,h2.Ln h⟩
theorem gz.QS {c:Cx} {k:Nat}:∀ {xs ys:List (List AV)} {b o:Nat},gz xs ys->cj c k xs b o->cj c k ys b o
 | _,_,_,_,.nil,h=>h
 | _,_,_,_,.cons h1 h2,h=>by simp only [cj] at h ⊢;obtain ⟨⟨a1,a2⟩,h⟩:=h;exact ⟨⟨by rw [<- h1.length];exact a1,h1.Ln a2⟩,h2.QS h⟩
theorem aa.lH {k:Nat} {t:Option Nat} {xs ys:List (List AV)} (h:gz xs ys):aa (.sl k t xs) (.sl k t ys):=by intro c u hu;simp only [ae] at hu ⊢;obtain ⟨base,cap,hv,h1,h2,h3,h4,h5,h6,h7⟩:=hu;have hl:=h.length;refine ⟨base,cap,by rw [<- hl];exact hv,by omega,by omega,h3,h4,fun a ha aM=>h5 a ha (fun e=>aM (by subst e;exact List.eq_nil_of_length_eq_zero hl.symm)),fun a ha=>h.QS (h6 a ha),fun q hq=>?_⟩;rw [<- hl];exact h7 q hq
theorem ah.both {r r':aC} {h h':af} (hr:gT r r') (gA:∀ k o,(k,o)∈h'->(k,o)∈h) (ew:(keys h').Nodup):ah r h r' h':=(ah.nD hr).trans (ah.sub gA fun _=>ew)
theorem ah.one {r r':aC} {h:af} {q:Nat} {o:Ob} (hr:gT r r') (hm:(q,o)∈h):ah r h r' [(q,o)]:=
 ah.both hr (fun k o' hk=>by cases List.mem_singleton.1 hk;exact hm) (by simp [keys])
def dq (n:Nat) (f:Nat->AV):List AV:=(List.range n).map f
@[simp] theorem QT (n:Nat) (f:Nat->AV):(dq n f).length=n:=by simp [dq]
theorem GH {n i:Nat} {f:Nat->AV} (h:i<n):(dq n f)[i]?=some (f i):=by unfold dq;rw [List.getElem?_map,List.getElem?_range h];rfl
theorem vp {n:Nat} {f g:Nat->AV} (h:∀ j,j<n->f j=g j):dq n f=dq n g:=by unfold dq;exact List.map_congr_left fun j hj=>h j (List.mem_range.1 hj)
theorem YG {n i:Nat} {f:Nat->AV} {v:AV}:(dq n f).set i v=dq n (fun j=>if j=i then v else f j):=by
 refine List.ext_getElem? fun j=>?_;rw [List.getElem?_set];by_cases hj:j<n
 ·rw [GH hj,GH hj];by_cases he:i=j
  ·subst he;simp [hj]
  rw [if_neg he,if_neg (fun h=>he h.symm)]
 rw [List.getElem?_eq_none (by simp;omega),List.getElem?_eq_none (by simp;omega)];simp;intro h;subst h;omega
theorem Je (n:Nat) (v:AV):gS n [v]=dq n (fun _=>v):=by
 rw [Lm];unfold dq;refine List.ext_getElem? fun j=>?_;by_cases hj:j<n
 ·simp [hj]
 simp [hj]
theorem sT {P:Program} {t:TypeId} {b o n:Nat} {f:Nat->AV} {h:af} {K:AV->Prop} (v:AV) (hm:(b,Ob.vec (dq n f))∈h) (ht:nm P t=some false) (ho:o<n) (hv:f o=v) (hk:K v) :
  ∃ cs l,(b,Ob.vec cs)∈h/\iR o cs=some l/\gv P t l K:=YD hm ht (by rw [GH ho,hv]) hk
theorem yR {b o n:Nat} {f:Nat->AV} {v:AV} {h h':af} {K:AV->af->Prop} (ho:o<n) (hu:cP b (.vec (dq n f)) b (.vec (dq n (fun j=>if j=o then v else f j))) h h') (hk:K .unit h') :
  ∃ cs h',cP b (.vec cs) b (.vec (dn cs o [v])) h h'/\(0<[v].length/\o+[v].length<=cs.length)/\K .unit h':=
 YE (vs:=dq n f) (by rw [QT];exact ho) (by rw [YG];exact hu) hk
theorem lj.DV {b:Nat} {cs:List AV}:∀ {xs ys:List AV},xs.length=ys.length->(∀ (i:Nat) x y,xs[i]?=some x->ys[i]?=some y->jf b cs x y)->lj b cs xs ys
 | [],[],_,_=>.nil
 | x::xs,y::ys,hl,h=>.cons (h 0 x y rfl rfl) (lj.DV (by simpa using hl) fun i x y h1 h2=>h (i+1) x y (by simpa using h1) (by simpa using h2))
 | [],_::_,hl,_=>by simp at hl
 | _::_,[],hl,_=>by simp at hl
theorem YH {b n:Nat} {f:Nat->AV} {xs:List (List AV)} (h:xs=(List.range n).map fun j=>[f j]):jf b (dq n f) (.aQ b 0 n 1) (.sl 1 none xs):=by subst h;exact YF (ev:=f) (l:=List.range n) (by simp)
theorem Fu {P:Program} {g:G} {f:FuncId} {vs:List AV} {v:AV} {h:af} {K:AV->Prop} (hq:ab P f vs h v) (hk:K v):∃ v,gP g (ab P f vs h v)/\K v:=⟨v,ag hq,hk⟩
theorem cp {α:Type} {enc:α->List AV} {l:List α} {x:α} {g:G} {n:Int} (i:Nat) {K:AV->Prop} (hn:n=(i:Int)) (hx:l[i]?=some x) (hk:K (.ai (enc x))) :
  ∃ (j:Nat) (y:List AV),gP g (n=(j:Int)/\(l.map enc)[j]?=some y)/\K (.ai y):=
 ⟨i,enc x,ag ⟨hn,by simp [hx]⟩,hk⟩
theorem cT {b:Bool} {A B:Prop} (h:b=true) (ha:A):(b=true->A)/\(b=false->B):=⟨fun _=>ha,fun h'=>by rw [h] at h';cases h'⟩
theorem cF {b:Bool} {A B:Prop} (h:b=false) (hb:B):(b=true->A)/\(b=false->B):=⟨(fun h'=>by rw [h] at h';cases h'),fun _=>hb⟩
theorem aw.Gl {P:Program} {f:FuncId} {args:List AV} {R R':AV->af->Prop} {h:af} (hf:aw P f args h R)
  (hp:∀ v h1,R v h1->R' v h1\/∃ b cs h2 h3 v',bj b (.vec cs) h1 h2/\jd b cs h2 h3/\jf b cs v v'/\R' v' h3):aw P f args h R':=by
 refine ⟨fun X g w us hc hr=>?_⟩;refine (hf.1 X g w us hc hr).mono fun e w' he=>?_;obtain ⟨v,u,g',h1,rfl,hR,eY,hu,hs⟩:=he;rcases hp v h1 hR with IF|⟨b,cs,h2,h3,v',e1,e2,e3,e4⟩
 ·exact ⟨v,u,g',h1,rfl,IF,eY,hu,hs⟩
 obtain ⟨c1,s1,hv⟩:=Abs.freeze e1 eY
 have gA:∀ k o,(k,o)∈h2->(k,o)∈h1:=by
  obtain ⟨l1,l2,rfl,rfl⟩:=bj.split e1;intro k o hm;simp only [List.mem_append,List.mem_cons] at hm ⊢;rcases hm with h|h
  ·exact .inl h
  exact .inr (.inr h)
 obtain ⟨c2,s2⟩:=c1.Bj e2.keys (fun k o' hm=>by
  rcases e2.get k o' hm with h1|⟨xs,ys,rfl,h2,h3⟩
  ·exact c1.obj k o' h1
  obtain ⟨p,cc,t,q1,q2,q3,q4,q5,q6⟩:=eY.obj k (.vec xs) (gA _ _ h2);obtain ⟨l,hg⟩:=h3.get;refine ⟨p,cc,t,q1,q2,q3,q4,by rw [<- l];exact q5,fun i y hy=>?_⟩;obtain ⟨x,hx,oY⟩:=hg i y hy;obtain ⟨u,u1,u2,u3⟩:=q6 i x hx;exact ⟨u,u1,u2,hv x y oY u u3⟩)
 exact ⟨v',u,g',h3,rfl,e4,c2,ae.mono (Step.le s2) _ _ (hv v v' e3 u hu),hs.trans hc.own (s1.trans eY.own s2)⟩
end Go.Abs
/-
 The abstract fR,part W: loops gone through step by step,where T8 is known.
-/
namespace Go.Abs
open Go
def xH:aC->List Nat->List Nat
 | [],_=>[]
 | (t,[],_)::r,seen=>match rp seen t with
   | true=>xH r seen
   | false=>t::xH r (t::seen)
 | (t,_::_,_)::r,seen=>xH r (t::seen)
def UL (P:Program) (c:av) (F:Func) (E:En) (k:Nat) (p:List Bool) (S:List Fr) (ks:List Nat):Nat->aC->af->Prop
 | 0,_,_=>False
 | n+1,r,h=>UL P c F E k p S ks n r h\/run P c F E k (.go (false::p)) (.head (mn ks [] (UL P c F E k p S ks n))::S) r h
theorem QU {P:Program} {c:av} {F:Func} {E:En} {k:Nat} {p:List Bool} {S:List Fr} {ks:List Nat} (m:Nat) :
  UL P c F E k p S ks m=fun r h=>∃ m',m'<m/\run P c F E k (.go (false::p)) (.head (mn ks [] (UL P c F E k p S ks m'))::S) r h:=by
 induction m with
 | zero=>funext r h;simp [UL]
 | succ m ih=>
   funext r h;refine propext ⟨?_,?_⟩
   ·intro hh;unfold UL at hh;rcases hh with hh|hh
    ·rw [ih] at hh;obtain ⟨m',h1,h2⟩:=hh;exact ⟨m',by omega,h2⟩
    exact ⟨m,by omega,hh⟩
   rintro ⟨m',h1,h2⟩;unfold UL;by_cases e:m'=m
   ·subst e;exact .inr h2
   refine .inl ?_;rw [ih];exact ⟨m',by omega,h2⟩
theorem yz {P:Program} {c:av} {F:Func} {E:En} {p:List Bool} {S:List Fr} {k:Nat} {body:Code} {r:aC} {h:af} (N:Nat) (fm:cat F p=.loop body) (hm:P.follows .mixedOrders=true)
  (h0:mn (xH r []) [] (UL P c F E k p S (xH r []) N) r h) :
  Holds P E.n E.X (cat F p) (fun e r h=>run P c F E k (.ex e) S r h) r h:=by
 refine bS fm hm (xH r []) [] (fun m r' h'=>run P c F E k (.go (false::p)) (.head (mn (xH r []) [] (UL P c F E k p S (xH r []) m))::S) r' h') ?_ ?_
 ·rw [QU] at h0;unfold mn at h0 ⊢;exact zD (fun r' hh=>let ⟨m,_,h2⟩:=hh;⟨m,h2⟩) h0
 intro m r' h' hJ;rw [QU] at hJ;exact hJ
end Go.Abs
