/- What is proved: small laws for the walks of this seat, and contracts of its functions. No condition but those each theorem names. -/
import Derived.Test.YtbmcnieifibckaaGreatN2
/-
 The abstract fS,part L: calls in a W8 heap,W9 arguments and results.
-/
set_option linter.unusedVariables false
set_option linter.unusedSimpArgs false
namespace Go.Abs
open Go
variable {P:Program} {n:Nat} {X:Nat->Prop} {g0:Gh} {r:aC} {h:af} {a:Act} {w:World}
theorem qT (h1 h2:af):keys (h1++h2)=keys h1++keys h2:=by simp [keys]
theorem QX (h1 h2:af):live (fun k=>X k\/k∈keys h2) h1=live X (h1++h2):=by
 funext k;simp only [live,qT,List.mem_append,eq_iff_iff];constructor
 ·rintro ((h|h)|h)
  ·exact .inl h
  ·exact .inr (.inr h)
  exact .inr (.inl h)
 rintro (h|h|h)
 ·exact .inl (.inl h)
 ·exact .inr h
 exact .inl (.inr h)
theorem YJ {k:Nat} {o:Ob} (hm:(k,o)∈h):k∈keys h:=by simp only [keys,List.mem_map];exact ⟨_,hm,rfl⟩
theorem aB.frame {f:FuncId} {args:List AV} {R:AV->af->Prop} (hf:aB P f args h R) (h2:af) :
  aB P f args (h++h2) fun v h'=>∃ h1,R v h1/\h'=h1++h2:=by
 refine ⟨fun X g w us hc hr=>?_⟩;have er:=hc.nodup;rw [qT,List.nodup_append] at er;obtain ⟨YK,YL,KQ⟩:=er;have xd:=QX (X:=X) h h2
 have bQ:CW (fun k=>X k\/k∈keys h2) g h w:=by
  refine ⟨hc.own,?_,YK,?_,?_⟩
  ·obtain ⟨N,hN⟩:=hc.bound;refine ⟨N,fun k hk=>hN k ?_⟩;rw [qT,List.mem_append];rcases hk with (h|h)|h|h
   ·exact .inl h
   ·exact .inr (.inl (.inr h))
   ·exact .inr (.inl (.inl h))
   exact .inr (.inr h)
  ·rintro k hk (hx|bw)
   ·exact hc.sep k (by rw [qT,List.mem_append];exact .inl hk) hx
   exact KQ k hk k bw rfl
  intro k o hm;rw [xd];exact hc.obj k o (List.mem_append.2 (.inl hm))
 refine (hf.1 _ g w us bQ (by rw [xd];exact hr)).mono fun e w' he=>?_;obtain ⟨v,u,g',h1,rfl,hR,eO,hu,hs⟩:=he;have KR:=QX (X:=X) h1 h2
 have aF:Step X g (h++h2) w g' (h1++h2) w':=by
  refine ⟨hs.os,hs.xW,hs.output,hs.size,hs.pl,fun b k s e x=>hs.Aa b k s e (.inl x),fun b k s e x=>hs.xX b k s e (.inl x),fun k x e=>hs.BQ k (.inl x) e,?_,?_,?_⟩
  ·intro b hb nS;obtain ⟨e1,e2⟩:=hs.qo b hb (fun k s e hk=>nS k s e (by rw [qT,List.mem_append];exact .inl hk));refine ⟨e1,fun k s e hk=>?_⟩;rw [qT,List.mem_append] at hk;rcases hk with hk|hk
   ·exact e2 k s e hk
   exact nS k s (hs.xX b k s e (.inr hk)) (by rw [qT,List.mem_append];exact .inr hk)
  ·intro b k s e hk cc t f bG;rw [qT,List.mem_append] at hk;rcases hk with hk|hk
   ·exact hs.Ab b k s e hk cc t f bG
   obtain ⟨e1,_⟩:=hs.qo b (hc.own _ _ _ e) (fun k' s' e' bq=>by rw [e] at e';cases e';exact KQ k bq k hk rfl);exact ⟨cc,e1.trans bG,rfl,fun _ _=>rfl⟩
  intro b k s e hk k' s' e' hl;rw [qT,List.mem_append] at hk;rcases hk with hk|hk
  ·exact hs.xY b k s e hk k' s' e' (by rw [KR];exact hl)
  have:=hs.Aa b k s e (.inr hk);rw [this] at e';cases e';exact Nat.le_refl _
 have ck:CW X g' (h1++h2) w':=by
  refine ⟨eO.own,?_,?_,?_,?_⟩
  ·obtain ⟨N,hN⟩:=eO.bound;refine ⟨N,fun k hk=>hN k ?_⟩;rw [qT,List.mem_append] at hk;rcases hk with h|(h|h)|h
   ·exact .inl (.inl h)
   ·exact .inr (.inl h)
   ·exact .inl (.inr h)
   exact .inr (.inr h)
  ·rw [qT,List.nodup_append];exact ⟨eO.nodup,YL,fun x hx y hy e=>eO.sep x hx (.inr (e ▸ hy))⟩
  ·intro k hk hx;rw [qT,List.mem_append] at hk;rcases hk with hk|hk
   ·exact eO.sep k hk (.inl hx)
   exact hc.sep k (by rw [qT,List.mem_append];exact .inr hk) hx
  intro k o hm;rcases List.mem_append.1 hm with hm|hm
  ·have:=eO.obj k o hm;rw [KR] at this;exact this
  have hk:=YJ hm;refine oB.mM (c:=⟨g,live X (h++h2),w⟩) (Step.le aF) (hc.obj k o (List.mem_append.2 (.inr hm))) ?_ (fun e=>hs.BQ k (.inr hk) e);intro p hp ⟨s,ho⟩;obtain ⟨e1,_⟩:=hs.qo p.block (hc.own _ _ _ ho) (fun k' s' e' bq=>by simp only at ho;rw [ho] at e';cases e';exact KQ k bq k hk rfl);exact ⟨e1,(hs.Aa _ _ _ ho (.inr hk)).trans ho.symm⟩
 exact ⟨v,u,g',h1++h2,rfl,⟨h1,hR,rfl⟩,ck,by rw [<- KR];exact hu,aF⟩
theorem aB.pre {f:FuncId} {args:List AV} {R:AV->af->Prop} {h':af} (hf:aB P f args h R) (gH:∀ k o,(k,o)∈h->(k,o)∈h')
  (er:(keys h').Nodup->(keys h).Nodup):aB P f args h' R:=by
 refine ⟨fun X g w us hc hr=>?_⟩;obtain ⟨c1,s1⟩:=hc.sub gH (er hc.nodup);refine (hf.1 X g w us c1 (ax.mono (Step.le s1) _ _ hr)).mono fun e w' he=>?_;obtain ⟨v,u,g',h1,rfl,hR,eO,hu,hs⟩:=he;exact ⟨v,u,g',h1,rfl,hR,eO,hu,s1.trans hc.own hs⟩
def ag (x y:AV):Prop:=∀ c u,aa c x u->aa c y u
theorem ag.refl (x:AV):ag x x:=fun _ _ h=>h
theorem ag.sl {k:Nat} {t:Option Nat} {xs:List (List AV)}:ag (.sl k t xs) (.sl k none xs):=by intro c u h;simp only [aa] at h ⊢;obtain ⟨base,cap,hv,h1,h2,h3,h4,h5,h6,h7⟩:=h;exact ⟨base,cap,hv,h1,h2,h3,h4,h5,h6,by simp⟩
theorem ag.nil {k:Nat} (hk:0<k):ag .aT (.sl k none []):=by intro c u h;simp only [aa] at h ⊢;exact ⟨none,0,by simpa using h,by simp,by simp,hk,by simp,by simp,by simp,by simp⟩
inductive cW:List AV->List AV->Prop
 | nil:cW [] []
 | cons {x y:AV} {xs ys:List AV}:ag x y->cW xs ys->cW (x::xs) (y::ys)
theorem cW.refl:∀ xs,cW xs xs
 | []=>.nil
 | x::xs=>.cons (ag.refl x) (cW.refl xs)
theorem cW.rep {c:Cx}:∀ {xs ys:List AV} {us:List Value},cW xs ys->ax c xs us->ax c ys us
 | _,_,us,.nil,h=>h
 | _,_,us,.cons h1 h2,h=>by simp only [ax] at h ⊢;obtain ⟨u,r,rfl,a1,a2⟩:=h;exact ⟨u,r,rfl,h1 _ _ a1,h2.rep a2⟩
theorem ag.aH {xs ys:List AV} (h:cW xs ys):ag (.aH xs) (.aH ys):=by intro c u hu;simp only [aa] at hu ⊢;obtain ⟨us,hv,hr⟩:=hu;exact ⟨us,hv,h.rep hr⟩
theorem ag.agg {xs ys:List AV} (h:cW xs ys):ag (.agg xs) (.agg ys):=by intro c u hu;simp only [aa] at hu ⊢;obtain ⟨us,hv,h1,hr⟩:=hu;exact ⟨us,hv,h1,h.rep hr⟩
theorem aB.args {f:FuncId} {args zn:List AV} {R:AV->af->Prop} (hf:aB P f zn h R) (hl:cW args zn):aB P f args h R:=
 ⟨fun X g w us hc hr=>hf.1 X g w us hc (hl.rep hr)⟩
theorem aB.post {f:FuncId} {args:List AV} {R R':AV->af->Prop} (hf:aB P f args h R)
  (hp:∀ v h1,R v h1->∃ v' h',R' v' h'/\ag v v'/\(∀ k o,(k,o)∈h'->(k,o)∈h1)/\((keys h1).Nodup->(keys h').Nodup)):aB P f args h R':=by
 refine ⟨fun X g w us hc hr=>?_⟩;refine (hf.1 X g w us hc hr).mono fun e w' he=>?_;obtain ⟨v,u,g',h1,rfl,hR,eO,hu,hs⟩:=he;obtain ⟨v',h',k1,k2,k3,k4⟩:=hp v h1 hR;obtain ⟨d1,d2⟩:=eO.sub k3 (k4 eO.nodup);exact ⟨v',u,g',h',rfl,k1,d1,aa.mono (Step.le d2) _ _ (k2 _ _ hu),hs.trans hc.own d2⟩
theorem ae.wide {f:FuncId} {args:List AV} {v:AV} (hq:ae P f args [] v) (h:af):ae P f args h v:=by have:=aB.frame hq h;refine aB.post (by simpa using this) ?_;rintro v' h' ⟨h1,⟨h2,rfl⟩,rfl⟩;exact ⟨v',_,⟨h2,rfl⟩,ag.refl _,by simp,by simp⟩
theorem ae.more {f:FuncId} {args:List AV} {v:AV} {x:Nat × Ob} (hq:ae P f args h v):ae P f args (x::h) v:=by
 have:=aB.frame hq [x]
 have er:∀ {l:af},(keys (x::l)).Nodup↔(keys (l++[x])).Nodup:=by
  intro l;simp only [keys,List.map_cons,List.map_append,List.map_nil,List.nodup_cons,List.nodup_append];constructor
  ·rintro ⟨a,b⟩;exact ⟨b,by simp,fun y hy z hz=>by simp at hz;subst hz;rintro rfl;exact a hy⟩
  rintro ⟨a,b,c⟩;exact ⟨fun hm=>c _ hm _ (by simp) rfl,a⟩
 refine aB.post (aB.pre this (h':=x::h) ?_ er.1) ?_
 ·intro k o hm;simp only [List.mem_append,List.mem_singleton,List.mem_cons,List.not_mem_nil,or_false] at hm ⊢;exact hm.symm
 rintro v' h' ⟨h1,⟨rfl,rfl⟩,rfl⟩;refine ⟨v',x::h1,⟨rfl,rfl⟩,ag.refl _,?_,er.2⟩;intro k o hm;simp only [List.mem_append,List.mem_singleton,List.mem_cons,List.not_mem_nil,or_false] at hm ⊢;exact hm.symm
theorem ae.args {f:FuncId} {args zn:List AV} {v:AV} (hq:ae P f zn h v) (hl:cW args zn):ae P f args h v:=aB.args hq hl
theorem DA {g:G} {p q:Prop} (h:p->q):gP g p->gP g q:=by
 induction g with
 | nil=>exact h
 | cons e g ih=>exact fun hp he=>ih (hp he)
theorem QY {g:G} {K:AV->Prop} {op:Op} {x:Nat × Ob} (hq:bM P r g h K op):bM P r g (x::h) K op:=by
 by_cases hf:rv r g op=true
 ·exact Kk hf hq
 cases op
 case load t y=>
  simp only [bM] at hq ⊢;split at hq
  ·exact hq
  ·obtain ⟨cs,l,h1,h2⟩:=hq;exact ⟨cs,l,List.mem_cons_of_mem _ h1,h2⟩
  exact hq
 case call cl=>
  revert hq;unfold bM;simp only;split
  ·exact fun hh=>hh
  ·exact fun hh=>hh
  ·exact fun hh=>hh
  ·exact fun hh=>hh
  ·split
   ·rintro ⟨v,h1,h2⟩;exact ⟨v,DA ae.more h1,h2⟩
   exact fun hh=>hh
  ·split
   ·split
    ·rintro ⟨v,h1,h2⟩;exact ⟨v,DA ae.more h1,h2⟩
    exact fun hh=>hh
   exact fun hh=>hh
  exact fun hh=>hh
 case lookup t x i ok=>
  revert hq;unfold bM;simp only;repeat' split
  all_goals first
   | exact fun hh=>hh
   | exact fun ⟨es,v,f,h1,h2⟩=>⟨es,v,f,List.mem_cons_of_mem _ h1,h2⟩
 all_goals exact absurd rfl hf
end Go.Abs
/-
 The abstract fS,part M: regions X0 order is drawn.
-/
namespace Go.Abs
open Go
variable {P:Program} {n:Nat} {X:Nat->Prop} {g0:Gh} {r:aC} {h:af} {a:Act} {w:World}
theorem KT {r1 r2:aC} {K:AV->af->Prop} {op:Op} (h':∀ t∈ru op.operands.toList,bp r1 t=bp r2 t) (hq:cE P r1 h K op):cE P r2 h K op:=by
 have hx:∀ g,∀ x∈op.operands.toList,aK r1 g x=aK r2 g x:=by intro g x hx;exact Kj fun t ht=>h' t (Gs (ht ▸ hx))
 clear h';cases op
 case call cl=>
  have jM:∀ g,bS r1 g cl.args.toList=bS r2 g cl.args.toList:=fun g=>Dj fun x ji=>hx g x (by simp [Op.operands,Call.operands];exact .inr (by simpa using ji));have cR:∀ g t,cl.callee=.value (.tmp t)->aK r1 g (.tmp t)=aK r2 g (.tmp t):=fun g t ht=>hx g _ (by simp [Op.operands,Call.operands,ht]);clear hx;revert hq;unfold cE;simp only [jM];split;all_goals first|exact fun hh=>hh|skip
  rename_i t ht;rw [cR _ _ ht];exact fun hh=>hh
 case buildSlice t m ps=>
  simp only [cE] at hq ⊢;revert hq;split
  ·rw [<- Gt (r1:=r1) (fun x ji=>hx [] x (by simpa [Op.operands] using ji))];exact fun hh=>hh
  exact fun hh=>hh
 case makeMap t rr=>cases rr<;>first|exact hq|(simp [cE] at hq;done)
 case binOp op t x y yt=>
  cases op<;>try (simp [cE] at hq;done)
  simp only [cE] at hq ⊢;rw [<- hx [] x (by simp [Op.operands]),<- hx [] y (by simp [Op.operands])];exact hq
 case box t x=>
  simp only [cE] at hq ⊢;rw [<- hx [] x (by simp [Op.operands])];exact hq
 case store t x y=>
  simp only [cE] at hq ⊢;rw [<- hx [] x (by simp [Op.operands]),<- hx [] y (by simp [Op.operands])];exact hq
 case makeSlice t x y=>
  simp only [cE] at hq ⊢;rw [<- hx [] x (by simp [Op.operands]),<- hx [] y (by simp [Op.operands])];exact hq
 case alloc t=>exact hq
 case range t x=>
  simp only [cE] at hq ⊢;rw [<- hx [] x (by simp [Op.operands])];exact hq
 case next x sb=>
  cases sb
  ·simp only [cE] at hq ⊢;rw [<- hx [] x (by simp [Op.operands])];exact hq
  simp only [cE] at hq ⊢;rw [<- hx [] x (by simp [Op.operands])];exact hq
 case entry x=>
  simp only [cE] at hq ⊢;rw [<- hx [] x (by simp [Op.operands])];exact hq
 case mapUpdate t m k x=>
  simp only [cE] at hq ⊢;rw [<- hx [] m (by simp [Op.operands]),<- hx [] k (by simp [Op.operands]),<- hx [] x (by simp [Op.operands])];exact hq
 all_goals (simp [cE] at hq)
theorem KU {K:AV->af->Prop} {op:Op} (ha:sy op=true) (hq:cE P r h K op):cE P r h (fun v h'=>K v h'/\∃ x,h'=x::h) op:=by
 cases op
 case alloc t=>
  simp only [cE] at hq ⊢;revert hq;split
  ·exact fun hh b=>⟨hh b,_,rfl⟩
  exact fun hh=>hh
 case box t x=>
  simp only [cE] at hq ⊢;revert hq;repeat' split
  all_goals first|exact fun hh=>hh.elim|exact fun hh b=>⟨hh b,_,rfl⟩
 case makeMap t rr=>
  cases rr
  ·simp only [cE] at hq ⊢;exact fun b=>⟨hq b,_,rfl⟩
  simp [cE] at hq
 case makeSlice t x y=>
  simp only [cE] at hq ⊢;revert hq;repeat' split
  all_goals first|exact fun hh=>hh.elim|exact fun hh=>⟨hh.1,fun b=>⟨hh.2 b,_,rfl⟩⟩
 case buildSlice t m ps=>
  simp only [cE] at hq ⊢;revert hq;repeat' split
  all_goals first|exact fun hh=>hh.elim|exact fun hh b=>⟨hh b,_,rfl⟩
 all_goals (simp [sy] at ha)
theorem QZ {r1 r2:aC} {K:AV->af->Prop} {op:Op} {own jL:List Nat} {d:Option Nat} (h':∀ t∈ru op.operands.toList,bp r1 t=bp r2 t) (hq:gN P own jL d r1 h K op):gN P own jL d r2 h K op:=by
 have hx:∀ g,∀ x∈op.operands.toList,aK r1 g x=aK r2 g x:=by intro g x hx;exact Kj fun t ht=>h' t (Gs (ht ▸ hx))
 unfold gN at hq ⊢;split at hq
 ·rename_i cl d;split at hq
  ·skip;have jM:∀ g,bS r1 g cl.args.toList=bS r2 g cl.args.toList:=fun g=>Dj fun x ji=>hx g x (by simp [Op.operands,Call.operands];exact .inr (by simpa using ji));unfold uS at hq ⊢;simp only [jM] at hq;exact hq
  skip;exact KT h' hq
 ·rename_i t m parts d;split at hq
  ·skip;unfold uT at hq ⊢;revert hq;split
   ·rw [<- Gt (r1:=r1) (fun x ji=>hx [] x (by simpa [Op.operands] using ji))];exact fun hh=>hh
   exact fun hh=>hh
  skip;exact KT h' hq
 exact KT h' hq
theorem YM {K:AV->af->Prop} {op:Op} {own jL:List Nat} {d:Option Nat} (ha:sy op=true) (hq:gN P own jL d r h K op):gN P own jL d r h (fun v h'=>K v h'/\∃ x,h'=x::h) op:=by
 unfold gN at hq ⊢;split at hq
 ·simp [sy] at ha
 ·split at hq
  ·skip;unfold uT at hq ⊢;revert hq;repeat' split
   all_goals first|exact fun hh=>hh.elim|exact fun hh b=>⟨hh b,_,rfl⟩
  skip;exact KU ha hq
 exact KU ha hq
theorem KV {all:List Oper} {K:G->AV->Prop} {o:Oper} (hq:dN P all r h K o):∃ g v,K g v/\dN P all r h (fun g' v'=>g'=g/\v'=v) o:=by
 unfold dN at hq ⊢;split at hq
 ·obtain ⟨v,h1,h2⟩:=Kh hq;exact ⟨_,v,h1,by simpa using h2⟩
 split at hq<;>try contradiction
 split at hq<;>try contradiction
 split at hq<;>try contradiction
 obtain ⟨v,h1,h2⟩:=Kh hq;exact ⟨_,v,h1,by simp [*]⟩
theorem vU {g:G} {K K':AV->Prop} {op:Op} (hk:∀ v,K v->K' v) (hq:bM P r g h K op):bM P r g h K' op:=by
 obtain ⟨v,h1,h2⟩:=Kh hq;have:(fun x=>x=v)=fun x=>x=v/\K' x:=by funext x;simp only [eq_iff_iff];exact ⟨fun e=>⟨e,e ▸ hk v h1⟩,fun e=>e.1⟩
 rw [this] at h2;clear this
 -- from the conjunction to its second half,by the same X1
 have key:∀ {K1 K2:AV->Prop},(∀ v,K1 v->K2 v)->bM P r g h K1 op->bM P r g h K2 op:=by
  intro K1 K2 hk;have sW:∀ {k:IntKind} {m:Int},arith g k m K1->arith g k m K2:=by intro k m hh;unfold arith at hh ⊢;cases k<;>first|exact ⟨hh.1,hk _ hh.2⟩|exact hk _ hh
  have wV:∀ {t:TypeId} {cs:List AV},gy P t cs K1->gy P t cs K2:=by
   intro t cs;unfold gy;repeat' split
   all_goals first|exact hk _|exact fun hh=>hh
  have Ki:∀ {t:TypeId} {op:BinOp} {x y:AV},tQ P g t op x y K1->tQ P g t op x y K2:=by
   intro t op x y;unfold tQ;simp only [pd];repeat' split
   all_goals first
    | exact fun hh=>hh.elim
    | exact hk _
    | exact fun hh=>⟨hh.1,hk _ hh.2⟩
    | exact fun hh=>⟨hh.1,sW hh.2⟩
    | exact fun hh=>⟨hh.1,hh.2.1,sW hh.2.2⟩
    | exact fun hh=>⟨hh.1,hh.2.1,hk _ hh.2.2⟩
  have hlen:∀ {d:Option TypeDesc} {x:AV},tU d x K1->tU d x K2:=by
   intro d x;unfold tU;repeat' split
   all_goals first|exact hk _|exact fun hh=>hh
  have eu:∀ {x:AV} {lo hi:Int} {b:Bool},pg g x lo hi b K1->pg g x lo hi b K2:=by
   intro x lo hi b;unfold pg;repeat' split
   all_goals first|exact fun hh=>hh.elim|exact fun hh=>⟨hh.1,hk _ hh.2⟩
  have mj:∀ {s:TypeId} {xs:List (List AV)},uR P s xs K1->uR P s xs K2:=by
   intro s xs;unfold uR;repeat' split
   all_goals first|exact fun hh=>hh.elim|exact fun ⟨ns,h1,hh⟩=>⟨ns,h1,hk _ hh⟩
  unfold bM;repeat' split
  all_goals first
   | exact fun hh=>hh.elim
   | exact hk _
   | exact mj
   | exact wV
   | exact sW
   | exact Ki
   | exact hlen
   | exact eu
   | exact fun ⟨cs,l,h1,h2,hq⟩=>⟨cs,l,h1,h2,wV hq⟩
   | exact fun ⟨j,y,h1,hq⟩=>⟨j,y,h1,hk _ hq⟩
   | exact fun ⟨es,v,f,h1,h2,hq⟩=>⟨es,v,f,h1,h2,hk _ hq⟩
   | exact fun ⟨j,l,h1,h2,hq⟩=>⟨j,l,h1,h2,hk _ hq⟩
   | exact fun ⟨h1,hq⟩=>⟨h1,hk _ hq⟩
   | exact fun ⟨j,h1,hq⟩=>⟨j,h1,hk _ hq⟩
 exact key (fun v h=>h.2) h2
theorem GV {all:List Oper} {K:G->AV->Prop} {o:Oper} {h':af} (hh:∀ g K,bM P r g h K o.op->bM P r g h' K o.op) (hq:dN P all r h K o):dN P all r h' K o:=by
 unfold dN at hq ⊢;split at hq
 ·rename_i eJ;try simp only [eJ]
  exact hh _ _ hq
 rename_i j wt eJ;split at hq<;>try contradiction
 rename_i oj h1;split at hq<;>try contradiction
 rename_i tj h2;split at hq<;>try contradiction
 rename_i gj b h3;try simp only [eJ,h1,h2,h3]
 exact hh _ _ hq
theorem KW {all:List Oper} {g:G} {v:AV} {o:Oper} {h':af} (hf:rv r g o.op=true) (hq:dN P all r h (fun g' v'=>g'=g/\v'=v) o) :
  dN P all r h' (fun g' v'=>g'=g/\v'=v) o:=by
 unfold dN at hq ⊢;split at hq
 ·rename_i hg;obtain ⟨_,vV,_⟩:=CV hq;subst vV;exact Kk hf hq
 rename_i j wt eJ;split at hq<;>try contradiction
 rename_i oj h1;split at hq<;>try contradiction
 rename_i tj h2;split at hq<;>try contradiction
 rename_i gj b h3;try simp only [eJ,h1,h2,h3]
 obtain ⟨_,vV,_⟩:=CV hq;subst vV;exact Kk hf hq
theorem YN {all:List Oper} {r1 r2:aC} {K:G->AV->Prop} {o:Oper} (h':∀ t∈jq all o,bp r1 t=bp r2 t) (hq:dN P all r1 h K o):dN P all r2 h K o:=by
 have dq:∀ t∈ru o.op.operands.toList,bp r1 t=bp r2 t:=fun t ht=>h' t (by unfold jq;exact List.mem_append_right _ ht);unfold dN at hq ⊢;split at hq
 ·rename_i eJ;try simp only [eJ]
  exact PU dq hq
 rename_i j wt eJ;split at hq<;>try contradiction
 rename_i oj h1;split at hq<;>try contradiction
 rename_i tj h2;have:=h' tj (by unfold jq;simp [eJ,h1,h2]);rw [this] at hq;split at hq<;>try contradiction
 rename_i gj b h3;try simp only [eJ,h1,h2,h3]
 exact PU dq hq
theorem YO {all:List Oper} {gg:G} {vv:AV} {o:Oper} {i:Nat} {K:Act->World->Prop} {Q:Exit->Act->World->Prop} (hE:dN P all r h (fun g v=>g=gg/\v=vv) o) (hc:bN n X g0 r h a w)
  (hi:all.toArray[i]?=some o)
  (hn:∀ g' u w',CW X g' h w'->Step X g0 h w g' h w'->(di a gg->(∀ e∈gg,e.2.1=e.2.2)/\aa ⟨g',live X h,w'⟩ vv u)->(¬ di a gg->u=undef)->K (a.put o.dst u) w') :
  wpOp P all.toArray Q i K a w:=by
 have cx:di a []:=fun e he=>by cases he
 unfold wpOp;simp only [hi];unfold dN at hE;split at hE
 ·rename_i eJ;rw [if_pos (Gq eJ)];left;obtain ⟨_,vV,_⟩:=CV hE;subst vV;refine Fo hE hc cx (by simp) ?_;rintro v g' u w' ⟨_,rfl⟩ cV cN aF;exact hn g' u w' cV aF (fun _=>⟨by simp,cN⟩) (fun hh=>absurd cx hh)
 rename_i j wt eJ;split at hE<;>try contradiction
 rename_i oj Dg;split at hE<;>try contradiction
 rename_i tj Dh;split at hE<;>try contradiction
 rename_i gj b dI;obtain ⟨_,vV,_⟩:=CV hE;have vG:=hc.lz tj gj (.bool b) dI
 have hy:yielded all.toArray a.tmps j=match a.tmps[tj]? with|some (.bool b)=>some b|_=>none:=by
  unfold yielded;simp [Dg,Dh];rcases a.tmps[tj]? with _|v
  ·rfl
  cases v<;>rfl
 have Di:Region.wanted o (yielded all.toArray a.tmps)=(yielded all.toArray a.tmps j == some wt):=(by simp [Region.wanted,eJ]);have uB:di a gj->Region.wanted o (yielded all.toArray a.tmps)=decide (b=wt)/\a.tmps[tj]?=some (.bool b)/\∀ e∈gj,e.2.1=e.2.2:=by intro hh;obtain ⟨h1,u,h2,h3⟩:=vG.1 hh;rw [aa] at h3;subst h3;refine ⟨?_,h2,h1⟩;rw [Di,hy,h2];simp only;cases b<;>cases wt<;>rfl
 have Kg:¬ di a gj->Region.wanted o (yielded all.toArray a.tmps)=false:=by intro hh;have h1:=vG.2 hh;rw [Di,hy,h1];rfl
 have jm:di a (gj++[(tj,b,wt)])↔(di a gj/\b=wt):=by
  constructor
  ·intro hh;have h1:di a gj:=fun e he=>hh e (by simp [he]);refine ⟨h1,?_⟩;have h2:=hh (tj,b,wt) (by simp);simp only at h2;rw [(uB h1).2.1] at h2;cases h2;rfl
  rintro ⟨h1,rfl⟩ e he;simp only [List.mem_append,List.mem_singleton] at he;rcases he with he|rfl
  ·exact h1 e he
  exact (uB h1).2.1
 by_cases hh:di a (gj++[(tj,b,wt)])
 ·obtain ⟨h1,h2⟩:=jm.1 hh;obtain ⟨y1,y2,y3⟩:=uB h1;rw [y1];simp only [h2,decide_true,if_true];left
  have he:∀ e∈gj++[(tj,b,wt)],e.2.1=e.2.2:=by
   intro e he;simp only [List.mem_append,List.mem_singleton] at he;rcases he with he|rfl
   ·exact y3 e he
   exact h2
  refine Fo hE hc hh he ?_;rintro v g' u w' ⟨_,rfl⟩ cV cN aF;exact hn g' u w' cV aF (fun _=>⟨vV ▸ he,cN⟩) (fun nS=>absurd (vV ▸ hh) nS)
 have hw:Region.wanted o (yielded all.toArray a.tmps)=false:=by
  by_cases h1:di a gj
  ·rw [(uB h1).1];simp only [decide_eq_false_iff_not];intro hb;exact hh (jm.2 ⟨h1,hb⟩)
  exact Kg h1
 rw [hw];simp only [Bool.false_eq_true,if_false];exact hn g0 undef w hc.cw (Step.refl _ _ _ _) (fun hy=>absurd (vV ▸ hy) hh) (fun _=>rfl)
end Go.Abs
/-
 The abstract fS,part N: X2 the order,a drawn region comes to the same abstract state.
-/
namespace Go.Abs
open Go
variable {P:Program} {n:Nat} {X:Nat->Prop} {g0:Gh} {r:aC} {h:af} {a:Act} {w:World}
theorem qU {d t:Nat} {x:G × AV}:bp ((d,x)::r) t=if d=t then some x else bp r t:=by
 conv=>lhs;unfold bp
 split
 ·rename_i hb;rw [if_pos (Nat.eq_of_beq_eq_true hb)]
 rename_i hb;rw [if_neg (fun e=>by subst e;rw [Nat.beq_refl] at hb;cases hb)]
def Cl (cl:List Nat) (i j:Nat):Prop:=(ly cl i).testBit j=true
theorem KX {cl:List Nat} {j:Nat}:∀ {es:List Edge},(wB cl es).testBit j=true↔∃ e∈es,Region.binds .any e=true/\(e.on=j\/Cl cl e.on j)
 | []=>by simp [wB]
 | e::es=>by
   unfold wB;have ih:=KX (cl:=cl) (j:=j) (es:=es);split
   ·rename_i hb;have e1:∀ a b:Nat,Nat.lor a b=a ||| b:=fun _ _=>rfl;rw [e1,e1,Nat.testBit_or,Nat.testBit_or,Nat.testBit_two_pow];simp only [Bool.or_eq_true,decide_eq_true_eq,ih,List.mem_cons];constructor
    ·rintro ((h|h)|⟨e',h1,h2⟩)
     ·exact ⟨e,.inl rfl,hb,.inl h⟩
     ·exact ⟨e,.inl rfl,hb,.inr h⟩
     exact ⟨e',.inr h1,h2⟩
    rintro ⟨e',rfl|h1,h2,h3⟩
    ·exact .inl h3
    exact .inr ⟨e',h1,h2,h3⟩
   rename_i hb;rw [ih];constructor
   ·rintro ⟨e',h1,h2⟩;exact ⟨e',by simp [h1],h2⟩
   rintro ⟨e',h1,h2⟩;rcases List.mem_cons.1 h1 with rfl|h1
   ·rw [h2.1] at hb;cases hb
   exact ⟨e',h1,h2⟩
structure gK (all:List Oper) (cl:List Nat) (ord:List Nat):Prop where
 e1:∀ i o,all[i]?=some o->∀ e∈o.after.toList,Region.binds .any e=true->e.on<i
 e2:∀ i o,all[i]?=some o->ly cl i=wB cl o.after.toList
 p2:∀ i,i<all.length->i∈ord
 p3:ord.Nodup
 p4:∀ pre i post,ord=pre++i::post->∃ o,all[i]?=some o/\∀ e∈o.after.toList,Region.binds .any e=true->e.on∈pre
 n1:∀ (i:Nat) (o:Oper) (t:Nat),all[i]?=some o->t∈jq all o->∀ (j:Nat) (o':Oper),all[j]?=some o'->o'.dst=some t->Cl cl i j\/Cl cl j i
 d1:∀ (i j:Nat) (o o':Oper) (d:Nat),all[i]?=some o->all[j]?=some o'->o.dst=some d->o'.dst=some d->i=j
theorem Ra:∀ {l:List Nat},aP.EY l=true->l.Nodup
 | [],_=>List.nodup_nil
 | x::l,h=>by simp only [aP.EY,Bool.and_eq_true,Bool.not_eq_true',List.contains_eq_mem,decide_eq_false_iff_not] at h;exact List.nodup_cons.2 ⟨h.1,Ra h.2⟩
theorem Rb {all:List Oper}:∀ {l KY:List Nat},aP.EZ all KY l=true->∀ pre i post,l=pre++i::post ->
  ∃ o,all[i]?=some o/\∀ e∈o.after.toList,Region.binds .any e=true->e.on∈KY\/e.on∈pre
 | [],_,_,pre,i,post,he=>by simp at he
 | x::l,KY,h,pre,i,post,he=>by
   simp only [aP.EZ,Bool.and_eq_true] at h;cases pre with
   | nil=>
     simp at he;obtain ⟨rfl,rfl⟩:=he;have h1:=h.1;split at h1
     ·rename_i o ho;refine ⟨o,ho,fun e he hb=>.inl ?_⟩;have:=List.all_eq_true.1 h1 e he;simpa [hb] using this
     cases h1
   | cons y pre=>
     simp at he;obtain ⟨rfl,he⟩:=he;obtain ⟨o,ho,h2⟩:=Rb h.2 pre i post he;refine ⟨o,ho,fun e he hb=>?_⟩;rcases h2 e he hb with h3|h3
     ·rcases List.mem_cons.1 h3 with h3|h3
      ·exact .inr (by simp [h3])
      exact .inl h3
     exact .inr (by simp [h3])
theorem Bh {all:List Oper} {i:Nat} {o:Oper}:(i,o)∈(all.zipIdx.map fun (o,i)=>(i,o))↔all[i]?=some o:=by
 simp only [List.mem_map,Prod.exists,Prod.mk.injEq,List.mem_zipIdx_iff_getElem?];constructor
 ·rintro ⟨a,b,h,rfl,rfl⟩;exact h
 intro h;exact ⟨o,i,h,rfl,rfl⟩
theorem KZ {t:Nat} {o:Oper}:isDst t o=true↔o.dst=some t:=by
 unfold isDst;split
 ·rename_i d hd;rw [hd];constructor
  ·intro h;rw [Nat.eq_of_beq_eq_true h]
  intro h;cases h;exact Nat.beq_refl _
 rename_i hd;simp [hd]
theorem Rc {all:List Oper} {ord:List Nat} (hk:aP all ord=true):gK all (je all []) ord:=by
 unfold aP at hk;simp only [Bool.and_eq_true] at hk;obtain ⟨⟨⟨⟨⟨⟨h1,h2⟩,h3⟩,h4⟩,h5⟩,h6⟩,h7⟩:=hk;have h1:=List.all_eq_true.1 h1;have h3:=List.all_eq_true.1 h3;have h6:=List.all_eq_true.1 h6;have h7:=List.all_eq_true.1 h7;refine ⟨?_,?_,?_,Ra h4,?_,?_,?_⟩
 ·intro i o ho e he hb;have:=h1 (i,o) (Bh.2 ho);simp only [Bool.and_eq_true] at this;have:=List.all_eq_true.1 this.1 e he;simp only [hb,Bool.not_true,Bool.false_or,Nat.blt_eq] at this;exact this
 ·intro i o ho;have:=h1 (i,o) (Bh.2 ho);simp only [Bool.and_eq_true] at this;exact Nat.eq_of_beq_eq_true this.2
 ·intro i hi;have:=h3 i (List.mem_range.2 hi);simpa using this
 ·intro pre i post he;obtain ⟨o,ho,hh⟩:=Rb h5 pre i post he;exact ⟨o,ho,fun e he hb=>(hh e he hb).resolve_left (by simp)⟩
 ·intro i o t ho ht j o' bH hd;have:=h6 (i,o) (Bh.2 ho);simp only at this;have:=List.all_eq_true.1 this t ht;unfold Nh at this;have:=List.all_eq_true.1 this (j,o') (Bh.2 bH);simp only [KZ.2 hd,Bool.not_true,Bool.false_or,Bool.or_eq_true] at this;exact this
 intro i j o o' d ho bH hd cZ;have:=h7 (i,o) (Bh.2 ho);simp only at this;have:=List.all_eq_true.1 this (j,o') (Bh.2 bH);simp only [Bool.or_eq_true,hd,KZ.2 cZ,Bool.not_true,or_false,Bool.false_eq_true] at this;exact Nat.eq_of_beq_eq_true this
section
variable {all:List Oper} {cl:List Nat} {ord:List Nat}
theorem tw (hs:gK all cl ord) {S:Nat->Prop} (hS:∀ i,S i->∃ o,all[i]?=some o/\∀ e∈o.after.toList,Region.binds .any e=true->S e.on) :
  ∀ i,S i->∀ j,Cl cl i j->S j/\j<i:=by
 intro i;induction i using Nat.strongRecOn with
 | _ i ih=>
   intro hi j hj;obtain ⟨o,ho,hc⟩:=hS i hi;unfold Cl at hj;rw [hs.e2 i o ho,KX] at hj;obtain ⟨e,he,hb,h1⟩:=hj;have aI:=hs.e1 i o ho e he hb;rcases h1 with rfl|h1
   ·exact ⟨hc e he hb,aI⟩
   obtain ⟨k1,k2⟩:=ih e.on aI (hc e he hb) j h1;exact ⟨k1,by omega⟩
def bK (al:List (Nat × Nat × G × AV)) (r:aC):aC:=al.map (·.2)++r
theorem Re {al:List (Nat × Nat × G × AV)} {t:Nat} (h:∀ x∈al,x.2.1≠t):bp (bK al r) t=bp r t:=by
 induction al with
 | nil=>rfl
 | cons x al ih=>
   obtain ⟨i,d,g,v⟩:=x;have aJ:=h _ List.mem_cons_self;simp only at aJ;show bp ((d,g,v)::bK al r) t=_;rw [qU,if_neg aJ];exact ih fun x hx=>h x (List.mem_cons_of_mem _ hx)
theorem Rf {al:List (Nat × Nat × G × AV)} {t j:Nat} {g:G} {v:AV} (hm:(j,t,g,v)∈al) (hu:∀ x∈al,x.2.1=t->x=(j,t,g,v)) :
  bp (bK al r) t=some (g,v):=by
 induction al with
 | nil=>cases hm
 | cons x al ih=>
   by_cases hx:x.2.1=t
   ·have:=hu x List.mem_cons_self hx;subst this;show bp ((t,g,v)::bK al r) t=_;rw [qU,if_pos rfl]
   have yU:(j,t,g,v)∈al:=by
    rcases List.mem_cons.1 hm with rfl|hm
    ·exact absurd rfl hx
    exact hm
   obtain ⟨i,d,g',v'⟩:=x;show bp ((d,g',v')::bK al r) t=_;rw [qU,if_neg hx];exact ih yU fun x hx=>hu x (List.mem_cons_of_mem _ hx)
def mD (all:List Oper) (cl:List Nat) (al:List (Nat × Nat × G × AV)) (r:aC) (k t:Nat) (x:Option (G × AV)):Prop:=
 (∃ j g v,Cl cl k j/\(j,t,g,v)∈al/\x=some (g,v))\/((∀ j o,all[j]?=some o->o.dst=some t->Cl cl j k)/\x=bp r t)
structure iD (n:Nat) (P:Program) (all:List Oper) (cl ord:List Nat) (r:aC) (kn rest nf:List Nat) (al:List (Nat × Nat × G × AV)) (h:af) (L:Array Bool):Prop where
 split:ord=kn++rest
 kO:L.size=all.length
 qV:∀ i,L.getD i false=true->i∈kn
 tz:∀ i,L.getD i false=true->∃ o,all[i]?=some o/\∀ e∈o.after.toList,Region.binds .any e=true->L.getD e.on false=true
 gL:∀ x∈al,x.1∈kn/\∃ o,all[x.1]?=some o/\o.dst=some x.2.1
 zo:∀ x∈al,∀ y∈al,x.1=y.1->x=y
 DB:∀ k∈kn,∀ o d,all[k]?=some o->o.dst=some d->∃ g v,(k,d,g,v)∈al
 path:∀ x∈al,∀ e∈x.2.2.1,∀ j o,all[j]?=some o->o.dst=some e.1->Cl cl x.1 j
 fact:∀ k∈kn,L.getD k false=false->∃ o g v Rk,all[k]?=some o/\dN P all Rk h (fun g' v'=>g'=g/\v'=v) o /\
  (∀ t∈jq all o,mD all cl al r k t (bp Rk t)) /\
  (∀ d,o.dst=some d->(k,d,g,v)∈al/\d<n/\(∀ e∈g,e.1≠d)/\∀ t gg v,bp r t=some (gg,v)->∀ e∈gg,e.1≠d) /\
  (k ∉ nf->∀ h',dN P all Rk h' (fun g' v'=>g'=g/\v'=v) o)
variable {kn rest nf:List Nat} {al:List (Nat × Nat × G × AV)} {L:Array Bool}
theorem iD.DC (hi:iD n P all cl ord r kn rest nf al h L) (hs:gK all cl ord) (i:Nat) (hk:i∈kn):∃ o,all[i]?=some o/\∀ e∈o.after.toList,Region.binds .any e=true->e.on∈kn:=by obtain ⟨pre,post,rfl⟩:=List.append_of_mem hk;obtain ⟨o,ho,hh⟩:=hs.p4 pre i (post++rest) (by rw [hi.split];simp);exact ⟨o,ho,fun e he hb=>by have:=hh e he hb;simp [this]⟩
theorem iD.qW (hi:iD n P all cl ord r kn rest nf al h L) (hs:gK all cl ord) {i j:Nat} (hk:i∈kn) (hc:Cl cl i j):j∈kn/\j<i:=
 tw hs (S:=fun i=>i∈kn) (fun i hk=>hi.DC hs i hk) i hk j hc
theorem zp (hi:iD n P all cl ord r kn rest nf al h L) (hs:gK all cl ord) {k:Nat} {o:Oper} (hk:all[k]?=some o) {eB:List (Nat × Nat × G × AV)} (gH:∀ x∈eB,x∈al)
  (bz:∀ j,Cl cl k j->j∈kn/\∀ x∈al,x.1=j->x∈eB) (nS:∀ x∈eB,¬ Cl cl x.1 k) (t:Nat) (ht:t∈jq all o):mD all cl al r k t (bp (bK eB r) t):=by
 have GW:∀ x∈al,∀ j o',all[j]?=some o'->o'.dst=some t->x.2.1=t->x.1=j:=by intro x hx j o' bH cZ oU;obtain ⟨_,o2,cy,kP⟩:=hi.gL x hx;rw [oU] at kP;exact hs.d1 _ _ _ _ _ cy bH kP cZ
 by_cases hw:∃ (j:Nat) (o':Oper),all[j]?=some o'/\o'.dst=some t
 ·obtain ⟨j,o',bH,cZ⟩:=hw;rcases hs.n1 k o t hk ht j o' bH cZ with hc|hc
  ·obtain ⟨hj,cu⟩:=bz j hc;obtain ⟨g,v,hm⟩:=hi.DB j hj o' t bH cZ;refine .inl ⟨j,g,v,hc,hm,Rf (cu _ hm rfl) ?_⟩;intro x hx oU;exact hi.zo x (gH x hx) _ hm (GW x (gH x hx) j o' bH cZ oU)
  refine .inr ⟨fun j2 o2 cy kP=>by rw [hs.d1 _ _ _ _ _ cy bH kP cZ];exact hc,Re ?_⟩;intro x hx oU;have:=GW x (gH x hx) j o' bH cZ oU;exact nS x hx (this ▸ hc)
 refine .inr ⟨fun j o' bH cZ=>absurd ⟨j,o',bH,cZ⟩ hw,Re ?_⟩;intro x hx oU;obtain ⟨_,o2,cy,kP⟩:=hi.gL x (gH x hx);exact hw ⟨_,o2,cy,oU ▸ kP⟩
theorem La (hi:iD n P all cl ord r kn rest nf al h L) (hs:gK all cl ord) {k t:Nat} {x y:Option (G × AV)} (hx:mD all cl al r k t x) (hy:mD all cl al r k t y)
  (xv:∀ j,Cl cl k j->Cl cl j k->False):x=y:=by
 rcases hx with ⟨j,g,v,h1,h2,rfl⟩|⟨h1,rfl⟩<;>rcases hy with ⟨j',g',v',k1,k2,rfl⟩|⟨k1,rfl⟩
 ·obtain ⟨_,o,ho,hd⟩:=hi.gL _ h2;obtain ⟨_,o',bH,cZ⟩:=hi.gL _ k2;have:=hs.d1 _ _ _ _ _ ho bH hd cZ;have:=hi.zo _ h2 _ k2 this;cases this;rfl
 ·obtain ⟨_,o,ho,hd⟩:=hi.gL _ h2;exact (xv j h1 (k1 _ _ ho hd)).elim
 ·obtain ⟨_,o,ho,hd⟩:=hi.gL _ k2;exact (xv j' k1 (h1 _ _ ho hd)).elim
 rfl
def dC (L:Array Bool) (al:List (Nat × Nat × G × AV)):List (Nat × Nat × G × AV):=al.filter fun x=>L.getD x.1 false
theorem pT {x:Nat × Nat × G × AV}:x∈dC L al↔x∈al/\L.getD x.1 false=true:=by simp [dC,List.mem_filter]
theorem Lb {p q:(Nat × Nat × G × AV)->Bool} {t:Nat}:∀ {al:List (Nat × Nat × G × AV)},(∀ x∈al,x.2.1=t->p x=q x)->bp (bK (al.filter p) r) t=bp (bK (al.filter q) r) t
 | [],_=>rfl
 | x::al,h=>by
   have ih:=Lb (p:=p) (q:=q) (t:=t) (al:=al) fun y hy=>h y (List.mem_cons_of_mem _ hy);have skip:∀ l:List (Nat × Nat × G × AV),x.2.1≠t->bp (bK (x::l) r) t=bp (bK l r) t:=by intro l aJ;obtain ⟨i,d,g,v⟩:=x;show bp ((d,g,v)::bK l r) t=_;rw [qU,if_neg aJ]
   have mM:∀ l l':List (Nat × Nat × G × AV),bp (bK l r) t=bp (bK l' r) t->bp (bK (x::l) r) t=bp (bK (x::l') r) t:=by intro l l' he;obtain ⟨i,d,g,v⟩:=x;show bp ((d,g,v)::bK l r) t=bp ((d,g,v)::bK l' r) t;rw [qU,qU,he]
   simp only [List.filter_cons];by_cases hx:x.2.1=t
   ·rw [h x List.mem_cons_self hx];split
    ·exact mM _ _ ih
    exact ih
   split<;>split
   ·exact mM _ _ ih
   ·rw [skip _ hx];exact ih
   ·rw [skip _ hx];exact ih
   exact ih
theorem bN.Lc {g':Gh} {h':af} {w':World} (hc:bN n X g0 r h a w) (cV:CW X g' h' w') (aF:Step X g0 h w g' h' w') {d:Nat} (hd:d<n) {gg:G} {v:AV} {u:Value}
  (n1:∀ e∈gg,e.1≠d) (n2:∀ t gg v,bp r t=some (gg,v)->∀ e∈gg,e.1≠d) (h1:di a gg->(∀ e∈gg,e.2.1=e.2.2)/\aa ⟨g',live X h',w'⟩ v u) (h2:¬ di a gg->u=undef) :
  bN n X g' ((d,gg,v)::r) h' (a.put (some d) u) w':=by
 have lD:(a.put (some d) u).tmps[d]?=some u:=by have:=hc.size;simp [Act.put,Array.getElem?_setIfInBounds,show d<a.tmps.size from by omega]
 refine ⟨cV,?_,hc.defers,by simpa [Act.put] using hc.size⟩;intro t Gp v' hl;unfold bp at hl;split at hl
 ·rename_i ht;have ht:=Nat.eq_of_beq_eq_true ht;subst ht;cases hl
  rw [Gn n1,lD];exact ⟨fun hh=>⟨(h1 hh).1,u,rfl,(h1 hh).2⟩,fun hh=>by rw [h2 hh]⟩
 rename_i ht;have aJ:t≠d:=by intro e;subst e;rw [Nat.beq_refl] at ht;cases ht
 rw [Gn (n2 t Gp v' hl)];have hg:(a.put (some d) u).tmps[t]?=a.tmps[t]?:=(by simp [Act.put,Array.getElem?_setIfInBounds_ne (Ne.symm aJ)]);rw [hg];exact (hc.step cV aF).lz t Gp v' hl
theorem Ld {al:List (Nat × Nat × G × AV)} {t:Nat} {gg:G} {v:AV} (h:bp (bK al r) t=some (gg,v)):(∃ x∈al,x.2=(t,gg,v))\/bp r t=some (gg,v):=by
 induction al with
 | nil=>exact .inr h
 | cons x al ih=>
   obtain ⟨i,d,g',v'⟩:=x;have h2:bp ((d,g',v')::bK al r) t=some (gg,v):=h;clear h;rw [qU] at h2;split at h2
   ·rename_i hb;subst hb;cases h2
    exact .inl ⟨_,List.mem_cons_self,rfl⟩
   rcases ih h2 with ⟨x,hx,e⟩|h
   ·exact .inl ⟨x,List.mem_cons_of_mem _ hx,e⟩
   exact .inr h
theorem Bi {L:Array Bool} {i j:Nat}:(L.setIfInBounds i true).getD j false=true->i=j\/L.getD j false=true:=by
 intro hh;by_cases e:i=j
 ·exact .inl e
 rw [getD_set_ne false e] at hh;exact .inr hh
theorem DD {L:Array Bool} {i:Nat} (h:i<L.size):L.getD i true=L.getD i false:=by simp [h]
theorem YP (hi:iD n P all cl ord r kn rest nf al h L) (hs:gK all cl ord) {k:Nat} {o:Oper} (hk:k∈kn) (mE:all[k]?=some o) (dW:L.getD k false=false)
  (aI:k<L.size) {g v} (Dd:∀ d,o.dst=some d->(k,d,g,v)∈al) :
  ∀ t gg vv,bp (bK (dC (L.setIfInBounds k true) al) r) t=some (gg,vv)->bp (match o.dst with|some d=>(d,g,v)::bK (dC L al) r|none=>bK (dC L al) r) t=some (gg,vv):=by
 intro t gg vv hl;have jD:(L.setIfInBounds k true).getD k false=true:=(by simp [aI]);cases hd:o.dst with
 | none=>
   simp only;rw [<- hl];refine Lb fun x hx oU=>?_
   have aJ:k≠x.1:=by
    intro e;obtain ⟨_,o2,cy,kP⟩:=hi.gL x hx;rw [<- e,mE] at cy;cases cy
    rw [hd] at kP;cases kP
   simp only [getD_set_ne false aJ]
 | some d=>
   simp only;have hm:=Dd d hd;have GW:∀ x∈al,x.2.1=d->x=(k,d,g,v):=by intro x hx YQ;obtain ⟨_,o2,cy,kP⟩:=hi.gL x hx;rw [YQ] at kP;exact hi.zo x hx _ hm (hs.d1 _ _ _ _ _ cy mE kP hd)
   by_cases ht:t=d
   ·subst ht
    have:bp (bK (dC (L.setIfInBounds k true) al) r) t=some (g,v):=
     Rf (pT.2 ⟨hm,jD⟩) fun x hx oU=>GW x (pT.1 hx).1 oU
    rw [this] at hl;rw [qU,if_pos rfl];exact hl
   rw [qU,if_neg (Ne.symm ht),<- hl];refine Lb fun x hx oU=>?_
   have aJ:k≠x.1:=by
    intro e;obtain ⟨_,o2,cy,kP⟩:=hi.gL x hx;rw [<- e,mE] at cy;cases cy
    rw [hd] at kP;have YR:d=x.2.1:=(by injection kP);exact ht (oU.symm.trans YR.symm)
   simp only [getD_set_ne false aJ]
end
end Go.Abs
/-
 The abstract fS,part O: the law on drawn regions.
-/
namespace Go.Abs
open Go
variable {P:Program} {n:Nat} {X:Nat->Prop} {g0:Gh} {r:aC} {h:af} {a:Act} {w:World}
variable {all:List Oper} {cl:List Nat} {ord:List Nat}
variable {kn rest nf:List Nat} {al:List (Nat × Nat × G × AV)} {L:Array Bool}
theorem iD.lt (hi:iD n P all cl ord r kn rest nf al h L) (hs:gK all cl ord) {i:Nat} (hm:i∈ord):i<L.size/\∃ o,all[i]?=some o:=by obtain ⟨pre,post,e⟩:=List.append_of_mem hm;obtain ⟨o,ho,_⟩:=hs.p4 pre i post e;exact ⟨by rw [hi.kO];exact (List.getElem?_eq_some_iff.1 ho).1,o,ho⟩
theorem iD.list (hi:iD n P all cl ord r kn rest nf al h L) {k:Nat} {o:Oper} (hk:k∈kn) (mE:all[k]?=some o)
  (he:∀ e∈o.after.toList,Region.binds .any e=true->L.getD e.on false=true):iD n P all cl ord r kn rest nf al h (L.setIfInBounds k true):=by
 refine ⟨hi.split,by simpa using hi.kO,?_,?_,hi.gL,hi.zo,hi.DB,hi.path,?_⟩
 ·intro i hL;rcases Bi hL with rfl|hL
  ·exact hk
  exact hi.qV i hL
 ·intro i hL;rcases Bi hL with rfl|hL
  ·exact ⟨o,mE,fun e h1 h2=>getD_set_true (he e h1 h2)⟩
  obtain ⟨o',bH,hh⟩:=hi.tz i hL;exact ⟨o',bH,fun e h1 h2=>getD_set_true (hh e h1 h2)⟩
 intro k' bq hL;refine hi.fact k' bq ?_;cases hb:L.getD k' false with
 | false=>rfl
 | true=>rw [getD_set_true hb] at hL;cases hL
theorem Rh {p:Nat->Bool}:∀ {l:List Nat},(∃ i∈l,p i=false)->∃ pre i post,l=pre++i::post/\(∀ j∈pre,p j=true)/\p i=false
 | [],h=>by obtain ⟨i,h,_⟩:=h;cases h
 | x::l,h=>by
   cases hx:p x with
   | false=>exact ⟨[],x,l,rfl,by simp,hx⟩
   | true=>
     obtain ⟨i,hi,hp⟩:=h
     have:∃ i∈l,p i=false:=by
      rcases List.mem_cons.1 hi with rfl|hi
      ·rw [hx] at hp;cases hp
      exact ⟨i,hi,hp⟩
     obtain ⟨pre,i,post,rfl,h1,h2⟩:=Rh this;refine ⟨x::pre,i,post,rfl,fun j hj=>?_,h2⟩;rcases List.mem_cons.1 hj with rfl|hj
     ·exact hx
     exact h1 j hj
theorem Lf (hi:iD n P all cl ord r kn rest nf al h L) (hs:gK all cl ord) (hr:Region.ready .any all.toArray L=[]):∀ i∈ord,L.getD i false=true:=by
 intro i hm;cases hb:L.getD i false with
 | true=>rfl
 | false=>
   obtain ⟨pre,k,post,e,h1,h2⟩:=Rh (p:=fun i=>L.getD i false) ⟨i,hm,hb⟩;obtain ⟨o,ho,hh⟩:=hs.p4 pre k post e;have aI:k<L.size:=by rw [hi.kO];exact (List.getElem?_eq_some_iff.1 ho).1
   have:k∈Region.ready .any all.toArray L:=by rw [mem_ready];refine ⟨by rw [DD aI];exact h2,o,by simpa using ho,fun e he hb=>h1 _ (hh e (by simpa using he) hb)⟩
   rw [hr] at this;cases this
def pU (N:Nat) (L:Array Bool):Nat:=((List.range N).filter fun i=>!L.getD i false).length
theorem DE {N k:Nat} (hk:k<N) (hN:N=L.size) (hf:L.getD k false=false):pU N (L.setIfInBounds k true)<pU N L:=by
 unfold pU
 have key:∀ l:List Nat,(l.filter fun i=>!(L.setIfInBounds k true).getD i false).length<=(l.filter fun i=>!L.getD i false).length /\
   (k∈l->(l.filter fun i=>!(L.setIfInBounds k true).getD i false).length<(l.filter fun i=>!L.getD i false).length):=by
  intro l;induction l with
  | nil=>simp
  | cons x l ih=>
    simp only [List.filter_cons];by_cases hx:k=x
    ·subst hx;have h1:(L.setIfInBounds k true).getD k false=true:=(by simp [show k<L.size from hN ▸ hk]);rw [h1,hf];simp only [Bool.not_true,Bool.false_eq_true,if_false,Bool.not_false,if_true,List.length_cons];exact ⟨by omega,fun _=>by omega⟩
    rw [getD_set_ne false hx];split
    ·simp only [List.length_cons];refine ⟨by omega,fun hm=>?_⟩;have:=ih.2 ((List.mem_cons.1 hm).resolve_left hx);omega
    refine ⟨ih.1,fun hm=>ih.2 ((List.mem_cons.1 hm).resolve_left hx)⟩
 exact (key _).2 (List.mem_range.2 hk)
theorem Ri {N:Nat} (h:pU N L=0):∀ i<N,L.getD i false=true:=by intro i hi;unfold pU at h;have:=List.eq_nil_of_length_eq_zero h;rw [List.filter_eq_nil_iff] at this;simpa using this i (List.mem_range.2 hi)
theorem GX {i:Nat}:∀ {g:G},ye cl all i g=true->∀ e∈g,∀ j o,all[j]?=some o->o.dst=some e.1->Cl cl i j
 | [],_,e,he=>by cases he
 | (t,b,w)::g,h,e,he=>by
   simp only [ye,Bool.and_eq_true] at h;rcases List.mem_cons.1 he with rfl|he
   ·intro j o ho hd;have:=List.all_eq_true.1 h.1 (o,j) (by rw [List.mem_zipIdx_iff_getElem?];exact ho);unfold Cl;simpa [KZ.2 hd] using this
   exact GX h.2 e he
theorem Rj {i:Nat}:∀ {l:List Nat},BS cl i l=true->∀ j∈l,Cl cl j i
 | [],_,j,hj=>by cases hj
 | x::l,h,j,hj=>by
   unfold BS at h;split at h
   ·rename_i hb;rcases List.mem_cons.1 hj with rfl|hj
    ·exact hb
    exact Rj h j hj
   cases h
theorem Rl {i:Nat}:∀ {l:List Nat},BT cl i l=true->∀ j∈l,Cl cl i j
 | [],_,j,hj=>by cases hj
 | x::l,h,j,hj=>by
   unfold BT at h;split at h
   ·rename_i hb;rcases List.mem_cons.1 hj with rfl|hj
    ·exact hb
    exact Rl h j hj
   cases h
theorem mD.more {eB:List (Nat × Nat × G × AV)} (gH:∀ x∈al,x∈eB) {k t:Nat} {x:Option (G × AV)} (h:mD all cl al r k t x):mD all cl eB r k t x:=by
 rcases h with ⟨j,g,v,h1,h2,h3⟩|h
 ·exact .inl ⟨j,g,v,h1,gH _ h2,h3⟩
 exact .inr h
theorem Bj {d:Nat}:∀ {al:List (Nat × Nat × G × AV)},pj (bK al r) d=true->pj r d=true
 | [],h=>h
 | (i,t,g,v)::al,h=>by have h:pj ((t,g,v)::bK al r) d=true:=h;exact Bj (wZ h).2
theorem iD.enter {k:Nat} (hi:iD n P all cl ord r kn (k::rest) nf al h L) (hs:gK all cl ord) {o:Oper} (mE:all[k]?=some o) {eB:List (Nat × Nat × G × AV)} {qX:List Nat} {h':af} {g:G} {v:AV}
  (Lg:eB=match o.dst with|some d=>(k,d,g,v)::al|none=>al) (jm:∀ e∈g,∀ j o,all[j]?=some o->o.dst=some e.1->Cl cl k j)
  {L':Array Bool} (hL:L'=L\/L'=L.setIfInBounds k true/\∀ e∈o.after.toList,Region.binds .any e=true->L.getD e.on false=true)
  (YS:∀ k'∈kn,L'.getD k' false=false->∃ o g v Rk,all[k']?=some o/\dN P all Rk h' (fun g' v'=>g'=g/\v'=v) o /\
    (∀ t∈jq all o,mD all cl al r k' t (bp Rk t)) /\
    (∀ d,o.dst=some d->(k',d,g,v)∈al/\d<n/\(∀ e∈g,e.1≠d)/\∀ t gg v,bp r t=some (gg,v)->∀ e∈gg,e.1≠d) /\
    (k' ∉ qX->∀ h',dN P all Rk h' (fun g' v'=>g'=g/\v'=v) o))
  (JP:L'.getD k false=false->∃ o g v Rk,all[k]?=some o/\dN P all Rk h' (fun g' v'=>g'=g/\v'=v) o /\
    (∀ t∈jq all o,mD all cl eB r k t (bp Rk t)) /\
    (∀ d,o.dst=some d->(k,d,g,v)∈eB/\d<n/\(∀ e∈g,e.1≠d)/\∀ t gg v,bp r t=some (gg,v)->∀ e∈gg,e.1≠d) /\
    (k ∉ qX->∀ h',dN P all Rk h' (fun g' v'=>g'=g/\v'=v) o)) :
  iD n P all cl ord r (kn++[k]) rest qX eB h' L':=by
 have jG:k ∉ kn:=by have:=hs.p3;rw [hi.split,List.nodup_append] at this;exact fun hm=>this.2.2 k hm k (by simp) rfl
 have gH:∀ x∈al,x∈eB:=by
  intro x hx;rw [Lg];split
  ·exact List.mem_cons_of_mem _ hx
  exact hx
 have cu:∀ x∈eB,x∈al\/(∃ d,o.dst=some d/\x=(k,d,g,v)):=by
  intro x hx;rw [Lg] at hx;split at hx
  ·rename_i d hd;rcases List.mem_cons.1 hx with rfl|hx
   ·exact .inr ⟨d,hd,rfl⟩
   exact .inl hx
  exact .inl hx
 refine ⟨by rw [hi.split];simp,?_,?_,?_,?_,?_,?_,?_,?_⟩
 ·rcases hL with rfl|⟨rfl,_⟩
  ·exact hi.kO
  simpa using hi.kO
 ·intro i dR;rcases hL with rfl|⟨rfl,_⟩
  ·exact List.mem_append_left _ (hi.qV i dR)
  rcases Bi dR with rfl|dR
  ·simp
  exact List.mem_append_left _ (hi.qV i dR)
 ·intro i dR;rcases hL with rfl|⟨rfl,he⟩
  ·exact hi.tz i dR
  rcases Bi dR with rfl|dR
  ·exact ⟨o,mE,fun e h1 h2=>getD_set_true (he e h1 h2)⟩
  obtain ⟨o',bH,hh⟩:=hi.tz i dR;exact ⟨o',bH,fun e h1 h2=>getD_set_true (hh e h1 h2)⟩
 ·intro x hx;rcases cu x hx with hx|⟨d,hd,rfl⟩
  ·obtain ⟨h1,h2⟩:=hi.gL x hx;exact ⟨List.mem_append_left _ h1,h2⟩
  exact ⟨by simp,o,mE,hd⟩
 ·intro x hx y hy e;rcases cu x hx with hx|⟨d,hd,rfl⟩<;>rcases cu y hy with hy|⟨d',cZ,rfl⟩
  ·exact hi.zo x hx y hy e
  ·exact absurd (show k∈kn from (show x.1=k from e) ▸ (hi.gL x hx).1) jG
  ·exact absurd (show k∈kn from (show y.1=k from e.symm) ▸ (hi.gL y hy).1) jG
  rw [hd] at cZ;cases cZ;rfl
 ·intro k' bq o' d bH hd;rcases List.mem_append.1 bq with bq|bq
  ·obtain ⟨g',v',hm⟩:=hi.DB k' bq o' d bH hd;exact ⟨g',v',gH _ hm⟩
  simp at bq;subst bq;rw [mE] at bH;cases bH
  refine ⟨g,v,?_⟩;rw [Lg,hd];exact List.mem_cons_self
 ·intro x hx e he j o' bH cZ;rcases cu x hx with hx|⟨d,hd,rfl⟩
  ·exact hi.path x hx e he j o' bH cZ
  exact jm e he j o' bH cZ
 intro k' bq hl;rcases List.mem_append.1 bq with bq|bq
 ·obtain ⟨o',g',v',Rk,h1,h2,h3,h4,h5⟩:=YS k' bq hl;exact ⟨o',g',v',Rk,h1,h2,fun t ht=>(h3 t ht).more gH,fun d hd=>⟨gH _ (h4 d hd).1,(h4 d hd).2⟩,h5⟩
 simp at bq;subst bq;exact JP hl
end Go.Abs
/-
 The abstract fS,part P: appending behind a token leaves every own object but tokens as it X3.
-/
namespace Go.Abs
open Go
variable {P:Program} {r:aC} {h h':af}
def Kept (h h':af):Prop:=∀ b o,(b,o)∈h->o≠.tok->(b,o)∈h'
theorem Kept.cons (x:Nat × Ob):Kept h (x::h):=fun b o hm _=>List.mem_cons_of_mem _ hm
theorem Kept.Rm {q q':Nat} (hu:cO q .tok q' .tok h h'):Kept h h':=by
 induction hu with
 | here h=>
   intro b o hm aJ;rcases List.mem_cons.1 hm with e|hm
   ·cases e;exact absurd rfl aJ
   exact List.mem_cons_of_mem _ hm
 | there hu ih=>
   intro b o hm aJ;rcases List.mem_cons.1 hm with e|hm
   ·subst e;exact List.mem_cons_self
   exact List.mem_cons_of_mem _ (ih b o hm aJ)
theorem Rn {g:G} {K:AV->Prop} {op:Op} (ho:reads op=true) (hk:Kept h h') (hq:bM P r g h K op):bM P r g h' K op:=by
 cases op<;>try (simp [reads] at ho;done)
 case load t y=>
  simp only [bM] at hq ⊢;split at hq
  ·exact hq
  ·obtain ⟨cs,l,h1,h2⟩:=hq;exact ⟨cs,l,hk _ _ h1 (by simp),h2⟩
  exact hq
 case lookup t x i ok=>
  revert hq;unfold bM;simp only;repeat' split
  all_goals first
   | exact fun hh=>hh
   | exact fun ⟨es,v,f,h1,h2⟩=>⟨es,v,f,hk _ _ h1 (by simp),h2⟩
theorem GY {all:List Oper} {cl:List Nat} {i:Nat}:∀ {nf:List Nat},uV cl all i nf=true->∀ j∈nf,Nat.testBit (ly cl i) j=true\/∃ o,all[j]?=some o/\reads o.op=true
 | [],_,j,hj=>by cases hj
 | k::nf,h,j,hj=>by
   unfold uV at h;split at h
   ·rename_i h1;rcases List.mem_cons.1 hj with rfl|hj
    ·exact .inl h1
    exact GY h j hj
   split at h<;>try contradiction
   rename_i o ho;split at h<;>try contradiction
   rename_i hr;rcases List.mem_cons.1 hj with rfl|hj
   ·exact .inr ⟨o,ho,hr⟩
   exact GY h j hj
theorem Ro {K:AV->af->Prop} {op:Op} (ha:calm r op=true) (hq:cE P r h K op):cE P r h (fun v h'=>K v h'/\Kept h h') op:=by
 unfold calm at ha;split at ha<;>try contradiction
 rename_i cl;split at ha<;>try contradiction
 rename_i cR;simp only [cE,cR] at hq ⊢;split at hq<;>try contradiction
 split at hq<;>try contradiction
 split at hq<;>try contradiction
 split at hq<;>try contradiction
 split at hq<;>try contradiction
 split at hq<;>try contradiction
 split at hq
 ·split at hq<;>try contradiction
  obtain ⟨eF,ys,h1,h2,h3,h4⟩:=hq;exact ⟨eF,ys,h1,h2,h3,fun q=>⟨h4 q,.cons _⟩⟩
 ·rename_i e;rw [e] at ha;simp at ha
 ·split at hq<;>try contradiction
  exact ⟨hq.1,fun q=>⟨hq.2 q,.cons _⟩⟩
 ·rename_i e;rw [e] at ha;simp at ha
 ·rename_i e;rw [e] at ha;simp at ha
 ·split at hq<;>try contradiction
  obtain ⟨cs,ys,h1,h2,h3,h4⟩:=hq;exact ⟨cs,ys,h1,h2,h3,fun q'=>let ⟨h',a,b⟩:=h4 q';⟨h',a,b,.Rm a⟩⟩
 ·split at hq<;>try contradiction
  split at hq<;>try contradiction
  exact ⟨hq.1,fun q'=>let ⟨h',a,b⟩:=hq.2 q';⟨h',a,b,.Rm a⟩⟩
 ·exact hq.elim
 split at hq<;>try contradiction
 split at hq<;>try contradiction
 split at hq<;>try contradiction
 split at hq<;>try contradiction
 split at hq<;>try contradiction
 split at hq<;>try contradiction
 rename_i e;rw [e] at ha;simp at ha
theorem Rp {K:AV->af->Prop} {op:Op} {own jL:List Nat} {d:Option Nat} (ha:calm r op=true) (hq:gN P own jL d r h K op):gN P own jL d r h (fun v h'=>K v h'/\Kept h h') op:=by
 unfold gN at hq ⊢;split at hq
 ·rename_i cl d;split at hq
  ·skip;unfold uS at hq ⊢;revert hq;repeat' split
   all_goals first|exact fun hh=>hh.elim|exact fun hh=>⟨hh.1,fun b=>⟨hh.2 b,.cons _⟩⟩
  skip;exact Ro ha hq
 ·simp [calm] at ha
 exact Ro ha hq
end Go.Abs
/-
 The abstract fS,part Q: the law on drawn regions,its end.
-/
namespace Go.Abs
open Go
variable {P:Program} {n:Nat} {X:Nat->Prop} {g0:Gh} {r:aC} {h:af} {a:Act} {w:World}
variable {all:List Oper} {cl:List Nat} {ord:List Nat}
variable {kn rest nf:List Nat} {al:List (Nat × Nat × G × AV)} {L:Array Bool}
theorem aB.mono {f:FuncId} {args:List AV} {R R':AV->af->Prop} (hk:∀ v h',R v h'->R' v h') (hf:aB P f args h R):aB P f args h R':=
 hf.post fun v h1 hR=>⟨v,h1,hk v h1 hR,ag.refl _,fun _ _ hm=>hm,fun hn=>hn⟩
theorem zq {K K':AV->af->Prop} {op:Op} (hk:∀ v h',K v h'->K' v h') (hq:cE P r h K op):cE P r h K' op:=by
 revert hq;unfold cE;repeat' split
 all_goals first
  | exact fun hh=>hh.elim
  | exact fun hh=>hk _ _ hh
  | exact fun hh b=>hk _ _ (hh b)
  | exact aB.mono hk
  | exact fun ⟨cs,h',h1,h2,h3⟩=>⟨cs,h',h1,h2,hk _ _ h3⟩
  | exact fun ⟨es,h1,h2⟩=>⟨es,h1,fun bs cl hb=>let ⟨h',a,b⟩:=h2 bs cl hb;⟨h',a,fun it=>hk _ _ (b it)⟩⟩
  | exact fun ⟨m,cl,seen,es,bs,h1,h2,h3,h4⟩=>⟨m,cl,seen,es,bs,h1,h2,fun hb=>hk _ _ (h3 hb),fun i b e a1 a2 a3=>let ⟨h',a,b⟩:=h4 i b e a1 a2 a3;⟨h',a,hk _ _ b⟩⟩
  | exact fun ⟨m,cl,seen,es,bs,h1,h2,i,b,e,s0,a1,a2,a3,a4⟩=>⟨m,cl,seen,es,bs,h1,h2,i,b,e,s0,a1,a2,a3,hk _ _ a4⟩
  | exact fun ⟨eF,ys,h1,h2,cs,h',a1,a2,a3⟩=>⟨eF,ys,h1,h2,cs,h',a1,a2,hk _ _ a3⟩
  | exact fun ⟨cs,ys,h1,h2,h3,h4⟩=>⟨cs,ys,h1,h2,h3,fun q'=>let ⟨h',a,b⟩:=h4 q';⟨h',a,hk _ _ b⟩⟩
  | exact fun ⟨s,pos,h1,h2,h3⟩=>⟨s,pos,h1,fun hb=>hk _ _ (h2 hb),fun hb=>let ⟨h',a,b⟩:=h3 hb;⟨h',a,hk _ _ b⟩⟩
  | exact fun hh=>⟨hh.1,fun b=>hk _ _ (hh.2 b)⟩
  | exact fun ⟨eF,ys,h1,h2,h3,h4⟩=>⟨eF,ys,h1,h2,h3,fun b=>hk _ _ (h4 b)⟩
  | exact fun ⟨cs,h1,h2,h3⟩=>⟨cs,h1,h2,fun b=>hk _ _ (h3 b)⟩
  | exact fun ⟨eF,ys,h1,h2,h3,cs,h4,h5⟩=>⟨eF,ys,h1,h2,h3,cs,h4,h5.elim (fun ⟨a,b,h',c,d⟩=>.inl ⟨a,b,h',c,hk _ _ d⟩) (fun ⟨a,b,c⟩=>.inr ⟨a,b,fun q=>hk _ _ (c q)⟩)⟩
  | exact fun ⟨cs,h1,h2,h3⟩=>⟨cs,h1,h2,fun b'=>let ⟨h',a,b⟩:=h3 b';⟨h',a,hk _ _ b⟩⟩
  | exact fun hh=>⟨hh.1,fun q'=>let ⟨h',h1,h2⟩:=hh.2 q';⟨h',h1,hk _ _ h2⟩⟩
theorem YT {K K':AV->af->Prop} {cl:Call} (hk:∀ v h',K v h'->K' v h') (hq:uS P r h K cl):uS P r h K' cl:=by
 revert hq;unfold uS;repeat' split
 all_goals first
  | exact fun hh=>hh.elim
  | exact fun hh=>⟨hh.1,fun b=>hk _ _ (hh.2 b)⟩
theorem YU {K K':AV->af->Prop} {t:TypeId} {m:Nat} {parts:Array (Nat × Operand)} (hk:∀ v h',K v h'->K' v h') (hq:uT P r h K t m parts):uT P r h K' t m parts:=by
 revert hq;unfold uT;repeat' split
 all_goals first
  | exact fun hh=>hh.elim
  | exact fun hh b=>hk _ _ (hh b)
theorem oa {K K':AV->af->Prop} {own jL:List Nat} {d:Option Nat} {op:Op} (hk:∀ v h',K v h'->K' v h') (hq:gN P own jL d r h K op):gN P own jL d r h K' op:=by
 revert hq;unfold gN;split
 ·split
  ·exact YT hk
  exact zq hk
 ·split
  ·exact YU hk
  exact zq hk
 exact zq hk
theorem Rq {al:List (Nat × Nat × G × AV)} (h:∀ x∈al,L.getD x.1 false=true):dC L al=al:=by unfold dC;rw [List.filter_eq_self];exact h
theorem Lh {k:Nat} {Q:Exit->Act->World->Prop} {next:Act->World->Prop} (hi:iD n P all cl ord r kn rest nf al h L) (hs:gK all cl ord) (hk:k∈kn) (dW:L.getD k false=false)
  (he:∀ o,all[k]?=some o->∀ e∈o.after.toList,Region.binds .any e=true->L.getD e.on false=true) (hc:bN n X g0 (bK (dC L al) r) h a w)
  (hn:∀ g' a' w',bN n X g' (bK (dC (L.setIfInBounds k true) al) r) h a' w'->Step X g0 h w g' h w'->next a' w'):wpOp P all.toArray Q k next a w:=by
 obtain ⟨o,g,v,Rk,h1,h2,h3,h4,h5⟩:=hi.fact k hk dW;have aI:k<L.size:=by rw [hi.kO];exact (List.getElem?_eq_some_iff.1 h1).1
 have rV:∀ j,Cl cl k j->L.getD j false=true:=by
  intro j hj
  have:=(tw hs (S:=fun i=>L.getD i false=true\/i=k) (fun i hS=>by
   rcases hS with hS|rfl
   ·obtain ⟨o',bH,hh⟩:=hi.tz i hS;exact ⟨o',bH,fun e a b=>.inl (hh e a b)⟩
   exact ⟨o,h1,fun e a b=>.inl (he o h1 e a b)⟩) k (.inr rfl) j hj)
  rcases this.1 with h|rfl
  ·exact h
  exact absurd this.2 (Nat.lt_irrefl _)
 have xv:∀ j,Cl cl k j->Cl cl j k->False:=fun j a b=>by have:=(hi.qW hs hk a).2;have:=(hi.qW hs (hi.qW hs hk a).1 b).2;omega
 have qY:∀ t∈jq all o,bp Rk t=bp (bK (dC L al) r) t:=by
  intro t ht;refine La hi hs (h3 t ht) (zp hi hs h1 (fun x hx=>(pT.1 hx).1) ?_ ?_ t ht) xv
  ·intro j hj;exact ⟨hi.qV j (rV j hj),fun x hx DF=>pT.2 ⟨hx,by rw [DF];exact rV j hj⟩⟩
  intro x hx jV;have ka:=(pT.1 hx).2;have:=(tw hs (S:=fun i=>L.getD i false=true) (fun i hS=>hi.tz i hS) x.1 ka k jV).1;rw [dW] at this;cases this
 refine YO (YN qY h2) hc (by simpa using h1) ?_;intro g' u w' cV aF YV YW;have xu:=YP (r:=r) hi hs hk h1 dW aI (g:=g) (v:=v) (fun d hd=>(h4 d hd).1);cases hd:o.dst with
 | none=>
   rw [hd] at xu;refine hn g' _ w' (bN.less ?_ xu) aF;simpa [Act.put] using hc.step cV aF
 | some d=>
   rw [hd] at xu;obtain ⟨q1,q2,q3,q4⟩:=h4 d hd;refine hn g' _ w' (bN.less ?_ xu) aF;refine hc.Lc cV aF q2 q3 ?_ YV YW;intro t gg vv hl e rS xw;rcases Ld hl with ⟨x,hx,ex⟩|hl
   ·obtain ⟨hx,ka⟩:=pT.1 hx;have jV:=hi.path x hx e (by rw [ex];exact rS) k o h1 (xw ▸ hd);have:=(tw hs (S:=fun i=>L.getD i false=true) (fun i hS=>hi.tz i hS) x.1 ka k jV).1;rw [dW] at this;cases this
   exact q4 t gg vv hl e rS xw
theorem Li {c:az} {K:aC->af->Prop} {Q:Exit->Act->World->Prop} (hs:gK all cl ord):∀ (fuel:Nat) (rest kn nf:List Nat) (al:List (Nat × Nat × G × AV)) (h:af) (L:Array Bool) (g0:Gh) (a:Act) (w:World),
  iD n P all cl ord r kn rest nf al h L->sz P c n all cl K rest nf (bK al r) h->bN n X g0 (bK (dC L al) r) h a w->pU all.length L<=fuel ->
  (∀ r' h' g' a' w',K r' h'->bN n X g' r' h' a' w'->Step X g0 h w g' h' w'->Q .normal a' w')->wpAny P .any all.toArray Q fuel L a w:=by
 intro fuel;induction fuel with
 | zero=>
   intro rest kn nf al h L g0 a w hi hr hc hu hf;have nr:=Ri (Nat.le_zero.1 hu)
   have YX:rest=[]:=by
    cases rest with
    | nil=>rfl
    | cons x rest=>
      have hx:x∈ord:=by rw [hi.split];simp
      obtain ⟨aI,_⟩:=hi.lt hs hx;have h1:=hi.qV x (nr x (by rw [<- hi.kO];exact aI));have:=hs.p3;rw [hi.split,List.nodup_append] at this;exact absurd rfl (this.2.2 x h1 x (by simp))
   subst YX
   have hE:dC L al=al:=Rq fun x hx=>nr x.1 (by
    have hm:x.1∈ord:=by rw [hi.split];exact List.mem_append_left _ (hi.gL x hx).1
    rw [<- hi.kO];exact (hi.lt hs hm).1)
   refine ⟨?_,?_⟩
   ·apply List.eq_nil_iff_forall_not_mem.2;intro i hm;rw [mem_ready] at hm;obtain ⟨h1,o,ho,_⟩:=hm;have aI:i<all.length:=by have:=(Array.getElem?_eq_some_iff.1 ho).1;simpa using this
    have:=nr i aI;rw [DD (by rw [hi.kO];exact aI),this] at h1;cases h1
   rw [hE] at hc;exact hf _ h g0 a w hr hc (Step.refl _ _ _ _)
 | succ fuel IH=>
   intro rest;induction rest with
   | nil=>
     intro kn nf al h L g0 a w hi hr hc hu hf;refine ⟨fun DG=>?_,fun i hm=>?_⟩
     ·have nr:=Lf hi hs DG;have hE:dC L al=al:=Rq fun x hx=>nr x.1 (by rw [hi.split];exact List.mem_append_left _ (hi.gL x hx).1);rw [hE] at hc;exact hf _ h g0 a w hr hc (Step.refl _ _ _ _)
     obtain ⟨m1,o,ho,m2⟩:=mem_ready.1 hm;have bH:all[i]?=some o:=(by simpa using ho);have aI:i<all.length:=(List.getElem?_eq_some_iff.1 bH).1;have po:i∈kn:=by have:=hs.p2 i aI;rw [hi.split] at this;simpa using this
     have jv:L.getD i false=false:=by rw [<- DD (by rw [hi.kO];exact aI)];exact m1
     have he:∀ e∈o.after.toList,Region.binds .any e=true->L.getD e.on false=true:=fun e he hb=>m2 e (by simpa using he) hb;refine Lh hi hs po jv (fun o2 cy=>by rw [bH] at cy;cases cy;exact he) hc ?_;intro g' a' w' bQ aF
     exact IH [] kn nf al h _ g' a' w' (hi.list po bH he) hr bQ (by have:=DE aI hi.kO.symm jv;omega)
      (fun r2 h2 g2 a2 w2 hK ck nc=>hf r2 h2 g2 a2 w2 hK ck (aF.trans hc.cw.own nc))
   | cons k rest vW=>
     intro kn nf al h L g0 a w hi hr hc hu hf;have oV:=hr;have mE:k∈ord:=by rw [hi.split];simp
     have jG:k ∉ kn:=by have:=hs.p3;rw [hi.split,List.nodup_append] at this;exact fun hm=>this.2.2 k hm k (by simp) rfl
     obtain ⟨aI,o,ho⟩:=hi.lt hs mE
     have dW:L.getD k false=false:=by
      cases hb:L.getD k false with
      | false=>rfl
      | true=>exact absurd (hi.qV k hb) jG
     -- xV k reads,in the X4 of all that X5 gone through
     have sK:∀ e∈o.after.toList,Region.binds .any e=true->e.on∈kn:=by obtain ⟨o2,cy,hh⟩:=hs.p4 kn k rest hi.split;rw [ho] at cy;cases cy;exact hh
     have tA:∀ j,Cl cl k j->j∈kn:=by
      intro j hj
      have:=(tw hs (S:=fun i=>i∈kn\/i=k) (fun i hS=>by
       rcases hS with hS|rfl
       ·obtain ⟨o',bH,hh⟩:=hi.DC hs i hS;exact ⟨o',bH,fun e a b=>.inl (hh e a b)⟩
       exact ⟨o,ho,fun e a b=>.inl (sK e a b)⟩) k (.inr rfl) j hj)
      rcases this.1 with h|rfl
      ·exact h
      exact absurd this.2 (Nat.lt_irrefl _)
     have qY:∀ t∈jq all o,mD all cl al r k t (bp (bK al r) t):=by intro t ht;refine zp hi hs ho (fun x hx=>hx) (fun j hj=>⟨tA j hj,fun x hx _=>hx⟩) ?_ t ht;intro x hx jV;exact jG (hi.qW hs (hi.gL x hx).1 jV).1
     unfold sz at hr;rw [ho] at hr;simp only at hr;split at hr
     ·-- a wA one
      split at hr<;>try contradiction
      rename_i eJ;split at hr<;>try contradiction
      rename_i DH;split at hr<;>try contradiction
      rename_i DI;have DH:=Rj DH;refine ⟨fun DG=>?_,fun i hm=>?_⟩
      ·have:=Lf hi hs DG k mE;rw [dW] at this;cases this
      obtain ⟨m1,oi,zr,m2⟩:=mem_ready.1 hm;have qZ:all[i]?=some oi:=(by simpa using zr);have oc:i<all.length:=(List.getElem?_eq_some_iff.1 qZ).1;have jv:L.getD i false=false:=by rw [<- DD (by rw [hi.kO];exact oc)];exact m1
      have he:∀ e∈oi.after.toList,Region.binds .any e=true->L.getD e.on false=true:=fun e he hb=>m2 e (by simpa using he) hb
      have rV:∀ j,Cl cl i j->L.getD j false=true:=by
       intro j hj
       have:=(tw hs (S:=fun x=>L.getD x false=true\/x=i) (fun x hS=>by
        rcases hS with hS|rfl
        ·obtain ⟨o',bH,hh⟩:=hi.tz x hS;exact ⟨o',bH,fun e a b=>.inl (hh e a b)⟩
        exact ⟨oi,qZ,fun e a b=>.inl (he e a b)⟩) i (.inr rfl) j hj)
       rcases this.1 with h|rfl
       ·exact h
       exact absurd this.2 (Nat.lt_irrefl _)
      have cu:i∈kn\/i=k\/i∈rest:=by have:=hs.p2 i oc;rw [hi.split] at this;simpa using this
      rcases cu with po|rfl|Lj
      ·refine Lh hi hs po jv (fun o2 cy=>by rw [qZ] at cy;cases cy;exact he) hc ?_;intro g' a' w' bQ aF
       exact IH (k::rest) kn nf al h _ g' a' w' (hi.list po qZ he) oV bQ (by have:=DE oc hi.kO.symm jv;omega)
        (fun r2 h2 g2 a2 w2 hK ck nc=>hf r2 h2 g2 a2 w2 hK ck (aF.trans hc.cw.own nc))
      ·rw [ho] at qZ;cases qZ
       unfold wpOp;simp only [zr,Gq eJ,if_true];left;have xv:∀ j,Cl cl i j->Cl cl j i->False:=fun j a b=>jG (hi.qW hs (tA j a) b).1
       have Lk:∀ t∈ru o.op.operands.toList,bp (bK al r) t=bp (bK (dC L al) r) t:=by
        intro t ht;have DJ:t∈jq all o:=by unfold jq;exact List.mem_append_right _ ht
        refine La hi hs (qY t DJ) (zp hi hs ho (fun x hx=>(pT.1 hx).1) ?_ ?_ t DJ) xv
        ·intro j hj;exact ⟨tA j hj,fun x hx DF=>pT.2 ⟨hx,by rw [DF];exact rV j hj⟩⟩
        intro x hx jV;exact jG (hi.qW hs (hi.gL x (pT.1 hx).1).1 jV).1
       -- the heap behind it
       have vI:gN P c.own c.lc o.dst (bK (dC L al) r) h (fun v h'=>(fT n o.dst [] v (bK al r) fun r'=>sz P c n all cl K rest nf r' h')/\(sy o.op=true->∃ x,h'=x::h)/\(calm (bK al r) o.op=true->Kept h h')) o.op:=by
        have oV:gN P c.own c.lc o.dst (bK al r) h (fun v h'=>(fT n o.dst [] v (bK al r) fun r'=>sz P c n all cl K rest nf r' h')/\(calm (bK al r) o.op=true->Kept h h')) o.op:=by
         by_cases fK:calm (bK al r) o.op=true
         ·exact oa (fun v h' hh=>⟨hh.1,fun _=>hh.2⟩) (Rp fK hr)
         exact oa (fun v h' hh=>⟨hh,fun hy=>absurd hy fK⟩) hr
        have qM:=QZ Lk oV;by_cases jy:sy o.op=true
        ·have:=YM jy qM;exact oa (fun v h' hh=>⟨hh.1.1,fun _=>hh.2,hh.1.2⟩) this
        exact oa (fun v h' hh=>⟨hh.1,fun hy=>absurd hy jy,hh.2⟩) qM
       refine Kf vI hc ?_;rintro v h' g' u w' ⟨jD,hx,Bk⟩ cV cN aF
       have DK:∀ k'∈kn,(L.setIfInBounds i true).getD k' false=false->∃ o g v Rk,all[k']?=some o/\dN P all Rk h' (fun g' v'=>g'=g/\v'=v) o /\
         (∀ t∈jq all o,mD all cl al r k' t (bp Rk t)) /\
         (∀ d,o.dst=some d->(k',d,g,v)∈al/\d<n/\(∀ e∈g,e.1≠d)/\∀ t gg v,bp r t=some (gg,v)->∀ e∈gg,e.1≠d) /\
         (k' ∉ nf->∀ h',dN P all Rk h' (fun g' v'=>g'=g/\v'=v) o):=by
        intro k' bq fF
        have hl:L.getD k' false=false:=by
         cases hb:L.getD k' false with
         | false=>rfl
         | true=>rw [getD_set_true hb] at fF;cases fF
        obtain ⟨o',g2,v2,Rk,q1,q2,q3,q4,q5⟩:=hi.fact k' bq hl;refine ⟨o',g2,v2,Rk,q1,?_,q3,q4,q5⟩;by_cases jy:sy o.op=true
        ·obtain ⟨x,rfl⟩:=hx jy;exact GV (fun g K hh=>QY hh) q2
        simp only [jy] at DI;by_cases fK:calm (bK al r) o.op=true
        ·simp only [fK] at DI;by_cases xx:k'∈nf
         ·rcases GY DI k' xx with h1|⟨o2,h1,h2⟩
          ·have:=rV k' h1;rw [hl] at this;cases this
          rw [q1] at h1;cases h1
          exact GV (fun g K hh=>Rn h2 (Bk fK) hh) q2
         exact q5 xx h'
        simp only [fK] at DI;by_cases xx:k'∈nf
        ·have:=rV k' (Rl DI k' xx);rw [hl] at this;cases this
        exact q5 xx h'
       have DL:∀ {p:Prop},(L.setIfInBounds i true).getD i false=false->p:=by intro p hh;have:(L.setIfInBounds i true).getD i false=true:=(by simp [aI]);rw [this] at hh;cases hh
       have AL:∀ r2 h2 g2 a2 w2,K r2 h2->bN n X g2 r2 h2 a2 w2->Step X g' h' w' g2 h2 w2->Q .normal a2 w2:=
        fun r2 h2 g2 a2 w2 hK ck nc=>hf r2 h2 g2 a2 w2 hK ck (aF.trans hc.cw.own nc)
       have zm:pU all.length (L.setIfInBounds i true)<=fuel:=by have:=DE oc hi.kO.symm jv;omega
       cases hd:o.dst with
       | none=>
         rw [hd] at jD;have dO:=hi.enter (n:=n) (P:=P) (g:=[]) (v:=v) (eB:=al) (qX:=nf) (h':=h') (L':=L.setIfInBounds i true) hs ho (by rw [hd]) (by simp) (.inr ⟨rfl,he⟩) DK DL;refine IH rest _ nf al h' _ g' _ w' dO jD ?_ zm AL;have hE:dC (L.setIfInBounds i true) al=dC L al:=by unfold dC;refine List.filter_congr fun x hx=>?_;exact getD_set_ne false (fun e=>jG (e ▸ (hi.gL x hx).1))
         rw [hE];simpa [Act.put] using hc.step cV aF
       | some d=>
         rw [hd] at jD;unfold fT at jD;simp only at jD;split at jD<;>try contradiction
         rename_i pV;rw [Nat.blt_eq] at pV;split at jD<;>try contradiction
         rename_i qL;have qS:=Bj (wZ qL).2;have dO:=hi.enter (n:=n) (P:=P) (g:=[]) (v:=v) (eB:=(i,d,[],v)::al) (qX:=nf) (h':=h') (L':=L.setIfInBounds i true) hs ho (by rw [hd]) (by simp) (.inr ⟨rfl,he⟩) DK DL;refine IH rest _ nf ((i,d,[],v)::al) h' _ g' _ w' dO jD ?_ zm AL;have hE:dC (L.setIfInBounds i true) ((i,d,[],v)::al)=(i,d,[],v)::dC L al:=by unfold dC;have h1:(L.setIfInBounds i true).getD i false=true:=(by simp [aI]);rw [List.filter_cons,if_pos h1];congr 1;refine List.filter_congr fun x hx=>?_;exact getD_set_ne false (fun e=>jG (e ▸ (hi.gL x hx).1))
         rw [hE];show bN n X g' ((d,[],v)::bK (dC L al) r) h' (a.put (some d) u) w';refine hc.Lc cV aF pV (by simp) ?_ (fun _=>⟨by simp,cN⟩) (fun hh=>absurd (fun e he=>by cases he) hh);intro t gg vv hl e rS xw;rcases Ld hl with ⟨x,hx,ex⟩|hl
         ·obtain ⟨hx,ka⟩:=pT.1 hx;have jV:=hi.path x hx e (by rw [ex];exact rS) i o ho (xw ▸ hd);exact jG (hi.qW hs (hi.gL x hx).1 jV).1
         exact zb qS hl e rS xw
      have:=rV k (DH i Lj);rw [dW] at this;cases this
     -- a quiet one: gone through,not X6 carried out
     obtain ⟨g,v,gw,hE⟩:=KV hr;split at gw<;>try contradiction
     rename_i jm;have jm:=GX jm;obtain ⟨jH,pW⟩:∃ jH,jH=(match rv (bK al r) g o.op with|true=>nf|false=>k::nf):=⟨_,rfl⟩
     have xy:k ∉ jH->∀ h',dN P all (bK al r) h' (fun g' v'=>g'=g/\v'=v) o:=by
      intro bq h';rw [pW] at bq;split at bq
      ·rename_i DM;exact KW DM hE
      simp at bq
     have DN:∀ x∈nf,x∈jH:=by
      intro x hx;rw [pW];split
      ·exact hx
      exact List.mem_cons_of_mem _ hx
     have hold:∀ k'∈kn,L.getD k' false=false->∃ o g v Rk,all[k']?=some o/\dN P all Rk h (fun g' v'=>g'=g/\v'=v) o /\
         (∀ t∈jq all o,mD all cl al r k' t (bp Rk t)) /\
         (∀ d,o.dst=some d->(k',d,g,v)∈al/\d<n/\(∀ e∈g,e.1≠d)/\∀ t gg v,bp r t=some (gg,v)->∀ e∈gg,e.1≠d) /\
         (k' ∉ jH->∀ h',dN P all Rk h' (fun g' v'=>g'=g/\v'=v) o):=by
      intro k' bq fF;obtain ⟨o',g2,v2,Rk,q1,q2,q3,q4,q5⟩:=hi.fact k' bq fF;exact ⟨o',g2,v2,Rk,q1,q2,q3,q4,fun hh=>q5 fun hm=>hh (DN _ hm)⟩
     cases hd:o.dst with
     | none=>
       rw [hd] at gw
       have dO:=hi.enter (n:=n) (P:=P) (g:=g) (v:=v) (eB:=al) (qX:=jH) (h':=h) (L':=L) hs ho (by rw [hd]) jm (.inl rfl) hold
        (fun _=>⟨o,g,v,bK al r,ho,hE,qY,fun d cZ=>(by rw [hd] at cZ;cases cZ),xy⟩)
       exact vW _ _ al h L g0 a w dO (by rw [pW];exact gw) hc hu hf
     | some d=>
       rw [hd] at gw;unfold fT at gw;simp only at gw;split at gw<;>try contradiction
       rename_i pV;rw [Nat.blt_eq] at pV;split at gw<;>try contradiction
       rename_i qL;obtain ⟨jS,dL⟩:=wZ qL;have qS:=Bj dL
       have dO:=hi.enter (n:=n) (P:=P) (g:=g) (v:=v) (eB:=(k,d,g,v)::al) (qX:=jH) (h':=h) (L':=L) hs ho (by rw [hd]) jm (.inl rfl) hold
        (fun _=>⟨o,g,v,bK al r,ho,hE,fun t ht=>(qY t ht).more (fun x hx=>List.mem_cons_of_mem _ hx),
          fun d' cZ=>(by rw [hd] at cZ;cases cZ;exact ⟨List.mem_cons_self,pV,jS,fun t gg vv hl=>zb qS hl⟩),xy⟩)
       refine vW _ _ ((k,d,g,v)::al) h L g0 a w dO (by rw [pW];exact gw) ?_ hu hf;have hE:dC L ((k,d,g,v)::al)=dC L al:=by unfold dC;rw [List.filter_cons,if_neg (by simp only [dW];exact Bool.false_ne_true)]
       rw [hE];exact hc
end Go.Abs
/-
 The abstract fS,part R: the BP ND xV the code does;loops;functions.
-/
namespace Go.Abs
open Go
variable {P:Program} {n:Nat} {X:Nat->Prop} {g0:Gh} {r:aC} {h:af} {a:Act} {w:World}
theorem YY {l1 l2:af} {b d:Nat} {cs:List AV} (hc:bN n X g0 r (l1++(b,.vec cs)::l2) a w) (hl:bp r d=some ([],.bj b 0)) :
  bN n X g0 ((d,[],.au cs)::r) (l1++l2) a w/\Step X g0 (l1++(b,.vec cs)::l2) w g0 (l1++l2) w:=by
 have cx:di a []:=fun e he=>by cases he
 obtain ⟨s1,s2⟩:=hc.cw.sub (h':=l1++l2) (by
   intro k o hm;simp only [List.mem_append,List.mem_cons] at hm ⊢;rcases hm with h|h
   ·exact .inl h
   ·exact .inr (.inr h)) (by
   have:=hc.cw.nodup;rw [uq] at this;simp only [keys,List.map_append,List.nodup_append,List.nodup_cons,List.mem_cons] at this ⊢;exact ⟨this.1,this.2.1.2,fun x hx y hy=>this.2.2 x hx y (.inr hy)⟩)
 refine ⟨⟨s1,?_,hc.defers,hc.size⟩,s2⟩;have ck:=hc.step s1 s2;have De:=hc.cw.sY;have Df:=hc.cw.sep b (by rw [jn];exact .inl rfl);have jC:=hc.cw.obj b (.vec cs) (by simp);intro t gg v' fF;rw [qU] at fF;split at fF
 ·rename_i ht;subst ht;cases fF
  refine ⟨fun _=>⟨by simp,?_⟩,fun hh=>absurd cx hh⟩;obtain ⟨_,u,xa,js⟩:=(hc.lz _ _ _ hl).1 cx;rw [aa] at js;obtain ⟨p,q1,q2,q3⟩:=js;refine ⟨u,xa,?_⟩;rw [aa];refine ⟨p.block,p.off+0,q3,?_⟩;obtain ⟨pp,sq,t2,h1,h2,h3,h4,h5,h6⟩:=jC;simp only at h1 h3 h4 q1;rw [q1] at h1;cases h1
  have key:∀ (l':List AV) (o:Nat),(∀ i x,l'[i]?=some x->∃ u,sq[p.off+(o+i)]?=some u/\u.oneCell'=true/\aa ⟨g0,live X (l1++(b,.vec cs)::l2),w⟩ x u) ->
    bA ⟨g0,live X (l1++l2),w⟩ l' p.block (p.off+o):=by
   intro l';induction l' with
   | nil=>intro o _;simp [bA]
   | cons x l' ih=>
     intro o hh;simp only [bA];obtain ⟨u,e1,e2,e3⟩:=hh 0 x (by simp);refine ⟨⟨u,?_,e2,?_,aa.mono (Step.le s2) _ _ e3⟩,?_⟩
     ·rw [cell_of_row _ p.block _ sq t2 _ h4];simpa using e1
     ·intro k s hk xd;simp only at hk;rw [h3] at hk;cases hk
      rcases xd with hx|hk
      ·exact absurd hx Df
      exact absurd hk De
     rw [show p.off+o+1=p.off+(o+1) from rfl];refine ih (o+1) (fun i x hx=>?_);have:=hh (i+1) x (by simpa using hx);rwa [show o+(i+1)=o+1+i from by omega] at this
  exact key cs 0 (fun i x hx=>by simpa using h6 i x hx)
 exact ck.lz t gg v' fF
theorem Ll {K:aC->af->Prop}:∀ {ds:List Nat} {r:aC} {h:af} {w:World},tW K ds r h->bN n X g0 r h a w->∃ r' h',K r' h'/\bN n X g0 r' h' a w/\Step X g0 h w g0 h' w
 | [],r,h,w,hk,hc=>⟨r,h,hk,hc,Step.refl _ _ _ _⟩
 | d::ds,r,h,w,hk,hc=>by
   unfold tW at hk;split at hk<;>try contradiction
   rename_i b hl;obtain ⟨cs,h',hu,hk⟩:=hk;obtain ⟨l1,l2,rfl,rfl⟩:=bo.split hu;obtain ⟨c1,s1⟩:=YY hc hl;obtain ⟨r2,h2,k1,k2,k3⟩:=Ll hk c1;exact ⟨r2,h2,k1,k2,s1.trans hc.cw.own k3⟩
theorem zs {c:az} (hm:P.follows .mixedOrders=true):∀ (code:Code) {Q:Ex->aC->af->Prop} {r:aC} {h:af},cw P c n X code Q r h->Holds P n X code Q r h:=by
 intro code;induction code with
 | skip=>intro Q r h hh;refine ⟨fun g a w hc=>?_⟩;exact wp_skip ⟨.normal,g,r,h,rfl,hh,hc,Step.refl _ _ _ _⟩
 | region id ops draw=>
   intro Q r h hh;cases draw with
   | true=>
     have hh:(match BU c.EW id with
      | some (ord,fz)=>aP ops.toList ord=true /\
         sz P c n ops.toList (je ops.toList []) (fun r' h'=>tW (fun sA qx=>pk sA (fun r3=>Q .normal r3 qx) c.mM) fz r' h') ord [] r h
      | none=>Holds P n X (.region id ops true) Q r h):=hh
     split at hh
     ·rename_i ord fz nK;obtain ⟨bf,vG⟩:=hh;refine ⟨fun g a w hc=>?_⟩;refine wp_region_any hm ?_;obtain ⟨dc,ds⟩:=hc.cw.drew;have hs:=Rc bf;have bQ:bN n X g r h a w.drew:=hc.step dc ds
      have hi:iD n P ops.toList (je ops.toList []) ord r [] ord [] [] h (Array.replicate ops.size false):=by
       have cN:∀ i,(Array.replicate ops.size false).getD i false=false:=by intro i;by_cases hi:i<ops.size<;>simp [hi]
       refine ⟨rfl,by simp,?_,?_,by simp,by simp,by simp,by simp,by simp⟩
       ·intro i hL;rw [cN i] at hL;cases hL
       intro i hL;rw [cN i] at hL;cases hL
      have:=Li (n:=n) (X:=X) (r:=r) (c:=c) (Q:=fun e a' w'=>∃ ex g' r' h',e=Ex.toExit ex/\Q ex r' h'/\bN n X g' r' h' a' w'/\Step X g h w g' h' w') hs ops.size ord [] [] [] h
       (Array.replicate ops.size false) g a w.drew hi vG bQ (by unfold pU;exact Nat.le_trans (List.length_filter_le _ _) (by simp)) (by
         intro r' h' g' a' w' hK ck aF;obtain ⟨r2,h2,hK,od,DO⟩:=Ll hK ck;obtain ⟨r3,hK,hl⟩:=AP (k:=fun r3=>Q .normal r3 h2) hK;exact ⟨.normal,g',r3,h2,rfl,hK,od.less hl,ds.trans hc.cw.own (aF.trans bQ.cw.own DO)⟩)
      exact this
     exact hh
   | false=>
     refine ⟨fun g a w hc=>?_⟩;have hh:lx P c n ops.toList (Q .normal) ops.toList r h:=hh;refine wp_region ?_
     have:=PR (Q:=fun e a' w'=>∃ ex g' r' h',e=Ex.toExit ex/\Q ex r' h'/\bN n X g' r' h' a' w'/\Step X g h w g' h' w') ops.toList 0 r h g a w (fun j=>by simp) hh hc
      (fun r' h' g' a' w' hK bQ aF=>⟨.normal,g',r',h',rfl,hK,bQ,aF⟩)
     simpa [List.range_eq_range'] using this
 | seq x y YZ Za=>
   intro Q r h hh;refine ⟨fun g a w hc=>?_⟩;refine wp_seq (wp_mono ((YZ hh).holds g a w hc) ?_);rintro e a' w' ⟨ex,g',r',h',rfl,hQ,bQ,aF⟩;cases ex with
   | normal=>
     refine wp_mono ((Za hQ).holds g' a' w' bQ) ?_;rintro e a2 w2 ⟨ex,g2,r2,h2,rfl,hQ,ck,nc⟩;exact ⟨ex,g2,r2,h2,rfl,hQ,ck,aF.trans hc.cw.own nc⟩
   | exit i=>exact ⟨.exit i,g',r',h',rfl,hQ,bQ,aF⟩
   | ret=>exact ⟨.ret,g',r',h',rfl,hQ,bQ,aF⟩
 | cond x t f xz tB=>
   intro Q r h hh;refine ⟨fun g a w hc=>?_⟩;simp only [cw] at hh;split at hh<;>try contradiction
   rename_i b hx;have hr:=hc.aK (g:=[]) (fun e he=>by cases he) hx;rw [aa] at hr;refine wp_cond_split hr (fun hb=>(xz (hh.1 hb)).holds g a w hc) (fun hb=>(tB (hh.2 hb)).holds g a w hc)
 | block id x ih=>
   intro Q r h hh;refine ⟨fun g a w hc=>?_⟩;refine wp_block (wp_mono ((ih hh).holds g a w hc) ?_);rintro e a' w' ⟨ex,g',r',h',rfl,hQ,bQ,aF⟩;cases ex with
   | normal=>exact ⟨.normal,g',r',h',rfl,hQ,bQ,aF⟩
   | exit i=>
     simp only at hQ;simp only [Ex.toExit,Exit.inBlock];split at hQ
     ·rename_i hi;rw [if_pos (Nat.eq_of_beq_eq_true hi)];exact ⟨.normal,g',r',h',rfl,hQ,bQ,aF⟩
     rename_i hi;rw [if_neg (fun e=>by subst e;rw [Nat.beq_refl] at hi;cases hi)];exact ⟨.exit i,g',r',h',rfl,hQ,bQ,aF⟩
   | ret=>exact ⟨.ret,g',r',h',rfl,hQ,bQ,aF⟩
 | loop x ih=>intro Q r h hh;exact hh
 | exit i=>intro Q r h hh;refine ⟨fun g a w hc=>?_⟩;exact wp_exit ⟨.exit i,g,r,h,rfl,hh,hc,Step.refl _ _ _ _⟩
 | ret=>intro Q r h hh;refine ⟨fun g a w hc=>?_⟩;exact wp_ret ⟨.ret,g,r,h,rfl,hh,hc,Step.refl _ _ _ _⟩
 | _=>intro Q r h hh;exact hh.elim
def xA:List (Nat × Nat)->aC->af->(aC->af->Prop)->Prop
 | [],r,h,K=>K r h
 | (t,k)::l,r,h,K=>match bp r t with
   | some ([],.aT)=>0<k/\∀ q,xA l ((t,[],.sl k (some q) [])::r) ((q,.tok)::h) K
   | _=>xA l r h K
theorem Lm {K:aC->af->Prop}:∀ {l:List (Nat × Nat)} {r:aC} {h:af} {w:World},xA l r h K->bN n X g0 r h a w->∃ r' h',K r' h'/\bN n X g0 r' h' a w/\Step X g0 h w g0 h' w
 | [],r,h,w,hk,hc=>⟨r,h,hk,hc,Step.refl _ _ _ _⟩
 | (t,k)::l,r,h,w,hk,hc=>by
   have cx:di a []:=fun e he=>by cases he
   unfold xA at hk;split at hk
   ·rename_i hl;obtain ⟨iO,hk⟩:=hk;obtain ⟨q,c1,s1⟩:=hc.cw.Gg;have eO:=hc.step c1 s1
    have ck:bN n X g0 ((t,[],.sl k (some q) [])::r) ((q,.tok)::h) a w:=by
     refine ⟨c1,fun t' gg v' fF=>?_,hc.defers,hc.size⟩;rw [qU] at fF;split at fF
     ·rename_i ht;subst ht;cases fF
      refine ⟨fun _=>⟨by simp,?_⟩,fun hh=>absurd cx hh⟩;obtain ⟨_,u,xa,js⟩:=(hc.lz _ _ _ hl).1 cx;refine ⟨u,xa,?_⟩;rw [aa] at js;subst js;simp only [aa];exact ⟨none,0,by simp,by simp,by simp,iO,by simp,by simp,by simp,fun _ _=>.inl rfl⟩
     exact eO.lz t' gg v' fF
    obtain ⟨r2,h2,k1,k2,k3⟩:=Lm (hk q) ck;exact ⟨r2,h2,k1,k2,s1.trans hc.cw.own k3⟩
   exact Lm hk hc
def mF (ks:List Nat) (ts:List (Nat × Nat)) (J:aC->af->Prop) (r:aC) (h:af):Prop:=
 xA ts r h fun r' h'=>pk r' (fun sA=>J sA h') ks
theorem Rr {ks:List Nat} {ts:List (Nat × Nat)} {J:aC->af->Prop} (hh:mF ks ts J r h) (hc:bN n X g0 r h a w) :
  ∃ r' h',J r' h'/\bN n X g0 r' h' a w/\Step X g0 h w g0 h' w:=by
 obtain ⟨r1,h1,k1,c1,s1⟩:=Lm hh hc;obtain ⟨r2,k2,hl⟩:=AP (k:=fun sA=>J sA h1) k1;exact ⟨r2,h1,k2,c1.less hl,s1⟩
theorem GZ {S:Nat->Prop} (h:∃ m,S m):∃ m,S m/\∀ k,S k->m<=k:=by
 obtain ⟨m,hm⟩:=h;induction m using Nat.strongRecOn with
 | _ m ih=>
   by_cases hk:∃ k,k<m/\S k
   ·obtain ⟨k,aI,hS⟩:=hk;exact ih k aI hS
   exact ⟨m,hm,fun k hS=>Nat.le_of_not_lt fun aI=>hk ⟨k,aI,hS⟩⟩
theorem Ln (ks:List Nat) (ts:List (Nat × Nat)) (J:Nat->aC->af->Prop) {body:Code} {Q:Ex->aC->af->Prop} (h0:mF ks ts (fun r h=>∃ m,J m r h) r h)
  (hb:∀ m r h,J m r h->Holds P n X body (fun e r' h'=>match e with
    | .normal=>mF ks ts (fun r h=>∃ m',m'<m/\J m' r h) r' h'
    | e=>Q e r' h') r h):Holds P n X (.loop body) Q r h:=by
 refine ⟨fun g a w hc=>?_⟩
 classical
 let S:Nat->Act->World->Prop:=fun m a' w'=>∃ g' r' h',J m r' h'/\bN n X g' r' h' a' w'/\Step X g h w g' h' w'
 let I:Act->World->Prop:=fun a' w'=>∃ m,S m a' w'
 let μ:Act->World->Nat:=fun a' w'=>if hI:∃ m,S m a' w' then Classical.choose (GZ hI) else 0
 have Zb:I a w:=by obtain ⟨r',h',⟨m,hJ⟩,bQ,aF⟩:=Rr h0 hc;exact ⟨m,g,r',h',hJ,bQ,aF⟩
 refine wp_loop I μ Zb ?_;intro a1 w1 Lo;have hμ:μ a1 w1=Classical.choose (GZ Lo):=by simp only [μ];rw [dif_pos Lo]
 obtain ⟨g1,r1,h1,hJ,eO,Zc⟩:=(Classical.choose_spec (GZ Lo)).1;rw [<- hμ] at hJ;refine wp_mono ((hb _ r1 h1 hJ).holds g1 a1 w1 eO) ?_;rintro e a2 w2 ⟨ex,g2,r2,h2,rfl,hQ,ck,nc⟩;have Lp:=Zc.trans hc.cw.own nc;cases ex with
 | normal=>
   obtain ⟨r3,h3,⟨m',aI,Zd⟩,od,DO⟩:=Rr hQ ck;have hS:S m' a2 w2:=⟨g2,r3,h3,Zd,od,Lp.trans hc.cw.own DO⟩;refine ⟨⟨m',hS⟩,?_⟩;have Rs:∃ m,S m a2 w2:=⟨m',hS⟩;have:μ a2 w2<=m':=by simp only [μ];rw [dif_pos Rs];exact (Classical.choose_spec (GZ Rs)).2 m' hS
   omega
 | exit i=>exact ⟨.exit i,g2,r2,h2,rfl,hQ,ck,Lp⟩
 | ret=>exact ⟨.ret,g2,r2,h2,rfl,hQ,ck,Lp⟩
def Bl:Nat->List AV->aC
 | _,[]=>[]
 | i,x::xs=>(i,[],x)::Bl (i+1) xs
def zt (P:Program) (r:aC) (h:af):List ResultVar->(List AV->Prop)->Prop
 | [],K=>K []
 | .tmp t::l,K=>match aK r [] (.tmp t) with
   | some v=>zt P r h l fun vs=>K (v::vs)
   | none=>False
 | .cell b t::l,K=>match aK r [] (.tmp b) with
   | some (.au cs)=>gy P t cs fun v=>zt P r h l fun vs=>K (v::vs)
   | some (.bj b o)=>∃ cs l',(b,Ob.vec cs)∈h/\jd o cs=some l'/\gy P t l' fun v=>zt P r h l fun vs=>K (v::vs)
   | _=>False
def Rt (R:AV->af->Prop) (h:af):List AV->Prop
 | [v]=>R v h
 | vs=>R (.aH vs) h
def Lq (P:Program) (fn:Func) (r:aC) (h:af) (R:AV->af->Prop):Prop:=zt P r h fn.results.toList (Rt R h)
end Go.Abs
/-
 The abstract fS,part S: functions.
-/
namespace Go.Abs
open Go
variable {P:Program} {n:Nat} {X:Nat->Prop} {g0:Gh} {r:aC} {h:af} {a:Act} {w:World}
theorem Lr (hc:bN n X g0 r h a w):∀ {l:List ResultVar} {K:List AV->Prop},zt P r h l K ->
  ∃ (vs:List AV) (us:List Value),K vs/\(l.mapM (m:=Sem) fun|.tmp t=>pure (a.tmps.getD t undef)|.cell b t=>do loadVar t (<- asAddr (a.tmps.getD b undef))).run P w=.ok us w/\ax ⟨g0,live X h,w⟩ vs us
 | [],K,hr=>⟨[],[],hr,by simp,by simp [ax]⟩
 | .tmp t::l,K,hr=>by
   unfold zt at hr;split at hr<;>try contradiction
   rename_i v hv;obtain ⟨vs,us,hK,h1,h2⟩:=Lr hc hr;have cN:=hc.aK (g:=[]) (fun e he=>by cases he) hv;refine ⟨v::vs,a.tmps.getD t undef::us,hK,?_,?_⟩
   ·simp only [List.mapM_cons,Sem.run_bind,Sem.run_pure,Result.andThen,h1]
   simp only [ax];exact ⟨_,_,rfl,by simpa [Act.eval] using cN,h2⟩
 | .cell b t::l,K,hr=>by
   unfold zt at hr;split at hr<;>try contradiction
   all_goals
    rename_i hb;have cN:=hc.aK (g:=[]) (fun e he=>by cases he) hb;obtain ⟨z,s,hz,h2,h3⟩:=NF (t:=t) hc.cw cN hr;obtain ⟨vs,us,hK,h1,h4⟩:=Lr hc hz
    have hp:∃ ad,a.eval (.tmp b)=.pointer (some ad):=by
     rw [aa] at cN
     first
      | (obtain ⟨x,y,e,_⟩:=cN;exact ⟨_,e⟩)
      | (obtain ⟨x,_,_,e⟩:=cN;exact ⟨_,e⟩)
    obtain ⟨ad,hp⟩:=hp;rw [hp] at h3;have aY:a.tmps.getD b undef=.pointer (some ad):=(by simpa [Act.eval] using hp);have has:(asAddr (.pointer (some ad))).run P w=.ok ad w:=(by simp [asAddr]);have Ze:(loadVar t ad).run P w=.ok s w:=(by simpa [Instr.loadAt,Instr.sureAddr] using h3);refine ⟨z::vs,s::us,hK,?_,?_⟩
    ·simp only [List.mapM_cons,Sem.run_bind,Sem.run_pure,aY,has,Result.andThen,Ze,h1]
    simp only [ax];exact ⟨_,_,rfl,h2,h4⟩
theorem Ha {fn:Func} {R:AV->af->Prop} (hc:bN n X g0 r h a w) (hr:Lq P fn r h R):∃ v u,R v h/\(results fn a.tmps).run P w=.ok u w/\aa ⟨g0,live X h,w⟩ v u:=by
 obtain ⟨vs,us,hK,h1,h2⟩:=Lr (P:=P) hc hr
 have key:(results fn a.tmps).run P w=.ok (if h:us.length=1 then us[0] else .tuple us.toArray) w:=by
  unfold results;rw [Array.mapM_eq_mapM_toList];simp only [Sem.run_bind,Sem.run_pure,Sem.run_map,map_eq_pure_bind,Result.andThen]
  erw [h1]
  simp
 rw [key];have hl:=h2.length;unfold Rt at hK;split at hK
 ·rename_i v;simp only [ax] at h2;obtain ⟨u,rr,rfl,h3,rfl⟩:=h2;exact ⟨v,u,hK,by simp,h3⟩
 rename_i aJ
 have:us.length≠1:=by
  intro e;rw [e] at hl
  match vs,hl,aJ with
  | [v],_,aJ=>exact aJ v rfl
 rw [dif_neg this];exact ⟨.aH vs,.tuple us.toArray,hK,rfl,by simp only [aa];exact ⟨_,rfl,by simpa using h2⟩⟩
theorem Ls {t:Nat} {gg:G} {v:AV}:∀ {xs:List AV} {i:Nat},bp (Bl i xs) t=some (gg,v)->gg=[]/\i<=t/\xs[t - i]?=some v
 | [],i,h=>by cases h
 | x::xs,i,h=>by
   unfold Bl at h;unfold bp at h;split at h
   ·rename_i hb;have hb:=Nat.eq_of_beq_eq_true hb;subst hb;cases h
    exact ⟨rfl,Nat.le_refl _,by simp⟩
   obtain ⟨h1,h2,h3⟩:=Ls h;refine ⟨h1,by omega,?_⟩;rw [show t - i=(t - (i+1))+1 from by omega];simpa using h3
def DP (P:Program) (fn:Func) (R:AV->af->Prop):Ex->aC->af->Prop
 | .normal,r,h=>Lq P fn r h R
 | .ret,r,h=>Lq P fn r h R
 | .exit _,_,_=>False
theorem tC {f:FuncId} {fn:Func} {c:az} {code:Code} {args:List AV} {R:AV->af->Prop} (hf:P.funcs[f]?=some fn) (hb:fn.body=some code) (Cv:(fn.name == "runtime.NumGoroutine")=false)
  (hm:P.follows .mixedOrders=true) (hn:args.length<=fn.ntmps) (cV:∀ X,cw P c fn.ntmps X code (DP P fn R) (Bl 0 args) h):aB P f args h R:=by
 refine ⟨fun X g w us hc hr=>.inl ⟨⟨fn,code,hf,hb,Cv⟩,?_⟩⟩;have hlen:=hr.length;simp at hlen;refine calls_of_wp hf hb (wp_mono ((zs (n:=fn.ntmps) hm code (cV X)).holds g _ w ⟨hc,?_,rfl,by simp;omega⟩) ?_)
 ·intro t gg v hl;obtain ⟨rfl,_,hx⟩:=Ls hl;obtain ⟨u,hu,cN⟩:=hr.get t v (by simpa using hx);refine ⟨fun _=>⟨by simp,u,?_,cN⟩,fun hh=>absurd (fun e he=>by cases he) hh⟩;have dA:us[t]?=some u:=(by simpa using hu);have:=(Array.getElem?_eq_some_iff.1 dA).1;rw [Array.getElem?_append_left this];exact dA
 rintro e a' w' ⟨ex,g',r',h',rfl,hQ,bQ,aF⟩;cases ex with
 | normal=>
   obtain ⟨v,u,h1,h2,h3⟩:=Ha (P:=P) bQ hQ;exact ⟨bQ.defers,u,h2,v,u,g',h',rfl,h1,bQ.cw,h3,aF⟩
 | ret=>
   obtain ⟨v,u,h1,h2,h3⟩:=Ha (P:=P) bQ hQ;exact ⟨bQ.defers,u,h2,v,u,g',h',rfl,h1,bQ.cw,h3,aF⟩
 | exit i=>exact hQ.elim
theorem ae.k {f:FuncId} {vs:List AV} {v:AV} {K:AV->af->Prop} (hq:ae P f vs h v) (hk:K v h):aB P f vs h K:=
 aB.mono (by rintro v' h' ⟨rfl,rfl⟩;exact hk) hq
theorem ae.k0 {f:FuncId} {vs:List AV} {v:AV} {K:AV->af->Prop} (hq:ae P f vs [] v) (hk:K v h):aB P f vs h K:=(hq.wide h).k hk
theorem Hb {c:az} (hm:P.follows .mixedOrders=true) (ks:List Nat) (ts:List (Nat × Nat)) (J:Nat->aC->af->Prop) {body:Code} {Q:Ex->aC->af->Prop} (h0:mF ks ts (fun r h=>∃ m,J m r h) r h)
  (hb:∀ m r h,J m r h->cw P c n X body (fun e r' h'=>match e with
    | .normal=>mF ks ts (fun r h=>∃ m',m'<m/\J m' r h) r' h'
    | e=>Q e r' h') r h):Holds P n X (.loop body) Q r h:=
 Ln ks ts J h0 fun m r h hJ=>zs hm _ (hb m r h hJ)
def ints (l:List Int):List (List AV):=l.map fun x=>[AV.int .i64 x]
@[simp] theorem cg (l:List Int):(ints l).length=l.length:=by simp [ints]
theorem Ru {l:List Int} {j:Nat} {x:Int} (h:l[j]?=some x):(ints l)[j]?=some [AV.int .i64 x]:=by simp [ints,h]
end Go.Abs
/-
 The abstract fS,part T: the BP again,Nd X7 in a Vb code instead of the code X8,so that a goal stays small.
-/
namespace Go.Abs
open Go
def child:Bool->Code->Code
 | false,.seq a _=>a
 | true,.seq _ b=>b
 | false,.cond _ a _=>a
 | true,.cond _ _ b=>b
 | _,.block _ a=>a
 | _,.loop a=>a
 | _,_=>.skip
def Lt (F:Func):Code:=match F.body with|some c=>c|none=>.skip
def cat (F:Func):List Bool->Code
 | []=>Lt F
 | b::p=>child b (cat F p)
def aN (F:Func) (p:List Bool):List Oper:=match cat F p with|.region _ ops _=>ops.toList|_=>[]
theorem rW {n:Nat} {d:Option Nat} {g:G} {v:AV} {r:aC} {K K':aC->Prop} (hk:∀ r,K r->K' r) (h:fT n d g v r K):fT n d g v r K':=by
 cases d with
 | none=>exact hk _ h
 | some d=>
   unfold fT at h ⊢;simp only at h ⊢;cases h1:Nat.blt d n with
   | false=>rw [h1] at h;exact h.elim
   | true=>
     rw [h1] at h;simp only at h ⊢;cases h2:pj ((d,g,v)::r) d with
     | false=>rw [h2] at h;exact h.elim
     | true=>rw [h2] at h;exact hk _ h
theorem Rv {P:Program} {r:aC} {h:af} {t:TypeId} {d:Nat} {y:Operand} {K K':aC->af->Prop} (hk:∀ r h,K r h->K' r h) (hs:yd P r h t d y K):yd P r h t d y K':=by
 unfold yd at hs ⊢;split at hs<;>try contradiction
 split at hs<;>try contradiction
 split at hs<;>try contradiction
 split at hs<;>try contradiction
 obtain ⟨cs,h',a,b,e⟩:=hs;exact ⟨cs,h',a,b,hk _ _ e⟩
theorem zu {r:aC} {k k':aC->Prop} (hk:∀ r,k r->k' r):∀ {ts:List Nat},pk r k ts->pk r k' ts
 | [],h=>hk _ h
 | t::ts,h=>by
   unfold pk at h ⊢;split at h
   ·exact zu (fun l hl=>hk _ hl) h
   exact zu hk h
theorem Rw {K K':aC->af->Prop} (hk:∀ r h,K r h->K' r h):∀ {ds:List Nat} {r:aC} {h:af},tW K ds r h->tW K' ds r h
 | [],r,h,hh=>hk _ _ hh
 | d::ds,r,h,hh=>by
   unfold tW at hh ⊢;split at hh<;>try contradiction
   obtain ⟨cs,h',a,b⟩:=hh;exact ⟨cs,h',a,Rw hk b⟩
theorem Lu {P:Program} {all:List Oper} {r:aC} {h:af} {K K':G->AV->Prop} {o:Oper} (hk:∀ g v,K g v->K' g v) (hh:dN P all r h K o):dN P all r h K' o:=by
 unfold dN at hh ⊢;split at hh
 ·exact vU (hk _) hh
 split at hh<;>try contradiction
 split at hh<;>try contradiction
 split at hh<;>try contradiction
 exact vU (hk _) hh
def gO (R:aC->af->Prop) (n:Nat) (d:Option Nat) (g:G) (r:aC) (h:af) (v:AV):Prop:=fT n d g v r fun r'=>R r' h
def vX (R:aC->af->Prop) (n:Nat) (d:Option Nat) (r:aC) (v:AV) (h:af):Prop:=fT n d [] v r fun r'=>R r' h
def zw (R:List Nat->aC->af->Prop) (all:List Oper) (i n:Nat) (o:Oper) (nf:List Nat) (r:aC) (h:af) (g:G) (v:AV):Prop:=
 match ye (je all []) all i g with
 | true=>fT n o.dst g v r fun r'=>R (match rv r g o.op with|true=>nf|false=>i::nf) r' h
 | false=>False
def vY (P:Program) (c:az) (n:Nat) (all:List Oper) (K:aC->af->Prop):List Nat->List Nat->aC->af->Prop
 | [],_,r,h=>K r h
 | i::rest,nf,r,h=>match all[i]? with
   | none=>False
   | some o=>match Ae c o with
     | true=>(match o.guard with
       | none=>(match BS (je all []) i rest with
         | true=>(match (match sy o.op with|true=>true|false=>(match calm r o.op with|true=>uV (je all []) all i nf|false=>BT (je all []) i nf)) with
           | true=>gN P c.own c.lc o.dst r h (vX (vY P c n all K rest nf) n o.dst r) o.op
           | false=>False)
         | false=>False)
       | some _=>False)
     | false=>dN P all r h (zw (vY P c n all K rest) all i n o nf r h) o
theorem Bm {P:Program} {c:az} {n:Nat} {all:List Oper} {K K':aC->af->Prop} (hk:∀ r h,K r h->K' r h):∀ {l nf:List Nat} {r:aC} {h:af},vY P c n all K l nf r h->sz P c n all (je all []) K' l nf r h
 | [],nf,r,h,hh=>hk _ _ hh
 | i::l,nf,r,h,hh=>by
   unfold vY at hh;unfold sz;split at hh<;>try contradiction
   rename_i o ho;split at hh
   ·split at hh<;>try contradiction
    split at hh<;>try contradiction
    split at hh<;>try contradiction
    rename_i h1 _ h2 _ h3 _ h4;simp only [ho,h1,h2,h3];cases ha:sy o.op with
    | true=>exact oa (fun v h'=>rW fun _=>Bm hk) hh
    | false=>
      cases fK:calm r o.op with
      | true=>
        simp only [ha,fK] at h4 ⊢;rw [h4];exact oa (fun v h'=>rW fun _=>Bm hk) hh
      | false=>
        simp only [ha,fK] at h4 ⊢;rw [h4];exact oa (fun v h'=>rW fun _=>Bm hk) hh
   rename_i h1;simp only [ho,h1];refine Lu (fun g v hv=>?_) hh;unfold zw at hv;split at hv<;>try contradiction
   rename_i h2;simp only [h2];exact rW (fun _=>Bm hk) hv
theorem Lv {P:Program} {c:az} {n:Nat} {all:List Oper} {K K':aC->af->Prop} (hk:∀ r h,K r h->K' r h):∀ {l nf:List Nat} {r:aC} {h:af},vY P c n all K l nf r h->vY P c n all K' l nf r h
 | [],nf,r,h,hh=>hk _ _ hh
 | i::l,nf,r,h,hh=>by
   unfold vY at hh ⊢;split at hh<;>try contradiction
   rename_i o ho;split at hh
   ·split at hh<;>try contradiction
    split at hh<;>try contradiction
    split at hh<;>try contradiction
    exact oa (fun v h'=>rW fun _=>Lv hk) hh
   refine Lu (fun g v hv=>?_) hh;unfold zw at hv ⊢;split at hv<;>try contradiction
   exact rW (fun _=>Lv hk) hv
inductive Fr where
 | seq (p:List Bool)
 | aS (id:Nat)
 | head (J:aC->af->Prop)
inductive Mode where
 | go (p:List Bool)
 | op (p:List Bool) (i:Nat)
 | ex (e:Ex)
structure En where
 n:Nat
 X:Nat->Prop
 Q:Ex->aC->af->Prop
def run (P:Program) (c:az) (F:Func) (E:En):Nat->Mode->List Fr->aC->af->Prop
 | 0,_,_,_,_=>False
 | k+1,.ex e,[],r,h=>E.Q e r h
 | k+1,.ex e,.seq p::S,r,h=>(match e with
   | .normal=>run P c F E k (.go p) S r h
   | _=>run P c F E k (.ex e) S r h)
 | k+1,.ex e,.aS id::S,r,h=>(match e with
   | .exit i=>(match Nat.beq i id with
     | true=>run P c F E k (.ex .normal) S r h
     | false=>run P c F E k (.ex (.exit i)) S r h)
   | _=>run P c F E k (.ex e) S r h)
 | k+1,.ex e,.head J::S,r,h=>(match e with
   | .normal=>J r h
   | _=>run P c F E k (.ex e) S r h)
 | k+1,.op p i,S,r,h=>(match (aN F p)[i]? with
   | none=>pk r (fun r'=>run P c F E k (.ex .normal) S r' h) c.mM
   | some o=>match o.guard with
     | none=>(match wA c o.dst o.op with
       | true=>(match o.op,o.dst with
         | .store t (.tmp d) y,none=>(match rp c.Ad d with
           | true=>yd P r h t d y (run P c F E k (.op p (i+1)) S)
           | false=>cE P r h (vX (run P c F E k (.op p (i+1)) S) E.n o.dst r) o.op)
         | _,_=>gN P c.own c.lc o.dst r h (vX (run P c F E k (.op p (i+1)) S) E.n o.dst r) o.op)
       | false=>bM P r [] h (gO (run P c F E k (.op p (i+1)) S) E.n o.dst [] r h) o.op)
     | some (j,w)=>match (aN F p)[j]? with
       | some oj=>(match oj.dst with
         | some tj=>(match bp r tj with
           | some (gj,.bool b)=>(match yc o.op,(match o.dst with|some d=>rp c.Ik d|none=>false) with
             | true,true=>(match gj with
               | []=>(b=w->cE P (tV tj w r) h (vX (run P c F E k (.op p (i+1)) S) E.n o.dst (tV tj w r)) o.op) /\
                  (b≠w->gO (run P c F E k (.op p (i+1)) S) E.n o.dst [(tj,b,w)] r h (.bool false))
               | _=>False)
             | _,_=>(match (match yc o.op with|true=>false|false=>wA c o.dst o.op) with
               | true=>False
               | false=>bM P r (gj++[(tj,b,w)]) h (gO (run P c F E k (.op p (i+1)) S) E.n o.dst (gj++[(tj,b,w)]) r h) o.op))
           | _=>False)
         | none=>False)
       | none=>False)
 | k+1,.go p,S,r,h=>(match cat F p with
   | .skip=>run P c F E k (.ex .normal) S r h
   | .region id _ draw=>(match draw with
     | false=>(match BU c.EW id with
       | none=>run P c F E k (.op p 0) S r h
       | some _=>Holds P E.n E.X (cat F p) (fun e r h=>run P c F E k (.ex e) S r h) r h)
     | true=>(match BU c.EW id with
       | some (ord,fz)=>aP (aN F p) ord=true /\
          vY P c E.n (aN F p) (fun r' h'=>tW (fun sA qx=>pk sA (fun r3=>run P c F E k (.ex .normal) S r3 qx) c.mM) fz r' h') ord [] r h
       | none=>Holds P E.n E.X (cat F p) (fun e r h=>run P c F E k (.ex e) S r h) r h))
   | .seq _ _=>run P c F E k (.go (false::p)) (.seq (true::p)::S) r h
   | .cond x _ _=>(match aK r [] x with
     | some (.bool t)=>(t=true->run P c F E k (.go (false::p)) S r h)/\(t=false->run P c F E k (.go (true::p)) S r h)
     | _=>False)
   | .block id _=>run P c F E k (.go (false::p)) (.aS id::S) r h
   | .loop _=>Holds P E.n E.X (cat F p) (fun e r h=>run P c F E k (.ex e) S r h) r h
   | .exit i=>run P c F E k (.ex (.exit i)) S r h
   | .ret=>run P c F E k (.ex .ret) S r h
   | _=>False)
theorem DQ {R:aC->af->Prop} {K:aC->af->Prop} {n:Nat} {d:Option Nat} {g:G} {r:aC} {h:af} {v:AV} (hk:∀ r h,R r h->K r h) (hh:gO R n d g r h v):fT n d g v r fun r'=>K r' h:=
 rW (fun r=>hk r h) hh
theorem Hc {R:aC->af->Prop} {K:aC->af->Prop} {n:Nat} {d:Option Nat} {r:aC} {h:af} {v:AV} (hk:∀ r h,R r h->K r h) (hh:vX R n d r v h):fT n d [] v r fun r'=>K r' h:=
 rW (fun r=>hk r h) hh
theorem Bn {P:Program} {n:Nat} {X:Nat->Prop} {c:Code} {Q Q':Ex->aC->af->Prop} (hq:∀ e r h,Q e r h->Q' e r h) {r:aC} {h:af} (hh:Holds P n X c Q r h):Holds P n X c Q' r h:=by refine ⟨fun g a w hc=>wp_mono (hh.holds g a w hc) ?_⟩;rintro e a' w' ⟨ex,g',r',h',rfl,hQ,bQ,aF⟩;exact ⟨ex,g',r',h',rfl,hq _ _ _ hQ,bQ,aF⟩
theorem Hd {R R':aC->af->Prop} {n:Nat} {d:Option Nat} {g:G} {r:aC} {h:af} {v:AV} (hk:∀ {r h},R r h->R' r h) (hh:gO R n d g r h v):gO R' n d g r h v:=
 rW (fun r=>hk) hh
theorem Lw {R R':aC->af->Prop} {n:Nat} {d:Option Nat} {r:aC} {h:af} {v:AV} (hk:∀ {r h},R r h->R' r h) (hh:vX R n d r v h):vX R' n d r v h:=
 rW (fun r=>hk) hh
theorem pX {P:Program} {c:az} {F:Func} {E:En}:∀ (k k':Nat) (m:Mode) (S:List Fr) {r:aC} {h:af},k<=k'->run P c F E k m S r h->run P c F E k' m S r h
 | 0,k',m,S,r,h,hB,hh=>hh.elim
 | k+1,0,m,S,r,h,hB,hh=>absurd hB (by omega)
 | k+1,k'+1,m,S,r,h,hB,hh=>by
   have ih:∀ {m:Mode} {S:List Fr} {r:aC} {h:af},run P c F E k m S r h->run P c F E k' m S r h:=pX k k' _ _ (by omega);cases m with
   | ex e=>
     cases S with
     | nil=>exact hh
     | cons f S=>
       cases f with
       | seq p=>unfold run at hh ⊢;cases e<;>exact ih hh
       | aS id=>
         unfold run at hh ⊢;cases e with
         | exit i=>
           simp only at hh ⊢;cases hb:Nat.beq i id<;>simp only [hb] at hh ⊢<;>exact ih hh
         | _=>exact ih hh
       | head J=>unfold run at hh ⊢;cases e<;>first|exact hh|exact ih hh
   | go p=>
     unfold run at hh ⊢;cases gf:cat F p with
     | skip=>rw [gf] at hh;exact ih hh
     | region id ops draw=>
       rw [gf] at hh;cases draw with
       | false=>
         simp only at hh ⊢;split at hh
         ·exact ih hh
         exact Bn (fun e r h=>ih) hh
       | true=>
         simp only at hh ⊢;split at hh
         ·exact ⟨hh.1,Lv (fun r h=>Rw fun r h=>zu fun r' hr=>ih hr) hh.2⟩
         exact Bn (fun e r h=>ih) hh
     | seq x y=>rw [gf] at hh;exact ih hh
     | cond x t f=>
       rw [gf] at hh;simp only at hh ⊢;split at hh<;>try contradiction
       exact ⟨fun hb=>ih (hh.1 hb),fun hb=>ih (hh.2 hb)⟩
     | block id x=>rw [gf] at hh;exact ih hh
     | loop x=>rw [gf] at hh;exact Bn (fun e r h=>ih) hh
     | exit i=>rw [gf] at hh;exact ih hh
     | ret=>rw [gf] at hh;exact ih hh
     | _=>rw [gf] at hh;exact hh.elim
   | op p i=>
     unfold run at hh ⊢;cases ho:(aN F p)[i]? with
     | none=>rw [ho] at hh;exact zu (fun r' hr=>ih hr) hh
     | some o=>
       rw [ho] at hh;simp only at hh ⊢;cases hg:o.guard with
       | none=>
         simp only [hg] at hh ⊢;cases hl:wA c o.dst o.op with
         | true=>
           simp only [hl] at hh ⊢;split at hh
           ·rename_i t d y e1 e2;cases hm:rp c.Ad d with
            | true=>simp only [hm] at hh ⊢;exact Rv (fun _ _=>ih) hh
            | false=>simp only [hm] at hh ⊢;exact zq (fun v h'=>Lw ih) hh
           exact oa (fun v h'=>Lw ih) hh
         | false=>simp only [hl] at hh ⊢;exact vU (fun v=>Hd ih) hh
       | some jw=>
         obtain ⟨j,w⟩:=jw;simp only [hg] at hh ⊢;split at hh<;>try contradiction
         split at hh<;>try contradiction
         split at hh<;>try contradiction
         cases DR:yc o.op with
         | false=>
           simp only [DR] at hh ⊢;split at hh<;>try contradiction
           exact vU (fun v=>Hd ih) hh
         | true=>
           simp only [DR] at hh ⊢;split at hh
           ·split at hh<;>try contradiction
            exact ⟨fun hb=>zq (fun v h'=>Lw ih) (hh.1 hb),fun hb=>Hd ih (hh.2 hb)⟩
           exact vU (fun v=>Hd ih) hh
theorem Rx {P:Program} {c:az} {F:Func} {E:En} {p:List Bool} {S:List Fr} (B:Nat):∀ (k i:Nat) {r:aC} {h:af},k<=B->run P c F E k (.op p i) S r h->lx P c E.n (aN F p) (run P c F E B (.ex .normal) S) ((aN F p).drop i) r h
 | 0,i,r,h,hB,hh=>hh.elim
 | k+1,i,r,h,hB,hh=>by
   have ih:∀ {r:aC} {h:af},run P c F E k (.op p (i+1)) S r h->lx P c E.n (aN F p) (run P c F E B (.ex .normal) S) ((aN F p).drop (i+1)) r h:=Rx B k (i+1) (by omega);unfold run at hh;cases ho:(aN F p)[i]? with
   | none=>
     rw [ho] at hh;rw [List.drop_of_length_le (by simpa using ho)];unfold lx;exact zu (fun r' hr=>pX k B _ _ (by omega) hr) hh
   | some o=>
     rw [ho] at hh;obtain ⟨aI,he⟩:=List.getElem?_eq_some_iff.1 ho;rw [List.drop_eq_getElem_cons aI,he];unfold lx;simp only at hh ⊢;split
     ·rename_i hg;rw [hg] at hh;simp only at hh;split
      ·rename_i hl;rw [hl] at hh;simp only at hh;split
       ·rename_i t d y e1 e2;rw [e1,e2] at hh;simp only at hh;split
        ·rename_i hm;rw [hm] at hh;exact Rv (fun _ _=>ih) hh
        rename_i hm;rw [hm] at hh;simp only at hh;rw [e1,e2];exact zq (fun v h'=>Hc fun _ _=>ih) hh
       rename_i aJ;refine oa (K:=vX (run P c F E k (.op p (i+1)) S) E.n o.dst r) (fun v h'=>Hc fun _ _=>ih) ?_;split at hh
       ·rename_i t d y e1 e2;exact absurd e2 (aJ t d y e1)
       exact hh
      rename_i hl;rw [hl] at hh;exact vU (fun v=>DQ fun _ _=>ih) hh
     rename_i j w hg;rw [hg] at hh;simp only at hh;split at hh<;>try contradiction
     rename_i oj Dg;split at hh<;>try contradiction
     rename_i tj Dh;split at hh<;>try contradiction
     rename_i gj b dI;simp only [Dg,Dh,dI];cases DR:yc o.op with
     | false=>
       simp only [DR] at hh ⊢;split at hh<;>try contradiction
       rename_i e4;simp only [e4];exact vU (fun v=>DQ fun _ _=>ih) hh
     | true=>
       simp only [DR] at hh ⊢;cases hd:o.dst with
       | none=>
         simp only [hd] at hh ⊢;exact vU (fun v=>DQ fun _ _=>ih) hh
       | some d=>
         simp only [hd] at hh ⊢;cases hm:rp c.Ik d with
         | false=>
           simp only [hm] at hh ⊢;exact vU (fun v=>DQ fun _ _=>ih) hh
         | true=>
           simp only [hm] at hh ⊢;cases gj with
           | nil=>exact ⟨fun hb=>zq (fun v h'=>Hc fun _ _=>ih) (hh.1 hb),fun hb=>DQ (fun _ _=>ih) (hh.2 hb)⟩
           | cons _ _=>exact hh.elim
theorem Ry {F:Func} {p:List Bool} {id:Nat} {ops:Array Oper} {dr:Bool} (h:cat F p=.region id ops dr):aN F p=ops.toList:=by unfold aN;rw [h]
abbrev oe (P:Program) (c:az) (F:Func) (E:En) (k:Nat) (S:List Fr):Ex->aC->af->Prop:=fun e r h=>run P c F E k (.ex e) S r h
theorem He {P:Program} {c:az} {F:Func} {E:En} (hm:P.follows .mixedOrders=true):∀ (k:Nat) (p:List Bool) (S:List Fr) {r:aC} {h:af},
  run P c F E k (.go p) S r h->Holds P E.n E.X (cat F p) (oe P c F E k S) r h
 | 0,p,S,r,h,hh=>hh.elim
 | k+1,p,S,r,h,hh=>by
   have ih:∀ (p:List Bool) (S:List Fr) {r:aC} {h:af},run P c F E k (.go p) S r h->Holds P E.n E.X (cat F p) (oe P c F E k S) r h:=He hm k;have step:∀ {e:Ex} {S:List Fr} {r:aC} {h:af},run P c F E k (.ex e) S r h->run P c F E (k+1) (.ex e) S r h:=pX k (k+1) _ _ (by omega);have up:∀ {S:List Fr} {cc:Code} {r:aC} {h:af},Holds P E.n E.X cc (oe P c F E k S) r h->Holds P E.n E.X cc (oe P c F E (k+1) S) r h:=Bn fun _ _ _=>step;have tB:∀ {S:List Fr} {r:aC} {h:af},run P c F E k (.go (false::p)) S r h->Holds P E.n E.X (child false (cat F p)) (oe P c F E k S) r h:=ih (false::p) _;have xz:∀ {S:List Fr} {r:aC} {h:af},run P c F E k (.go (true::p)) S r h->Holds P E.n E.X (child true (cat F p)) (oe P c F E k S) r h:=ih (true::p) _;unfold run at hh;cases gf:cat F p with
   | skip=>
     rw [gf] at hh;exact up (zs (c:=c) hm .skip (Q:=oe P c F E k S) hh)
   | region id ops draw=>
     have ho:=Ry gf;rw [gf] at hh;simp only at hh;split at hh
     ·split at hh
      ·refine up (zs (c:=c) hm (.region id ops false) (?_:lx P c E.n ops.toList (oe P c F E k S .normal) ops.toList r h));rw [<- ho];simpa using Rx k k 0 (Nat.le_refl _) hh
      exact up hh
     refine up (zs (c:=c) hm (.region id ops true) ?_);unfold cw;simp only;split at hh
     ·rename_i ord fz hf;simp only [hf];rw [<- ho];exact ⟨hh.1,Bm (fun _ _ h=>h) hh.2⟩
     rename_i hf;simp only [hf];exact hh
   | seq x y=>
     rw [gf] at hh tB xz;simp only [child] at hh tB xz;refine ⟨fun g a w hc=>?_⟩;refine wp_seq (wp_mono ((tB hh).holds g a w hc) ?_);rintro e a' w' ⟨ex,g',r',h',rfl,hQ,bQ,aF⟩;cases k with
     | zero=>exact hQ.elim
     | succ k=>
       cases ex with
       | normal=>
         simp only [oe] at hQ;unfold run at hQ;refine wp_mono ((xz (pX k (k+1) _ _ (by omega) hQ)).holds g' a' w' bQ) ?_;rintro e a2 w2 ⟨ex,g2,r2,h2,rfl,hQ,ck,nc⟩;exact ⟨ex,g2,r2,h2,rfl,step hQ,ck,aF.trans hc.cw.own nc⟩
       | exit i=>simp only [oe] at hQ;unfold run at hQ;exact ⟨.exit i,g',r',h',rfl,pX k _ _ _ (by omega) hQ,bQ,aF⟩
       | ret=>simp only [oe] at hQ;unfold run at hQ;exact ⟨.ret,g',r',h',rfl,pX k _ _ _ (by omega) hQ,bQ,aF⟩
   | cond x t f=>
     rw [gf] at hh tB xz;simp only [child] at hh tB xz;split at hh<;>try contradiction
     rename_i b hx;refine up ⟨fun g a w hc=>?_⟩;have hr:=hc.aK (g:=[]) (fun e he=>by cases he) hx;rw [aa] at hr;refine wp_cond_split hr (fun hb=>(tB (hh.1 hb)).holds g a w hc) (fun hb=>(xz (hh.2 hb)).holds g a w hc)
   | block id x=>
     rw [gf] at hh tB;simp only [child] at hh tB;refine ⟨fun g a w hc=>?_⟩;refine wp_block (wp_mono ((tB hh).holds g a w hc) ?_);rintro e a' w' ⟨ex,g',r',h',rfl,hQ,bQ,aF⟩;cases k with
     | zero=>exact hQ.elim
     | succ k=>
       simp only [oe] at hQ;unfold run at hQ;cases ex with
       | normal=>exact ⟨.normal,g',r',h',rfl,pX k _ _ _ (by omega) hQ,bQ,aF⟩
       | exit i=>
         simp only at hQ;simp only [Ex.toExit,Exit.inBlock];split at hQ
         ·rename_i hi;rw [if_pos (Nat.eq_of_beq_eq_true hi)];exact ⟨.normal,g',r',h',rfl,pX k _ _ _ (by omega) hQ,bQ,aF⟩
         rename_i hi;rw [if_neg (fun e=>by subst e;rw [Nat.beq_refl] at hi;cases hi)];exact ⟨.exit i,g',r',h',rfl,pX k _ _ _ (by omega) hQ,bQ,aF⟩
       | ret=>exact ⟨.ret,g',r',h',rfl,pX k _ _ _ (by omega) hQ,bQ,aF⟩
   | loop x=>rw [gf] at hh;exact up hh
   | exit i=>rw [gf] at hh;exact up (zs (c:=c) hm (.exit i) (Q:=oe P c F E k S) hh)
   | ret=>rw [gf] at hh;exact up (zs (c:=c) hm .ret (Q:=oe P c F E k S) hh)
   | _=>rw [gf] at hh;exact hh.elim
theorem aG {P:Program} {f:FuncId} {F:Func} (c:az) {args:List AV} {R:AV->af->Prop} {h:af} (hf:P.funcs[f]?=some F) (hb:F.body.isSome=true) (Cv:(F.name == "runtime.NumGoroutine")=false)
  (hm:P.follows .mixedOrders=true) (hn:Nat.ble args.length F.ntmps=true) (aF:∀ X,run P c F ⟨F.ntmps,X,DP P F R⟩ 4000 (.go []) [] (Bl 0 args) h):aB P f args h R:=by
 obtain ⟨code,ij⟩:=Option.isSome_iff_exists.1 hb;have Zf:Lt F=code:=by unfold Lt;rw [ij]
 refine ⟨fun X g w us hc hr=>.inl ⟨⟨F,code,hf,ij,Cv⟩,?_⟩⟩;have hlen:=hr.length;simp at hlen;have hn:=Nat.le_of_ble_eq_true hn;have hH:Holds P F.ntmps X code (DP P F R) (Bl 0 args) h:=by have:=He (c:=c) (F:=F) (E:=⟨F.ntmps,X,DP P F R⟩) hm 4000 [] [] (aF X);simp only [cat,Zf] at this;exact this
 refine calls_of_wp hf ij (wp_mono (hH.holds g _ w ⟨hc,?_,rfl,by simp;omega⟩) ?_)
 ·intro t gg v hl;obtain ⟨rfl,_,hx⟩:=Ls hl;obtain ⟨u,hu,cN⟩:=hr.get t v (by simpa using hx);refine ⟨fun _=>⟨by simp,u,?_,cN⟩,fun hh=>absurd (fun e he=>by cases he) hh⟩;have dA:us[t]?=some u:=(by simpa using hu);have:=(Array.getElem?_eq_some_iff.1 dA).1;rw [Array.getElem?_append_left this];exact dA
 rintro e a' w' ⟨ex,g',r',h',rfl,hQ,bQ,aF⟩;cases ex with
 | normal=>
   obtain ⟨v,u,h1,h2,h3⟩:=Ha (P:=P) bQ hQ;exact ⟨bQ.defers,u,h2,v,u,g',h',rfl,h1,bQ.cw,h3,aF⟩
 | ret=>
   obtain ⟨v,u,h1,h2,h3⟩:=Ha (P:=P) bQ hQ;exact ⟨bQ.defers,u,h2,v,u,g',h',rfl,h1,bQ.cw,h3,aF⟩
 | exit i=>exact hQ.elim
theorem bR {P:Program} {c:az} {F:Func} {E:En} {p:List Bool} {S:List Fr} {k:Nat} {body:Code} {r:aC} {h:af} (gf:cat F p=.loop body) (hm:P.follows .mixedOrders=true) (ks:List Nat) (ts:List (Nat × Nat)) (J:Nat->aC->af->Prop)
  (h0:mF ks ts (fun r h=>∃ m,J m r h) r h)
  (hb:∀ m r h,J m r h->run P c F E k (.go (false::p)) (.head (mF ks ts (fun r h=>∃ m',m'<m/\J m' r h))::S) r h) :
  Holds P E.n E.X (cat F p) (fun e r h=>run P c F E k (.ex e) S r h) r h:=by
 rw [gf];refine Ln ks ts J h0 fun m r h hJ=>?_;have:=He hm k (false::p) _ (hb m r h hJ);have e:cat F (false::p)=body:=(by simp [cat,gf,child]);rw [e] at this;refine Bn (fun e r h hQ=>?_) this;cases k with
 | zero=>exact hQ.elim
 | succ k=>
   simp only [oe] at hQ;unfold run at hQ;cases e with
   | normal=>exact hQ
   | exit i=>exact pX k _ _ _ (by omega) hQ
   | ret=>exact pX k _ _ _ (by omega) hQ
end Go.Abs
/-
 The abstract fS,part U: small laws for the steps of a walk.
-/
namespace Go.Abs
open Go
theorem aR {a b c d:Nat} (h1:Nat.ble a b=true:=by rfl) (h2:Nat.ble c d=true:=by rfl):a<=b/\c<=d:=⟨Nat.le_of_ble_eq_true h1,Nat.le_of_ble_eq_true h2⟩
theorem ah {p:Prop}:∀ {g:G},p->gP g p
 | [],h=>h
 | (_,_,_)::g,h=>fun _=>ah (g:=g) h
theorem ix {α:Type} {enc:α->List AV} {l:List α} {x:α} {i:Nat} {g:G} {K:AV->Prop} (hx:l[i]?=some x) (hk:K (.au (enc x))) :
  ∃ (j:Nat) (y:List AV),gP g ((i:Int)=(j:Int)/\(l.map enc)[j]?=some y)/\K (.au y):=
 ⟨i,enc x,ah ⟨rfl,by simp [hx]⟩,hk⟩
theorem rE {α:Type} {enc:α->List AV} {l:List α} {g:G} (d:α) {n:Int} {K:AV->Prop} (h:gP g (0<=n/\n<l.length)) (hk:K (.au (enc (l.getD n.toNat d)))) :
  ∃ (j:Nat) (y:List AV),gP g (n=(j:Int)/\(l.map enc)[j]?=some y)/\K (.au y):=by
 refine ⟨n.toNat,_,DA ?_ h,hk⟩;rintro ⟨h1,h2⟩;have:n.toNat<l.length:=(by omega);exact ⟨by omega,by simp [List.getD,List.getElem?_eq_getElem this]⟩
theorem sx {s:List UInt8} {y:UInt8} {i:Nat} {g:G} {K:AV->Prop} (hx:s[i]?=some y) (hk:K (.int .u8 y.toNat)) :
  ∃ (j:Nat) (y:UInt8),gP g ((i:Int)=(j:Int)/\s[j]?=some y)/\K (.int .u8 y.toNat):=⟨i,y,ah ⟨rfl,hx⟩,hk⟩
theorem Zg {s:List UInt8} {g:G} {n:Int} {K:AV->Prop} (h:gP g (0<=n/\n<s.length)) (hk:K (.int .u8 (s.getD n.toNat 0).toNat)) :
  ∃ (j:Nat) (y:UInt8),gP g (n=(j:Int)/\s[j]?=some y)/\K (.int .u8 y.toNat):=by
 refine ⟨n.toNat,_,DA ?_ h,hk⟩;rintro ⟨h1,h2⟩;have:n.toNat<s.length:=(by omega);exact ⟨by omega,by simp [List.getD,List.getElem?_eq_getElem this]⟩
theorem aL {α:Type} {l:List α} {i:Nat} (h:i<l.length):∃ x,l[i]?=some x:=⟨_,List.getElem?_eq_getElem h⟩
theorem drop_cons {α:Type} {l:List α} {i:Nat} {x:α} (h:l[i]?=some x):l.drop i=x::l.drop (i+1):=by obtain ⟨h1,h2⟩:=List.getElem?_eq_some_iff.1 h;rw [List.drop_eq_getElem_cons h1,h2]
theorem drop_nil {α:Type} {l:List α} {i:Nat} (h:l.length<=i):l.drop i=[]:=List.drop_eq_nil_of_le h
theorem ba {P:Program} {g:G} {f:FuncId} {vs:List AV} {v:AV} {h:af} {K:AV->Prop} (hq:ae P f vs [] v) (hk:K v):∃ v,gP g (ae P f vs h v)/\K v:=
 ⟨v,ah (hq.wide h),hk⟩
theorem ae.of {P:Program} {f:FuncId} {args:List AV} {v:AV} (hq:aB P f args [] (fun v' _=>ag v' v)):ae P f args [] v:=
 aB.post hq fun v' h1 hv=>⟨v,[],⟨rfl,rfl⟩,hv,by simp,by simp [keys]⟩
theorem ae.zd {P:Program} {f:FuncId} {args:List AV} {v:AV} (hq:aB P f args [] (fun v' _=>v'=v)):ae P f args [] v:=
 ae.of (aB.mono (by rintro v' h rfl;exact ag.refl _) hq)
theorem aB.Rz {P:Program} {f:FuncId} {k:Nat} {as:List AV} {h:af} {R:AV->af->Prop} (h1:aB P f (.aT::as) h R) (h2:aB P f (.wx k::as) h R):aB P f (.sl k none []::as) h R:=by
 refine ⟨fun X g w us hc hr=>?_⟩;simp only [ax] at hr;obtain ⟨u,r,hu,hx,hr⟩:=hr;simp only [aa] at hx;obtain ⟨base,cap,rfl,_,_,hk,hn,_⟩:=hx;cases base with
 | none=>
   refine h1.1 X g w us hc ?_;simp only [ax];exact ⟨_,r,hu,by simp [aa,hn rfl],hr⟩
 | some a=>
   refine h2.1 X g w us hc ?_;simp only [ax];exact ⟨_,r,hu,by simp [aa,hk],hr⟩
section
variable {κ ν:Type} [DecidableEq κ]
def dM (k:κ):List (κ × ν)->Option ν
 | []=>none
 | (x,v)::es=>if k=x then some v else dM k es
def xg (k:κ) (v:ν):List (κ × ν)->List (κ × ν)
 | []=>[(k,v)]
 | (x,u)::es=>if k=x then (k,v)::es else (x,u)::xg k v es
def pN (ek:κ->AV) (ev:ν->AV) (es:List (κ × ν)):List (AV × AV):=es.map fun p=>(ek p.1,ev p.2)
variable {P:Program} {t:TypeId} {ek:κ->AV} {ev:ν->AV}
theorem Lx (heq:∀ a b,jK P t (ek a) (ek b)=some (decide (a=b))) (k:κ):∀ es:List (κ × ν),rn P t (ek k) (pN ek ev es)=some ((dM k es).map ev)
 | []=>rfl
 | (x,v)::es=>by
   have ih:=Lx heq k es;unfold pN at ih ⊢;rw [List.map_cons,rn];simp only [heq,dM];by_cases h:k=x
   ·simp [h]
   simp [h,ih]
theorem RA (heq:∀ a b,jK P t (ek a) (ek b)=some (decide (a=b))) (k:κ) (v:ν):∀ es:List (κ × ν),pe P t (ek k) (ev v) (pN ek ev es)=pN ek ev (xg k v es)
 | []=>rfl
 | (x,u)::es=>by
   have ih:=RA heq k v es;unfold pN at ih ⊢;rw [List.map_cons,pe];simp only [heq,xg];by_cases h:k=x
   ·simp [h]
   simp [h,ih]
theorem Qj (heq:∀ a b,jK P t (ek a) (ek b)=some (decide (a=b))) (k:κ) (es:List (κ × ν)) (z:AV) :
  ya P t (ek k) (pN ek ev es) z=some (((dM k es).map ev).getD z,(dM k es).isSome):=by
 unfold ya;rw [Lx heq];cases dM k es<;>rfl
theorem Kw (heq:∀ a b,jK P t (ek a) (ek b)=some (decide (a=b))) (hp:qt P t=true) (k:κ):ss P t (ek k):=⟨hp,by rw [heq];simp⟩
theorem RB {es:List (κ × Int)} {k:κ} {b:Nat} {h:af} {g:G} {ok:Bool} {K:AV->Prop} (hm:(b,Ob.map (pN ek (AV.int .i64) es))∈h) (heq:∀ a b,jK P t (ek a) (ek b)=some (decide (a=b))) (hp:qt P t=true)
  (hk:K (su ok (.int .i64 ((dM k es).getD 0)) (dM k es).isSome)) :
  ∃ es v f,(b,Ob.map es)∈h/\gP g (ss P t (ek k)/\ya P t (ek k) es (.int .i64 0)=some (v,f))/\K (su ok v f):=by
 refine ⟨_,_,_,hm,ah ⟨Kw heq hp k,Qj heq k es _⟩,?_⟩;have:((dM k es).map (AV.int .i64)).getD (.int .i64 0)=.int .i64 ((dM k es).getD 0):=by cases dM k es<;>rfl
 rw [this];exact hk
theorem Qm {es:List (κ × ν)} {k:κ} {v:ν} {b:Nat} {h h':af} {K:AV->af->Prop} (heq:∀ a b,jK P t (ek a) (ek b)=some (decide (a=b))) (hp:qt P t=true)
  (hu:cO b (.map (pN ek ev es)) b (.map (pN ek ev (xg k v es))) h h') (hk:K .unit h') :
  ∃ es h',cO b (.map es) b (.map (pe P t (ek k) (ev v) es)) h h'/\(ss P t (ek k)/\rn P t (ek k) es≠none)/\K .unit h':=
 ⟨pN ek ev es,h',by rw [RA heq];exact hu,⟨Kw heq hp k,by rw [Lx heq];simp⟩,hk⟩
end
end Go.Abs
/-
 The abstract fS,part V: steps of the ghost state alone: a value said less exactly,an object left behind,a row of Zh own that X9 writes any more.
-/
namespace Go.Abs
open Go
variable {P:Program} {n:Nat} {X:Nat->Prop} {g0:Gh} {r:aC} {h:af} {a:Act} {w:World}
mutual
inductive jI (b:Nat) (cs:List AV):AV->AV->Prop
 | refl (x:AV):jI b cs x x
 | le {x y:AV}:ag x y->jI b cs x y
 | row {off len k:Nat} {xs pre post:List (List AV)} {zl:List (List AV)} (e:cs=pre.flatten++xs.flatten++post.flatten) (ho:pre.flatten.length=off) (hl:xs.length=len) (hk:∀ x∈xs,x.length=k):jI b cs (.aQ b off len k) (.sl k none xs)
 | ptr {off:Nat} {l:List AV} (e:cs.drop off=l):jI b cs (.bj b off) (.au l)
 | aH {xs ys:List AV}:lq b cs xs ys->jI b cs (.aH xs) (.aH ys)
 | agg {xs ys:List AV}:lq b cs xs ys->jI b cs (.agg xs) (.agg ys)
inductive lq (b:Nat) (cs:List AV):List AV->List AV->Prop
 | nil:lq b cs [] []
 | cons {x y:AV} {xs ys:List AV}:jI b cs x y->lq b cs xs ys->lq b cs (x::xs) (y::ys)
end
inductive uJ (b:Nat) (cs:List AV):aC->aC->Prop
 | nil:uJ b cs [] []
 | cons {t:Nat} {g:G} {x y:AV} {r r':aC}:jI b cs x y->uJ b cs r r'->uJ b cs ((t,g,x)::r) ((t,g,y)::r')
inductive lp (b:Nat) (cs:List AV):af->af->Prop
 | nil:lp b cs [] []
 | same {k:Nat} {o:Ob} {h h':af}:lp b cs h h'->lp b cs ((k,o)::h) ((k,o)::h')
 | vec {k:Nat} {xs ys:List AV} {h h':af}:lq b cs xs ys->lp b cs h h'->lp b cs ((k,.vec xs)::h) ((k,.vec ys)::h')
theorem lq.refl {b:Nat} {cs:List AV}:∀ xs,lq b cs xs xs
 | []=>.nil
 | x::xs=>.cons (.refl x) (lq.refl xs)
theorem uJ.refl {b:Nat} {cs:List AV}:∀ r,uJ b cs r r
 | []=>.nil
 | (t,g,x)::r=>.cons (.refl x) (uJ.refl r)
theorem lp.refl {b:Nat} {cs:List AV}:∀ h,lp b cs h h
 | []=>.nil
 | (k,o)::h=>.same (lp.refl h)
theorem lq.get {b:Nat} {cs:List AV}:∀ {xs ys:List AV},lq b cs xs ys->xs.length=ys.length/\∀ (i:Nat) y,ys[i]?=some y->∃ x,xs[i]?=some x/\jI b cs x y
 | _,_,.nil=>⟨rfl,fun i y h=>by cases h⟩
 | _,_,.cons h1 h2=>by
   have ih:=h2.get;refine ⟨by simp [ih.1],fun i y hi=>?_⟩;cases i with
   | zero=>cases hi;exact ⟨_,rfl,h1⟩
   | succ i=>exact ih.2 i y (by simpa using hi)
mutual
theorem jI.rep {c c':Cx} {b:Nat} {cs:List AV} (h0:∀ x u,aa c x u->aa c' x u)
  (xB:∀ (off k:Nat) (xs pre post:List (List AV)),cs=pre.flatten++xs.flatten++post.flatten->pre.flatten.length=off->(∀ x∈xs,x.length=k)->∀ u,aa c (.aQ b off xs.length k) u->aa c' (.sl k none xs) u)
  (Bo:∀ (off:Nat) (l:List AV),cs.drop off=l->∀ u,aa c (.bj b off) u->aa c' (.au l) u):∀ {x y:AV},jI b cs x y->∀ u,aa c x u->aa c' y u
 | _,_,.refl x,u,h=>h0 x u h
 | _,_,.le hle,u,h=>h0 _ _ (hle _ _ h)
 | _,_,.row e ho hl hk,u,h=>by subst hl;exact xB _ _ _ _ _ e ho hk u h
 | _,_,.ptr e,u,h=>Bo _ _ e u h
 | _,_,.aH hs,u,h=>by simp only [aa] at h ⊢;obtain ⟨us,hv,hr⟩:=h;exact ⟨us,hv,lq.rep h0 xB Bo hs _ hr⟩
 | _,_,.agg hs,u,h=>by simp only [aa] at h ⊢;obtain ⟨us,hv,h1,hr⟩:=h;exact ⟨us,hv,h1,lq.rep h0 xB Bo hs _ hr⟩
theorem lq.rep {c c':Cx} {b:Nat} {cs:List AV} (h0:∀ x u,aa c x u->aa c' x u)
  (xB:∀ (off k:Nat) (xs pre post:List (List AV)),cs=pre.flatten++xs.flatten++post.flatten->pre.flatten.length=off->(∀ x∈xs,x.length=k)->∀ u,aa c (.aQ b off xs.length k) u->aa c' (.sl k none xs) u)
  (Bo:∀ (off:Nat) (l:List AV),cs.drop off=l->∀ u,aa c (.bj b off) u->aa c' (.au l) u):∀ {xs ys:List AV},lq b cs xs ys->∀ us,ax c xs us->ax c' ys us
 | _,_,.nil,us,h=>by simpa [ax] using h
 | _,_,.cons h1 h2,us,h=>by simp only [ax] at h ⊢;obtain ⟨u,r,rfl,a,d⟩:=h;exact ⟨u,r,rfl,jI.rep h0 xB Bo h1 u a,lq.rep h0 xB Bo h2 r d⟩
end
theorem lp.keys {b:Nat} {cs:List AV} {h h':af} (hz:lp b cs h h'):Abs.keys h'=Abs.keys h:=by
 induction hz with
 | nil=>rfl
 | same _ ih=>simp only [Abs.keys,List.map_cons] at ih ⊢;rw [ih]
 | vec _ _ ih=>simp only [Abs.keys,List.map_cons] at ih ⊢;rw [ih]
theorem lp.get {b:Nat} {cs:List AV} {h h':af} (hz:lp b cs h h'):∀ k o,(k,o)∈h'->(k,o)∈h\/∃ xs ys,o=.vec ys/\(k,Ob.vec xs)∈h/\lq b cs xs ys:=by
 induction hz with
 | nil=>intro k o hm;cases hm
 | same _ ih=>
   intro k o hm;cases List.mem_cons.1 hm with
   | inl e=>cases e;exact .inl (by simp)
   | inr e=>
     rcases ih k o e with h1|⟨xs,ys,e1,e2,e3⟩
     ·exact .inl (by simp [h1])
     exact .inr ⟨xs,ys,e1,by simp [e2],e3⟩
 | vec hv _ ih=>
   intro k o hm;cases List.mem_cons.1 hm with
   | inl e=>cases e;exact .inr ⟨_,_,rfl,by simp,hv⟩
   | inr e=>
     rcases ih k o e with h1|⟨xs,ys,e1,e2,e3⟩
     ·exact .inl (by simp [h1])
     exact .inr ⟨xs,ys,e1,by simp [e2],e3⟩
theorem uJ.look {b:Nat} {cs:List AV} {r r':aC} (hz:uJ b cs r r'):∀ t gg y,bp r' t=some (gg,y)->∃ x,bp r t=some (gg,x)/\jI b cs x y:=by
 induction hz with
 | nil=>intro t gg y h;cases h
 | cons h1 _ ih=>
   intro t gg y h;rw [qU] at h ⊢;split at h
   ·rename_i e;cases h;subst e;exact ⟨_,by simp,h1⟩
   rename_i e;rw [if_neg e];exact ih t gg y h
theorem CW.Bp {h':af} (hc:CW X g0 h w) (hk:keys h'=keys h) (ho:∀ k o',(k,o')∈h'->oB ⟨g0,live X h,w⟩ k o'):CW X g0 h' w/\Step X g0 h w g0 h' w:=by
 have RC:live X h'=live X h:=by unfold live;rw [hk]
 refine ⟨⟨hc.own,?_,by rw [hk];exact hc.nodup,fun k hm=>hc.sep k (by rw [<- hk];exact hm),fun k o hm=>by rw [RC];exact ho k o hm⟩,?_⟩
 ·obtain ⟨N,hN⟩:=hc.bound;exact ⟨N,fun k hh=>hN k (by rw [hk] at hh;exact hh)⟩
 have:=Step.refl X g0 h w;exact ⟨this.os,this.xW,this.output,this.size,this.pl,this.Aa,this.xX,this.BQ,fun b hb hn=>⟨rfl,fun k s e=>by rw [hk];exact hn k s e⟩,this.Ab,fun b k s e hm k' s' e' hl=>this.xY b k s e hm k' s' e' (by rw [RC] at hl;exact hl)⟩
theorem RD {c:Cx} {k:Nat} {b:Nat}:∀ {xs:List (List AV)} {o:Nat},(∀ x∈xs,x.length=k)->bA c xs.flatten b o->cm c k xs b o
 | [],o,_,_=>by simp [cm]
 | x::xs,o,hk,h=>by simp only [List.flatten_cons] at h;have hx:=hk x (by simp);have h1:=bA.take x.length h;have h2:=bA.drop x.length (by simp) h;simp only [List.take_left,List.drop_left] at h1 h2;simp only [cm];exact ⟨⟨hx,h1⟩,RD (fun y hy=>hk y (by simp [hy])) (by rw [<- hx];exact h2)⟩
theorem freeze {b:Nat} {cs:List AV} {h1:af} (hr:bo b (.vec cs) h h1) (hc:CW X g0 h w) :
  CW X g0 h1 w/\Step X g0 h w g0 h1 w/\∀ x y,jI b cs x y->∀ u,aa ⟨g0,live X h,w⟩ x u->aa ⟨g0,live X h1,w⟩ y u:=by
 obtain ⟨l1,l2,rfl,rfl⟩:=bo.split hr
 obtain ⟨s1,s2⟩:=hc.sub (h':=l1++l2) (by
   intro k o hm;simp only [List.mem_append,List.mem_cons] at hm ⊢;rcases hm with h|h
   ·exact .inl h
   ·exact .inr (.inr h)) (by
   have:=hc.nodup;rw [uq] at this;simp only [keys,List.map_append,List.nodup_append,List.nodup_cons,List.mem_cons] at this ⊢;exact ⟨this.1,this.2.1.2,fun x hx y hy=>this.2.2 x hx y (.inr hy)⟩)
 refine ⟨s1,s2,?_⟩;have De:=hc.sY;have Df:=hc.sep b (by rw [jn];exact .inl rfl);have jC:=hc.obj b (.vec cs) (by simp);obtain ⟨p,cc,t,q1,q2,q3,q4,q5,q6⟩:=jC
 have bV:bA ⟨g0,live X (l1++l2),w⟩ cs p.block p.off:=by
  have key:∀ (xs:List AV) (o:Nat),(∀ (i:Nat) x,xs[i]?=some x->∃ u,cc[p.off+(o+i)]?=some u/\u.oneCell'=true/\aa ⟨g0,live X (l1++(b,.vec cs)::l2),w⟩ x u)->bA ⟨g0,live X (l1++l2),w⟩ xs p.block (p.off+o):=by
   intro xs;induction xs with
   | nil=>intro o _;simp [bA]
   | cons x xs ih=>
     intro o hh;simp only [bA];obtain ⟨u,h1,h2,h3⟩:=hh 0 x (by simp);refine ⟨⟨u,?_,h2,?_,aa.mono (Step.le s2) _ _ h3⟩,?_⟩
     ·have Zi:w.heap[p.block]?=some (.cells cc t (0,0)):=q4;show w.cell? _=_;simpa [World.cell?,Zi] using h1
     ·intro k s ho xd;rw [q3] at ho;cases ho
      rcases xd with hx|hk
      ·exact absurd hx Df
      exact absurd hk De
     rw [show p.off+o+1=p.off+(o+1) from rfl];refine ih (o+1) (fun i x hx=>?_);have:=hh (i+1) x (by simpa using hx);rwa [show o+(i+1)=o+1+i from by omega] at this
  exact key cs 0 (fun i x hx=>by simpa using q6 i x hx)
 intro x y oW u hu;refine jI.rep (c:=⟨g0,live X (l1++(b,.vec cs)::l2),w⟩) (fun x u h=>aa.mono (Step.le s2) _ _ h) ?_ ?_ oW u hu
 ·intro off k xs pre post e ho hk u hu;simp only [aa] at hu ⊢;obtain ⟨p',cap,o',e1,e2,rfl,e3,e4,e5,e6,e7,e8⟩:=hu;rw [q1] at e1;cases e1
  refine ⟨_,cap,rfl,by omega,by omega,e5,by simp,by simp,?_,by simp⟩;rintro ad ⟨⟩;by_cases mz:xs=[]
  ·subst mz;simp [cm]
  rw [e7 (by have:=List.length_pos_iff.2 mz;omega)];have hd:=bA.drop off (by rw [e,List.length_append,List.length_append,ho];omega) bV;have kP:=bA.take xs.flatten.length hd;rw [e,List.append_assoc,<- ho,List.drop_left,List.take_left] at kP;rw [ho] at kP;exact RD hk kP
 intro off l e u hu;simp only [aa] at hu ⊢;obtain ⟨p',e1,e2,rfl⟩:=hu;rw [q1] at e1;cases e1
 refine ⟨_,_,rfl,?_⟩;subst e;by_cases ho:off<=cs.length
 ·exact bA.drop off ho bV
 rw [List.drop_eq_nil_of_le (by omega)];simp [bA]
def ao (r:aC) (h:af) (r':aC) (h':af):Prop:=∀ n X g a w,bN n X g r h a w->∃ g',bN n X g' r' h' a w/\Step X g h w g' h' w
theorem ao.refl (r:aC) (h:af):ao r h r h:=fun n X g a w hc=>⟨g,hc,Step.refl _ _ _ _⟩
theorem ao.trans {r1 r2 r3:aC} {h1 h2 h3:af} (a:ao r1 h1 r2 h2) (b:ao r2 h2 r3 h3):ao r1 h1 r3 h3:=by intro n X g ac w hc;obtain ⟨g1,c1,s1⟩:=a n X g ac w hc;obtain ⟨g2,c2,s2⟩:=b n X g1 ac w c1;exact ⟨g2,c2,s1.trans hc.cw.own s2⟩
theorem ao.freeze {r r':aC} {h h1 h':af} {b:Nat} {cs:List AV} (hr:bo b (.vec cs) h h1) (hh:lp b cs h1 h') (hz:uJ b cs r r'):ao r h r' h':=by
 intro n X g a w hc;obtain ⟨c1,s1,hv⟩:=Abs.freeze hr hc.cw
 have gH:∀ k o,(k,o)∈h1->(k,o)∈h:=by
  obtain ⟨l1,l2,rfl,rfl⟩:=bo.split hr;intro k o hm;simp only [List.mem_append,List.mem_cons] at hm ⊢;rcases hm with h|h
  ·exact .inl h
  exact .inr (.inr h)
 obtain ⟨c2,s2⟩:=c1.Bp hh.keys (fun k o' hm=>by
  rcases hh.get k o' hm with h1|⟨xs,ys,rfl,h2,h3⟩
  ·exact c1.obj k o' h1
  obtain ⟨p,cc,t,q1,q2,q3,q4,q5,q6⟩:=hc.cw.obj k (.vec xs) (gH _ _ h2);obtain ⟨l,hg⟩:=h3.get;refine ⟨p,cc,t,q1,q2,q3,q4,by rw [<- l];exact q5,fun i y hy=>?_⟩;obtain ⟨x,hx,oW⟩:=hg i y hy;obtain ⟨u,u1,u2,u3⟩:=q6 i x hx;exact ⟨u,u1,u2,hv x y oW u u3⟩)
 refine ⟨g,⟨c2,fun t gg y hl=>?_,hc.defers,hc.size⟩,s1.trans hc.cw.own s2⟩;obtain ⟨x,hx,oW⟩:=hz.look t gg y hl;obtain ⟨k1,k2⟩:=hc.lz t gg x hx;refine ⟨fun hh=>?_,k2⟩;obtain ⟨m1,u,m2,m3⟩:=k1 hh;exact ⟨m1,u,m2,aa.mono (Step.le s2) _ _ (hv x y oW u m3)⟩
inductive jQ:aC->aC->Prop
 | nil:jQ [] []
 | cons {t:Nat} {g:G} {x y:AV} {r r':aC}:ag x y->jQ r r'->jQ ((t,g,x)::r) ((t,g,y)::r')
theorem jQ.refl:∀ r,jQ r r
 | []=>.nil
 | (t,g,x)::r=>.cons (ag.refl x) (jQ.refl r)
theorem jQ.look {r r':aC} (hz:jQ r r'):∀ t gg y,bp r' t=some (gg,y)->∃ x,bp r t=some (gg,x)/\ag x y:=by
 induction hz with
 | nil=>intro t gg y h;cases h
 | cons h1 _ ih=>
   intro t gg y h;rw [qU] at h ⊢;split at h
   ·rename_i e;cases h;subst e;exact ⟨_,by simp,h1⟩
   rename_i e;rw [if_neg e];exact ih t gg y h
theorem ao.sF {r r':aC} {h:af} (hz:jQ r r'):ao r h r' h:=by intro n X g a w hc;refine ⟨g,⟨hc.cw,fun t gg y hl=>?_,hc.defers,hc.size⟩,Step.refl _ _ _ _⟩;obtain ⟨x,hx,oW⟩:=hz.look t gg y hl;obtain ⟨k1,k2⟩:=hc.lz t gg x hx;refine ⟨fun hh=>?_,k2⟩;obtain ⟨m1,u,m2,m3⟩:=k1 hh;exact ⟨m1,u,m2,oW _ u m3⟩
theorem ao.cells {r:aC} {h h':af} {b:Nat} {xs ys:List AV} (hu:cO b (.vec xs) b (.vec ys) h h') (hv:cW xs ys):ao r h r h':=by
 intro n X g a w hc
 have sX:keys h'=keys h:=by
  clear hc;induction hu with
  | here l=>rfl
  | there _ ih=>simp only [keys,List.map_cons] at ih ⊢;rw [ih]
 have lD:∀ k o',(k,o')∈h'->(k,o')∈h\/(k=b/\o'=.vec ys/\(b,Ob.vec xs)∈h):=by
  clear hc sX;induction hu with
  | here l=>intro k o' hm;cases List.mem_cons.1 hm with
    | inl e=>cases e;exact .inr ⟨rfl,rfl,by simp⟩
    | inr e=>exact .inl (by simp [e])
  | there _ ih=>intro k o' hm;cases List.mem_cons.1 hm with
    | inl e=>subst e;exact .inl (by simp)
    | inr e=>
      rcases ih k o' e with h1|⟨h1,h2,h3⟩
      ·exact .inl (by simp [h1])
      exact .inr ⟨h1,h2,by simp [h3]⟩
 have hlen:∀ {xs ys:List AV},cW xs ys->xs.length=ys.length/\∀ (i:Nat) y,ys[i]?=some y->∃ x,xs[i]?=some x/\ag x y:=by
  intro xs ys hv;induction hv with
  | nil=>exact ⟨rfl,fun i y h=>by cases h⟩
  | cons h1 _ ih=>
    refine ⟨by simp [ih.1],fun i y hi=>?_⟩;cases i with
    | zero=>cases hi;exact ⟨_,rfl,h1⟩
    | succ i=>exact ih.2 i y (by simpa using hi)
 obtain ⟨c2,s2⟩:=hc.cw.Bp sX (fun k o' hm=>by
  rcases lD k o' hm with h1|⟨rfl,rfl,h2⟩
  ·exact hc.cw.obj k o' h1
  obtain ⟨p,cc,t,q1,q2,q3,q4,q5,q6⟩:=hc.cw.obj k (.vec xs) h2;obtain ⟨l,hg⟩:=hlen hv;refine ⟨p,cc,t,q1,q2,q3,q4,by rw [<- l];exact q5,fun i y hy=>?_⟩;obtain ⟨x,hx,oW⟩:=hg i y hy;obtain ⟨u,u1,u2,u3⟩:=q6 i x hx;exact ⟨u,u1,u2,oW _ _ u3⟩)
 exact ⟨g,hc.step c2 s2,s2⟩
theorem ao.cut {r:aC} {h h':af} {b:Nat} {xs ys:List AV} (hu:cO b (.vec (xs++ys)) b (.vec xs) h h'):ao r h r h':=by
 intro n X g a w hc
 have sX:keys h'=keys h:=by
  clear hc;induction hu with
  | here l=>rfl
  | there _ ih=>simp only [keys,List.map_cons] at ih ⊢;rw [ih]
 have lD:∀ k o',(k,o')∈h'->(k,o')∈h\/(k=b/\o'=.vec xs/\(b,Ob.vec (xs++ys))∈h):=by
  clear hc sX;induction hu with
  | here l=>intro k o' hm;cases List.mem_cons.1 hm with
    | inl e=>cases e;exact .inr ⟨rfl,rfl,by simp⟩
    | inr e=>exact .inl (by simp [e])
  | there _ ih=>intro k o' hm;cases List.mem_cons.1 hm with
    | inl e=>subst e;exact .inl (by simp)
    | inr e=>
      rcases ih k o' e with h1|⟨h1,h2,h3⟩
      ·exact .inl (by simp [h1])
      exact .inr ⟨h1,h2,by simp [h3]⟩
 obtain ⟨c2,s2⟩:=hc.cw.Bp sX (fun k o' hm=>by
  rcases lD k o' hm with h1|⟨rfl,rfl,h2⟩
  ·exact hc.cw.obj k o' h1
  obtain ⟨p,cc,t,q1,q2,q3,q4,q5,q6⟩:=hc.cw.obj k (.vec (xs++ys)) h2;simp only [List.length_append] at q5;exact ⟨p,cc,t,q1,q2,q3,q4,by omega,fun i y hy=>q6 i y (by rw [List.getElem?_append_left (List.getElem?_eq_some_iff.1 hy).1];exact hy)⟩)
 exact ⟨g,hc.step c2 s2,s2⟩
theorem ao.sub {r:aC} {h h':af} (gH:∀ k o,(k,o)∈h'->(k,o)∈h) (er:(keys h).Nodup->(keys h').Nodup):ao r h r h':=by intro n X g a w hc;obtain ⟨c1,s1⟩:=hc.cw.sub gH (er hc.cw.nodup);exact ⟨g,hc.step c1 s1,s1⟩
theorem ao.drop {r:aC} {h h':af} {b:Nat} {o:Ob} (hr:bo b o h h'):ao r h r h':=by
 obtain ⟨l1,l2,rfl,rfl⟩:=bo.split hr;refine ao.sub ?_ ?_
 ·intro k o hm;simp only [List.mem_append,List.mem_cons] at hm ⊢;rcases hm with h|h
  ·exact .inl h
  exact .inr (.inr h)
 intro this;rw [uq] at this;simp only [keys,List.map_append,List.nodup_append,List.nodup_cons,List.mem_cons] at this ⊢;exact ⟨this.1,this.2.1.2,fun x hx y hy=>this.2.2 x hx y (.inr hy)⟩
theorem Zj {c:Code} {Q:Ex->aC->af->Prop} {r r':aC} {h h':af} (ht:ao r h r' h') (hh:Holds P n X c Q r' h'):Holds P n X c Q r h:=by refine ⟨fun g a w hc=>?_⟩;obtain ⟨g',c1,s1⟩:=ht n X g a w hc;refine wp_mono (hh.holds g' a w c1) ?_;rintro e a' w' ⟨ex,g2,r2,h2,rfl,hQ,ck,aF⟩;exact ⟨ex,g2,r2,h2,rfl,hQ,ck,s1.trans hc.cw.own aF⟩
def Bq (J:aC->af->Prop) (r:aC) (h:af):Prop:=∃ r' h',ao r h r' h'/\J r' h'
theorem bW {P:Program} {c:az} {F:Func} {E:En} {p:List Bool} {S:List Fr} {k:Nat} {body:Code} {r:aC} {h:af} (gf:cat F p=.loop body) (hm:P.follows .mixedOrders=true) (ks:List Nat) (ts:List (Nat × Nat)) (J:Nat->aC->af->Prop)
  (h0:mF ks ts (Bq fun r h=>∃ m,J m r h) r h)
  (hb:∀ m r h,J m r h->run P c F E k (.go (false::p)) (.head (mF ks ts (Bq fun r h=>∃ m',m'<m/\J m' r h))::S) r h) :
  Holds P E.n E.X (cat F p) (fun e r h=>run P c F E k (.ex e) S r h) r h:=by
 rw [gf]
 have cM:∀ {J J':aC->af->Prop} {r:aC} {h:af},(∀ r h,J r h->J' r h)->mF ks ts J r h->mF ks ts J' r h:=by
  intro J J' r h hj;unfold mF
  have:∀ {l:List (Nat × Nat)} {K K':aC->af->Prop},(∀ r h,K r h->K' r h)->∀ {r:aC} {h:af},xA l r h K->xA l r h K':=by
   intro l;induction l with
   | nil=>intro K K' hk r h hr;exact hk _ _ hr
   | cons x l ih=>
     obtain ⟨t,k⟩:=x;intro K K' hk r h hr;unfold xA at hr ⊢;split at hr
     ·exact ⟨hr.1,fun q=>ih hk (hr.2 q)⟩
     exact ih hk hr
  exact this fun r h=>zu fun r'=>hj r' h
 refine Ln ks ts (fun m=>Bq (J m)) (cM ?_ h0) fun m r h hJ=>?_
 ·rintro r h ⟨r',h',ht,m,hj⟩;exact ⟨m,r',h',ht,hj⟩
 obtain ⟨r1,h1,ht,hJ⟩:=hJ;refine Zj ht ?_;have:=He hm k (false::p) _ (hb m r1 h1 hJ);have e:cat F (false::p)=body:=(by simp [cat,gf,child]);rw [e] at this;refine Bn (fun e r h hQ=>?_) this;cases k with
 | zero=>exact hQ.elim
 | succ k=>
   simp only [oe] at hQ;unfold run at hQ;cases e with
   | normal=>
     refine cM ?_ hQ;rintro r h ⟨r',h',ht,m',aI,hj⟩;exact ⟨m',aI,r',h',ht,hj⟩
   | exit i=>exact pX k _ _ _ (by omega) hQ
   | ret=>exact pX k _ _ _ (by omega) hQ
theorem aB.Ad {f:FuncId} {args:List AV} {R R':AV->af->Prop} {h:af} (hf:aB P f args h R)
  (hp:∀ v h1,R v h1->∃ b cs h2 h3 v',bo b (.vec cs) h1 h2/\lp b cs h2 h3/\jI b cs v v'/\R' v' h3):aB P f args h R':=by
 refine ⟨fun X g w us hc hr=>?_⟩;refine (hf.1 X g w us hc hr).mono fun e w' he=>?_;obtain ⟨v,u,g',h1,rfl,hR,eO,hu,hs⟩:=he;obtain ⟨b,cs,h2,h3,v',e1,e2,e3,e4⟩:=hp v h1 hR;obtain ⟨c1,s1,hv⟩:=Abs.freeze e1 eO
 have gH:∀ k o,(k,o)∈h2->(k,o)∈h1:=by
  obtain ⟨l1,l2,rfl,rfl⟩:=bo.split e1;intro k o hm;simp only [List.mem_append,List.mem_cons] at hm ⊢;rcases hm with h|h
  ·exact .inl h
  exact .inr (.inr h)
 obtain ⟨c2,s2⟩:=c1.Bp e2.keys (fun k o' hm=>by
  rcases e2.get k o' hm with h1|⟨xs,ys,rfl,h2,h3⟩
  ·exact c1.obj k o' h1
  obtain ⟨p,cc,t,q1,q2,q3,q4,q5,q6⟩:=eO.obj k (.vec xs) (gH _ _ h2);obtain ⟨l,hg⟩:=h3.get;refine ⟨p,cc,t,q1,q2,q3,q4,by rw [<- l];exact q5,fun i y hy=>?_⟩;obtain ⟨x,hx,oW⟩:=hg i y hy;obtain ⟨u,u1,u2,u3⟩:=q6 i x hx;exact ⟨u,u1,u2,hv x y oW u u3⟩)
 exact ⟨v',u,g',h3,rfl,e4,c2,aa.mono (Step.le s2) _ _ (hv v v' e3 u hu),hs.trans hc.own (s1.trans eO.own s2)⟩
end Go.Abs
/-
 The abstract fS,part X: rows of Zh own,of one cell an element.
-/
namespace Go.Abs
open Go
theorem Ci:∀ {n:Nat} {cs:List AV},n<=cs.length->jd n cs=some (cs.drop n)
 | 0,cs,_=>by cases cs<;>rfl
 | n+1,[],h=>by simp at h
 | n+1,c::cs,h=>by have:=Ci (n:=n) (cs:=cs) (by simpa using h);simpa [jd] using this
theorem Zk {vs:List AV} {j:Nat} {v:AV} (h:j<vs.length):dt vs j [v]=vs.set j v:=by unfold dt;rw [List.set_eq_take_append_cons_drop];simp [h]
theorem Ly (n:Nat) (v:AV):gM n [v]=List.replicate n v:=by
 unfold gM;induction n with
 | zero=>rfl
 | succ n ih=>simp only [List.replicate_succ,List.flatten_cons,ih];rfl
theorem fx {g:G} {b off len k i:Nat} {K:AV->Prop} (hi:i<len) (hk:K (.bj b (off+i*k))):∃ (j:Nat),gP g ((i:Int)=(j:Int)/\j<len)/\K (.bj b (off+j*k)):=
 ⟨i,ah ⟨rfl,hi⟩,hk⟩
theorem yy {g:G} {b off len k:Nat} {n:Int} {K:AV->Prop} (hi:gP g (0<=n/\n<len)) (hk:K (.bj b (off+n.toNat*k))):∃ (j:Nat),gP g (n=(j:Int)/\j<len)/\K (.bj b (off+j*k)):=
 ⟨n.toNat,DA (fun ⟨h1,h2⟩=>⟨by omega,by omega⟩) hi,hk⟩
theorem Zl {P:Program} {t:TypeId} {v:AV} {l:List AV} {K:AV->Prop} (ht:nF P t=some false) (hk:K v):gy P t (v::l) K:=by unfold gy;rw [ht];exact hk
theorem Zm {P:Program} {t:TypeId} {b o:Nat} {vs:List AV} {v:AV} {h:af} {K:AV->Prop} (hm:(b,Ob.vec vs)∈h) (ht:nF P t=some false) (hv:vs[o]?=some v) (hk:K v) :
  ∃ cs l,(b,Ob.vec cs)∈h/\jd o cs=some l/\gy P t l K:=by
 obtain ⟨h1,h2⟩:=List.getElem?_eq_some_iff.1 hv;refine ⟨vs,vs.drop o,hm,Ci (by omega),?_⟩;rw [List.drop_eq_getElem_cons h1,h2];exact Zl ht hk
theorem Zn {b o:Nat} {vs:List AV} {v:AV} {h h':af} {K:AV->af->Prop} (ho:o<vs.length) (hu:cO b (.vec vs) b (.vec (vs.set o v)) h h') (hk:K .unit h') :
  ∃ cs h',cO b (.vec cs) b (.vec (dt cs o [v])) h h'/\(0<[v].length/\o+[v].length<=cs.length)/\K .unit h':=
 ⟨vs,h',by rw [Zk ho];exact hu,⟨by simp,by simp;omega⟩,hk⟩
theorem Zo {α:Type} {b:Nat} {ev:α->AV} {l:List α} {n:Nat} (hn:l.length=n):jI b (l.map ev) (.aQ b 0 n 1) (.sl 1 none (l.map fun x=>[ev x])):=by
 refine jI.row (pre:=[]) (post:=[]) (zl:=[]) ?_ rfl (by simpa using hn) (by simp);clear hn;induction l with
 | nil=>rfl
 | cons x l ih=>simp at ih ⊢;exact ih
inductive iR:List (List AV)->List (List AV)->Prop
 | nil:iR [] []
 | cons {x y:List AV} {xs ys:List (List AV)}:cW x y->iR xs ys->iR (x::xs) (y::ys)
theorem iR.refl:∀ xs,iR xs xs
 | []=>.nil
 | x::xs=>.cons (cW.refl x) (iR.refl xs)
theorem iR.snoc {xs:List (List AV)} {x y:List AV} (h:cW x y):iR (xs++[x]) (xs++[y]):=by
 induction xs with
 | nil=>exact .cons h .nil
 | cons z xs ih=>exact .cons (cW.refl z) ih
theorem cW.length:∀ {xs ys:List AV},cW xs ys->xs.length=ys.length
 | _,_,.nil=>rfl
 | _,_,.cons _ h=>by simp [h.length]
theorem iR.length:∀ {xs ys:List (List AV)},iR xs ys->xs.length=ys.length
 | _,_,.nil=>rfl
 | _,_,.cons _ h=>by simp [h.length]
theorem cW.Lz {c:Cx}:∀ {xs ys:List AV} {b o:Nat},cW xs ys->bA c xs b o->bA c ys b o
 | _,_,_,_,.nil,h=>h
 | _,_,_,_,.cons h1 h2,h=>by simp only [bA] at h ⊢;obtain ⟨⟨u,a1,a2,a3,a4⟩,h⟩:=h;exact ⟨⟨u,a1,a2,a3,h1 _ _ a4⟩,h2.Lz h⟩
theorem iR.RE {c:Cx} {k:Nat}:∀ {xs ys:List (List AV)} {b o:Nat},iR xs ys->cm c k xs b o->cm c k ys b o
 | _,_,_,_,.nil,h=>h
 | _,_,_,_,.cons h1 h2,h=>by simp only [cm] at h ⊢;obtain ⟨⟨a1,a2⟩,h⟩:=h;exact ⟨⟨by rw [<- h1.length];exact a1,h1.Lz a2⟩,h2.RE h⟩
theorem ag.nT {k:Nat} {t:Option Nat} {xs ys:List (List AV)} (h:iR xs ys):ag (.sl k t xs) (.sl k t ys):=by intro c u hu;simp only [aa] at hu ⊢;obtain ⟨base,cap,hv,h1,h2,h3,h4,h5,h6,h7⟩:=hu;have hl:=h.length;refine ⟨base,cap,by rw [<- hl];exact hv,by omega,by omega,h3,h4,fun a ha aJ=>h5 a ha (fun e=>aJ (by subst e;exact List.eq_nil_of_length_eq_zero hl.symm)),fun a ha=>h.RE (h6 a ha),fun q hq=>?_⟩;rw [<- hl];exact h7 q hq
theorem ao.both {r r':aC} {h h':af} (hr:jQ r r') (gH:∀ k o,(k,o)∈h'->(k,o)∈h) (er:(keys h').Nodup):ao r h r' h':=(ao.sF hr).trans (ao.sub gH fun _=>er)
theorem ao.one {r r':aC} {h:af} {q:Nat} {o:Ob} (hr:jQ r r') (hm:(q,o)∈h):ao r h r' [(q,o)]:=
 ao.both hr (fun k o' hk=>by cases List.mem_singleton.1 hk;exact hm) (by simp [keys])
def ep (n:Nat) (f:Nat->AV):List AV:=(List.range n).map f
@[simp] theorem Zp (n:Nat) (f:Nat->AV):(ep n f).length=n:=by simp [ep]
theorem LA {n i:Nat} {f:Nat->AV} (h:i<n):(ep n f)[i]?=some (f i):=by unfold ep;rw [List.getElem?_map,List.getElem?_range h];rfl
theorem yO {n:Nat} {f g:Nat->AV} (h:∀ j,j<n->f j=g j):ep n f=ep n g:=by unfold ep;exact List.map_congr_left fun j hj=>h j (List.mem_range.1 hj)
theorem Zq {n i:Nat} {f:Nat->AV} {v:AV}:(ep n f).set i v=ep n (fun j=>if j=i then v else f j):=by
 refine List.ext_getElem? fun j=>?_;rw [List.getElem?_set];by_cases hj:j<n
 ·rw [LA hj,LA hj];by_cases he:i=j
  ·subst he;simp [hj]
  rw [if_neg he,if_neg (fun h=>he h.symm)]
 rw [List.getElem?_eq_none (by simp;omega),List.getElem?_eq_none (by simp;omega)];simp;intro h;subst h;omega
theorem Pd (n:Nat) (v:AV):gM n [v]=ep n (fun _=>v):=by
 rw [Ly];unfold ep;refine List.ext_getElem? fun j=>?_;by_cases hj:j<n
 ·simp [hj]
 simp [hj]
theorem vz {P:Program} {t:TypeId} {b o n:Nat} {f:Nat->AV} {h:af} {K:AV->Prop} (v:AV) (hm:(b,Ob.vec (ep n f))∈h) (ht:nF P t=some false) (ho:o<n) (hv:f o=v) (hk:K v) :
  ∃ cs l,(b,Ob.vec cs)∈h/\jd o cs=some l/\gy P t l K:=Zm hm ht (by rw [LA ho,hv]) hk
theorem CO {b o n:Nat} {f:Nat->AV} {v:AV} {h h':af} {K:AV->af->Prop} (ho:o<n) (hu:cO b (.vec (ep n f)) b (.vec (ep n (fun j=>if j=o then v else f j))) h h') (hk:K .unit h') :
  ∃ cs h',cO b (.vec cs) b (.vec (dt cs o [v])) h h'/\(0<[v].length/\o+[v].length<=cs.length)/\K .unit h':=
 Zn (vs:=ep n f) (by rw [Zp];exact ho) (by rw [Zq];exact hu) hk
theorem lq.DS {b:Nat} {cs:List AV}:∀ {xs ys:List AV},xs.length=ys.length->(∀ (i:Nat) x y,xs[i]?=some x->ys[i]?=some y->jI b cs x y)->lq b cs xs ys
 | [],[],_,_=>.nil
 | x::xs,y::ys,hl,h=>.cons (h 0 x y rfl rfl) (lq.DS (by simpa using hl) fun i x y h1 h2=>h (i+1) x y (by simpa using h1) (by simpa using h2))
 | [],_::_,hl,_=>by simp at hl
 | _::_,[],hl,_=>by simp at hl
theorem Zr {b n:Nat} {f:Nat->AV} {xs:List (List AV)} (h:xs=(List.range n).map fun j=>[f j]):jI b (ep n f) (.aQ b 0 n 1) (.sl 1 none xs):=by subst h;exact Zo (ev:=f) (l:=List.range n) (by simp)
theorem FP {P:Program} {g:G} {f:FuncId} {vs:List AV} {v:AV} {h:af} {K:AV->Prop} (hq:ae P f vs h v) (hk:K v):∃ v,gP g (ae P f vs h v)/\K v:=⟨v,ah hq,hk⟩
theorem dg {α:Type} {enc:α->List AV} {l:List α} {x:α} {g:G} {n:Int} (i:Nat) {K:AV->Prop} (hn:n=(i:Int)) (hx:l[i]?=some x) (hk:K (.au (enc x))) :
  ∃ (j:Nat) (y:List AV),gP g (n=(j:Int)/\(l.map enc)[j]?=some y)/\K (.au y):=
 ⟨i,enc x,ah ⟨hn,by simp [hx]⟩,hk⟩
theorem cT {b:Bool} {A B:Prop} (h:b=true) (ha:A):(b=true->A)/\(b=false->B):=⟨fun _=>ha,fun h'=>by rw [h] at h';cases h'⟩
theorem cF {b:Bool} {A B:Prop} (h:b=false) (hb:B):(b=true->A)/\(b=false->B):=⟨(fun h'=>by rw [h] at h';cases h'),fun _=>hb⟩
theorem aB.GM {P:Program} {f:FuncId} {args:List AV} {R R':AV->af->Prop} {h:af} (hf:aB P f args h R)
  (hp:∀ v h1,R v h1->R' v h1\/∃ b cs h2 h3 v',bo b (.vec cs) h1 h2/\lp b cs h2 h3/\jI b cs v v'/\R' v' h3):aB P f args h R':=by
 refine ⟨fun X g w us hc hr=>?_⟩;refine (hf.1 X g w us hc hr).mono fun e w' he=>?_;obtain ⟨v,u,g',h1,rfl,hR,eO,hu,hs⟩:=he;rcases hp v h1 hR with Ji|⟨b,cs,h2,h3,v',e1,e2,e3,e4⟩
 ·exact ⟨v,u,g',h1,rfl,Ji,eO,hu,hs⟩
 obtain ⟨c1,s1,hv⟩:=Abs.freeze e1 eO
 have gH:∀ k o,(k,o)∈h2->(k,o)∈h1:=by
  obtain ⟨l1,l2,rfl,rfl⟩:=bo.split e1;intro k o hm;simp only [List.mem_append,List.mem_cons] at hm ⊢;rcases hm with h|h
  ·exact .inl h
  exact .inr (.inr h)
 obtain ⟨c2,s2⟩:=c1.Bp e2.keys (fun k o' hm=>by
  rcases e2.get k o' hm with h1|⟨xs,ys,rfl,h2,h3⟩
  ·exact c1.obj k o' h1
  obtain ⟨p,cc,t,q1,q2,q3,q4,q5,q6⟩:=eO.obj k (.vec xs) (gH _ _ h2);obtain ⟨l,hg⟩:=h3.get;refine ⟨p,cc,t,q1,q2,q3,q4,by rw [<- l];exact q5,fun i y hy=>?_⟩;obtain ⟨x,hx,oW⟩:=hg i y hy;obtain ⟨u,u1,u2,u3⟩:=q6 i x hx;exact ⟨u,u1,u2,hv x y oW u u3⟩)
 exact ⟨v',u,g',h3,rfl,e4,c2,aa.mono (Step.le s2) _ _ (hv v v' e3 u hu),hs.trans hc.own (s1.trans eO.own s2)⟩
end Go.Abs
/-
 The abstract fS,part W: loops gone through step by step,where Y0 is known.
-/
namespace Go.Abs
open Go
def xC:aC->List Nat->List Nat
 | [],_=>[]
 | (t,[],_)::r,seen=>match rp seen t with
   | true=>xC r seen
   | false=>t::xC r (t::seen)
 | (t,_::_,_)::r,seen=>xC r (t::seen)
def UL (P:Program) (c:az) (F:Func) (E:En) (k:Nat) (p:List Bool) (S:List Fr) (ks:List Nat):Nat->aC->af->Prop
 | 0,_,_=>False
 | n+1,r,h=>UL P c F E k p S ks n r h\/run P c F E k (.go (false::p)) (.head (mF ks [] (UL P c F E k p S ks n))::S) r h
theorem RF {P:Program} {c:az} {F:Func} {E:En} {k:Nat} {p:List Bool} {S:List Fr} {ks:List Nat} (m:Nat) :
  UL P c F E k p S ks m=fun r h=>∃ m',m'<m/\run P c F E k (.go (false::p)) (.head (mF ks [] (UL P c F E k p S ks m'))::S) r h:=by
 induction m with
 | zero=>funext r h;simp [UL]
 | succ m ih=>
   funext r h;refine propext ⟨?_,?_⟩
   ·intro hh;unfold UL at hh;rcases hh with hh|hh
    ·rw [ih] at hh;obtain ⟨m',h1,h2⟩:=hh;exact ⟨m',by omega,h2⟩
    exact ⟨m,by omega,hh⟩
   rintro ⟨m',h1,h2⟩;unfold UL;by_cases e:m'=m
   ·subst e;exact .inr h2
   refine .inl ?_;rw [ih];exact ⟨m',by omega,h2⟩
theorem yx {P:Program} {c:az} {F:Func} {E:En} {p:List Bool} {S:List Fr} {k:Nat} {body:Code} {r:aC} {h:af} (N:Nat) (gf:cat F p=.loop body) (hm:P.follows .mixedOrders=true)
  (h0:mF (xC r []) [] (UL P c F E k p S (xC r []) N) r h) :
  Holds P E.n E.X (cat F p) (fun e r h=>run P c F E k (.ex e) S r h) r h:=by
 refine bR gf hm (xC r []) [] (fun m r' h'=>run P c F E k (.go (false::p)) (.head (mF (xC r []) [] (UL P c F E k p S (xC r []) m))::S) r' h') ?_ ?_
 ·rw [RF] at h0;unfold mF at h0 ⊢;exact zu (fun r' hh=>let ⟨m,_,h2⟩:=hh;⟨m,h2⟩) h0
 intro m r' h' hJ;rw [RF] at hJ;exact hJ
end Go.Abs
