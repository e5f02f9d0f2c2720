/- Small laws for the walks and contracts of functions; each theorem names its conditions. -/
import Derived.Test.YthmcbjcgdfmmaaaGreatN11
import Derived.Test.YthmcbjcgdfmmaaaGreatN18
import Derived.Test.YthmcbjcgdfmmaaaGreatN8
set_option maxRecDepth 100000
set_option maxHeartbeats 2000000
namespace Go.Abs.Wall
open Go Go.Abs Go.Proofs
end Go.Abs.Wall
namespace Go.Abs.Wall
open Go Go.Abs Go.Proofs
def wY (s:Sp) (p:bU):List az->bU->Prop
 | [],q=>q=p
 | u::us,q=>∃ r,r∈bk s p u/\wY s r us q
theorem wY.snoc {s:Sp}:∀ {us:List az} {p q:bU} {u:az} {r:bU},wY s p us q->r∈bk s q u->wY s p (us++[u]) r
 | [],p,q,u,r,h,h2=>by have h:q=p:=h;subst h;exact ⟨r,h2,rfl⟩
 | v::us,p,q,u,r,h,h2=>by obtain ⟨z,h3,h4⟩:=h;exact ⟨z,h3,wY.snoc h4 h2⟩
def vr (H:aD):List Int->List az->Prop
 | n::t,u::us=>u∈gM H n/\vr H t us
 | [],[]=>True
 | _,_=>False
theorem Ox {a b:az}:sU a b=true↔a=b:=by rw [yS,decide_eq_true_eq]
theorem Vq {u:az} {l:List az}:l.any (sU u)=true↔u∈l:=by
 rw [List.any_eq_true];constructor
 ·rintro ⟨v,h1,h2⟩;rw [Ox.1 h2];exact h1
 intro h;exact ⟨u,h,Ox.2 rfl⟩
theorem FB {H:aD} {s:Sp} {cl:List Int}:∀ (line:List Int) (us:List az) (st:List bU),line.length=us.length ->
  (CO H s cl line us st=true↔vr H line us/\∃ p∈st,∃ q,wY s p us q/\sI s q=true/\q.cl=cl)
 | [],[],st,_=>by
   unfold CO vr;rw [List.any_eq_true];constructor
   ·rintro ⟨p,h1,h2⟩;simp only [Bool.and_eq_true,decide_eq_true_eq] at h2;exact ⟨trivial,p,h1,p,rfl,h2.1,h2.2⟩
   rintro ⟨_,p,h1,q,h2,h3,h4⟩;have h2:q=p:=h2;subst h2;exact ⟨q,h1,by simp [h3,h4]⟩
 | n::t,u::us,st,hl=>by
   unfold CO vr;rw [Bool.and_eq_true,Vq,FB t us _ (by simpa using hl)];constructor
   ·rintro ⟨h1,h2,p,h3,q,h4,h5⟩;rw [List.mem_flatMap] at h3;obtain ⟨p0,h6,h7⟩:=h3;exact ⟨⟨h1,h2⟩,p0,h6,q,⟨p,h7,h4⟩,h5⟩
   rintro ⟨⟨h1,h2⟩,p0,h6,q,⟨p,h7,h4⟩,h5⟩;exact ⟨h1,h2,p,List.mem_flatMap.2 ⟨p0,h6,h7⟩,q,h4,h5⟩
 | [],_::_,_,hl=>by simp at hl
 | _::_,[],_,hl=>by simp at hl
def AF:List (List az)->List az->Prop
 | _,[]=>True
 | r::rest,u::us=>u∈r/\AF rest us
 | [],_::_=>False
theorem FC {E:Env} {x:ar}:∀ (rest:List (List az)) (p:bU) (T:List az),x∈fU E rest p T↔∃ us q,us≠[]/\AF rest us/\wY E.s p us q/\sI E.s q=true/\x=qm E q (T++us)
 | [],p,T=>by
   unfold fU;constructor
   ·intro h;cases h
   rintro ⟨us,q,h1,h2,_⟩;cases us with
   | nil=>exact absurd rfl h1
   | cons u us=>exact h2.elim
 | r::rest,p,T=>by
   unfold fU;rw [List.mem_flatMap];constructor
   ·rintro ⟨u,hu,h⟩;rw [List.mem_flatMap] at h;obtain ⟨q,hq,h⟩:=h;rcases List.mem_append.1 h with h|h
    ·unfold mC at h;split at h
     ·rename_i hh;simp only [Bool.and_eq_true] at hh;rw [List.mem_singleton] at h;exact ⟨[u],q,by simp,⟨hu,by cases rest<;>exact trivial⟩,⟨q,hq,rfl⟩,hh.2,h⟩
     cases h
    rw [FC rest q (T++[u])] at h;obtain ⟨us,q',h1,h2,h3,h4,h5⟩:=h;exact ⟨u::us,q',by simp,⟨hu,h2⟩,⟨q,hq,h3⟩,h4,by rw [h5,List.append_assoc];rfl⟩
   rintro ⟨us,q',h1,h2,h3,h4,h5⟩;cases us with
   | nil=>exact absurd rfl h1
   | cons u us=>
     obtain ⟨hu,h2⟩:=h2;obtain ⟨q,hq,h3⟩:=h3;refine ⟨u,hu,List.mem_flatMap.2 ⟨q,hq,List.mem_append.2 ?_⟩⟩;by_cases bd:us=[]
     ·subst bd;left;have h3:q'=q:=h3;subst h3;unfold mC;rw [if_pos (by simp [h4]),h5];exact List.mem_singleton.2 rfl
     right;rw [FC rest q (T++[u])];exact ⟨us,q',bd,h2,h3,h4,by rw [h5,List.append_assoc];rfl⟩
theorem Jk {H:aD}:∀ {l:List Int} {us:List az},AF (l.map (gM H)) us↔us.length<=l.length/\vr H (l.take us.length) us
 | l,[]=>by simp [AF,vr]
 | [],u::us=>by simp [AF]
 | n::l,u::us=>by
   rw [List.map_cons];unfold AF;rw [Jk,List.length_cons,List.length_cons,List.take_succ_cons];rw [show vr H (n::l.take us.length) (u::us)=(u∈gM H n/\vr H (l.take us.length) us) from rfl];constructor
   ·rintro ⟨h1,h2,h3⟩;exact ⟨by omega,h1,h3⟩
   rintro ⟨h1,h2,h3⟩;exact ⟨h2,by omega,h3⟩
theorem Oy {n:Nat}:∀ {l:List Int} {last c:Int},jr n l last=true->(match l.getLast? with|some z=>z|none=>last)<c->c<n->jr n (l++[c]) last=true
 | [],last,c,_,h1,h2=>by unfold jr jr;simp at h1 ⊢;omega
 | a::t,last,c,h,h1,h2=>by
   unfold jr at h;rw [Bool.and_eq_true] at h;rw [List.cons_append];unfold jr;rw [Bool.and_eq_true];refine ⟨h.1,Oy h.2 ?_ h2⟩;cases t with
   | nil=>simpa using h1
   | cons b t=>
     rw [List.getLast?_cons_cons] at h1;cases hz:(b::t).getLast? with
     | none=>simp at hz
     | some z=>rw [hz] at h1;exact h1
structure yT (H:aD) (p:bU):Prop where
 up:jr H.lex.ao.length p.cl (-1)=true
 bB:p.cl.length<=3
theorem Oz {p:bU} {u:az} {q:bU}:∀ {l:List kU} {c:Int},q∈iK p u l c->∃ j:Nat,j<l.length/\q.cl=p.cl++[c+j]
 | [],c,h=>by cases h
 | k::t,c,h=>by
   unfold iK at h;rcases List.mem_append.1 h with h|h
   ·split at h
    ·rw [List.mem_singleton] at h;subst h;exact ⟨0,by simp,by simp⟩
    cases h
   obtain ⟨j,h1,h2⟩:=Oz h;exact ⟨j+1,by simpa using h1,by rw [h2];congr 2;omega⟩
theorem Vr (cl:List Int):iY cl=(match cl.getLast? with|some z=>z|none=>-1)+1:=by unfold iY;cases cl.getLast?<;>rfl
theorem Vs {s:Sp} {p q:bU} {u:az} (hp:kL s p) (h:yT s.H p) (hq:q∈bk s p u):yT s.H q:=by
 have same:q.cl=p.cl->yT s.H q:=fun e=>⟨by rw [e];exact h.up,by rw [e];exact h.bB⟩;have vu:∀ {a:bU},a.cl=p.cl->q∈[a]->yT s.H q:=fun e hm=>same (by rw [List.mem_singleton.1 hm];exact e);unfold bk at hq;split at hq
 ·unfold lI at hq;split at hq
  ·split at hq
   ·exact vu (by rfl) hq
   cases hq
  split at hq
  ·rename_i h3;obtain ⟨j,hj,e⟩:=Oz hq;have hf:=FD hp;rw [List.length_drop] at hj;refine ⟨?_,by rw [e,List.length_append,List.length_singleton];omega⟩;rw [e];refine Oy h.up ?_ ?_
   ·have:=Vr p.cl;omega
   omega
  cases hq
 split at hq
 ·split at hq
  ·cases hq
  exact vu (by rfl) hq
 split at hq
 ·split at hq
  ·cases hq
  exact vu (by rfl) hq
 split at hq
 ·split at hq
  ·cases hq
  exact vu (by rfl) hq
 cases hq
theorem OA {s:Sp} (hs:lW s):∀ {us:List az} {p q:bU},(∀ u∈us,kK u)->kL s p->yT s.H p->wY s p us q->kL s q/\yT s.H q
 | [],p,q,_,hp,hc,h=>by have h:q=p:=h;subst h;exact ⟨hp,hc⟩
 | u::us,p,q,hu,hp,hc,⟨r,h1,h2⟩=>OA hs (fun v hv=>hu v (by simp [hv])) (wC hs hp (hu u (by simp)) r h1) (Vs hp hc h1) h2
theorem Jl {H:aD} (hH:kc H):∀ {l:List Int} {us:List az},(∀ s∈l,0<=s/\s<H.list.aK.length)->vr H l us->∀ u∈us,kK u
 | [],[],_,_,u,hu=>by cases hu
 | [],_::_,_,h,_,_=>h.elim
 | _::_,[],_,h,_,_=>h.elim
 | n::l,v::us,hl,⟨h1,h2⟩,u,hu=>by
   rcases List.mem_cons.1 hu with rfl|hu
   ·have mN:=hl n (by simp);have aV:=(sK hH.qy).each _ (List.mem_of_getElem? (yB mN.1 mN.2));exact (Fb (p:=H.period) aV).2 _ h1
   exact Jl hH (fun s hs=>hl s (by simp [hs])) h2 u hu
theorem Vt (H:aD):yT H jj:=⟨rfl,by simp [jj]⟩
def OB (H:aD) (i:Nat) (w:eJ):ar:=⟨i,(i:Int)+w.ay.length,nT H w,w⟩
theorem Jm {H:aD} {line:List Int} (hL:Aq H line) (hle:js H.lex=0) {i:Nat} (hi:i<=line.length) {x:ar} :
  x∈ei H line i↔(fC H.lex x.word.form=0/\i+x.word.ay.length<=line.length/\tY H ((line.drop i).take x.word.ay.length) x.word=true)/\x=OB H i x.word:=by
 have hH:=hL.ka;have gW:∀ s∈(line.drop i).take 12,0<=s/\s<H.list.aK.length:=fun s hs=>hL.aK s (List.mem_of_mem_drop (List.mem_of_mem_take hs));have cd:∀ n,n<=12->((line.drop i).take 12).take n=(line.drop i).take n:=fun n hn=>by rw [List.take_take];congr 1;omega
 unfold ei lB;rw [Jn];unfold mE;rw [List.mem_flatMap];constructor
 ·rintro ⟨e,he,hx⟩;unfold ny at hx;rw [List.mem_flatMap] at hx;obtain ⟨k,hk,hx⟩:=hx;rw [List.mem_range] at he hk;unfold ic at hx;split at hx
  ·cases hx
  rename_i CP;unfold df at hx;rw [Ca,List.nil_append,FC] at hx;obtain ⟨us,q,h1,h2,h3,h4,h5⟩:=hx;rw [List.nil_append] at h5;unfold oM at h2;rw [Jk] at h2;have Q4:((line.drop i).take 12).length<=12:=by rw [List.length_take];omega
  have cX:((line.drop i).take 12).length<=line.length - i:=by rw [List.length_take,List.length_drop];omega
  have wS:1<=us.length:=List.length_pos_iff.2 h1;have mA:lW (dD H i e ((k:Int) - 1)).s:=BU hH (by omega) (by omega) (by omega);have qo:=Jl hH (fun s hs=>gW s (List.mem_of_mem_take hs)) h2.2;obtain ⟨oL,OC⟩:=OA mA qo (Cb _) (Vt _) h3;rw [cd _ (by omega)] at h2;subst h5;have Vu:(qm (dD H i e ((k:Int) - 1)) q us).word.ay=us:=rfl;have Vv:(qm (dD H i e ((k:Int) - 1)) q us).word.form=⟨e,(k:Int) - 1,q.cl⟩:=rfl;rw [Vu,Vv];refine ⟨⟨?_,by omega,?_⟩,rfl⟩
  ·unfold fC;rw [if_neg (by rw [hle];simp),if_neg (by rw [Bool.not_eq_false,dL];show 0<=(e:Int)/\(e:Int)<=_;omega),if_neg,if_neg (by have:=OC.bB;show ¬ 3<q.cl.length;omega),if_pos (show jr H.lex.ao.length (br.mk (e:Int) ((k:Int) - 1) q.cl).ao (-1)=true from OC.up)];unfold sV;unfold wE at CP;simp only [Bool.and_eq_true,Bool.or_eq_true,Bool.not_eq_true',decide_eq_true_eq,decide_eq_false_iff_not,not_and,Classical.not_not,not_or] at CP ⊢;intro aM;refine ⟨?_,CP (by omega)⟩;rw [Bool.eq_false_iff,ne_eq,Bool.not_eq_true,Bool.not_eq_false];rw [dL];omega
  unfold tY;rw [Bool.and_eq_true,Bool.and_eq_true,dL,decide_eq_true_eq];have eu:((line.drop i).take us.length).length=us.length:=by rw [List.length_take,List.length_drop];omega
  refine ⟨⟨⟨by omega,by omega⟩,by show _=us.length;exact eu⟩,?_⟩;rw [FB _ _ _ (by show _=us.length;exact eu)];exact ⟨h2.2,jj,by simp,q,h3,h4,rfl⟩
 rintro ⟨⟨h1,h2,h3⟩,h4⟩;obtain ⟨w,hw⟩:∃ w,w=x.word:=⟨_,rfl⟩;rw [<- hw] at h1 h2 h3 h4;subst h4;have hf:=qF h1;unfold tY at h3;rw [Bool.and_eq_true,Bool.and_eq_true,dL,decide_eq_true_eq] at h3;obtain ⟨⟨h5,h6⟩,h7⟩:=h3;rw [FB _ _ _ h6] at h7;obtain ⟨h8,p,hp,q,h9,Vw,OD⟩:=h7;rw [List.mem_singleton] at hp;subst hp;have he:=hf.entry;have hn:-1<=w.form.ending/\w.form.ending<H.lex.bM.length:=by rcases hf.ending with h|h<;>omega
 refine ⟨w.form.entry.toNat,List.mem_range.2 (by omega),?_⟩;unfold ny;refine List.mem_flatMap.2 ⟨(w.form.ending+1).toNat,List.mem_range.2 (by omega),?_⟩;have e1:((w.form.entry.toNat:Nat):Int)=w.form.entry:=(by omega);have e2:(((w.form.ending+1).toNat:Nat):Int) - 1=w.form.ending:=(by omega);unfold ic;rw [e1,e2]
 have CP:wE H.lex w.form.entry w.form.ending≠true:=by
  unfold wE;simp only [Bool.and_eq_true,Bool.not_eq_true',decide_eq_true_eq,decide_eq_false_iff_not,ne_eq,not_and,Classical.not_not];intro h0;rcases hf.ending with h|h
  ·omega
  exact h.2.2
 rw [if_neg CP];unfold df;rw [Ca,List.nil_append,FC];refine ⟨w.ay,q,?_,?_,h9,Vw,?_⟩
 ·intro h0;rw [h6,h0] at h5;simp at h5
 ·unfold oM;rw [Jk];have eu:((line.drop i).take 12).length=min 12 (line.length - i):=(by rw [List.length_take,List.length_drop]);refine ⟨by omega,?_⟩;rw [cd _ (by omega)];exact h8
 obtain ⟨⟨fe,fn,fc⟩,us⟩:=w;simp only at OD;rw [List.nil_append];unfold qm OB dD;simp only;rw [OD]
end Go.Abs.Wall
namespace Go.Abs.Wall.Lst
open Go Go.Abs Go.Proofs Go.Abs.Wall
theorem Jo (cls:List (List Int)) (k:Nat):∀ (t r:Nat),r<dz cls t k->∃ t',t'<t/\∃ x,(aW cls)[t']?=some x/\x.aR=k/\x.aO=r
 | 0,r,h=>by cases h
 | t+1,r,h=>by
   cases hm:(aW cls)[t]? with
   | none=>
     rw [UH hm] at h;obtain ⟨t',h1,h2⟩:=Jo cls k t r h;exact ⟨t',by omega,h2⟩
   | some x=>
     by_cases h3:r<dz cls t k
     ·obtain ⟨t',h1,h2⟩:=Jo cls k t r h3;exact ⟨t',by omega,h2⟩
     rw [wK hm] at h;unfold up at h;split at h
     ·rename_i he;have h5:=(mG hm).1;refine ⟨t,by omega,x,hm,he.symm,?_⟩;rw [h5,<- he];rw [<- he] at h;omega
     omega
theorem Vx {cls:List (List Int)} {k r:Nat} {l:List Int} {c:Int} (hl:cls[k]?=some l) (hc:l[r]?=some c):(⟨c,k,r⟩:Wy)∈aW cls:=by
 have aP:r<dz cls (aW cls).length k:=by
  refine Classical.byContradiction fun hn=>?_;have hb:fK cls (dz cls (aW cls).length)=none:=by rw [<- kP];exact List.getElem?_eq_none (Nat.le_refl _)
  have hr:dz cls (aW cls).length k<l.length:=by have:=(List.getElem?_eq_some_iff.1 hc).1;omega
  obtain ⟨c',bN⟩:=aF hr;exact Iu hb ⟨c',k,dz cls (aW cls).length k⟩ ⟨rfl,l,hl,bN⟩
 obtain ⟨t,_,x,hx,he,hr⟩:=Jo cls k _ r aP;obtain ⟨_,l',h2,h3⟩:=mG hx
 have:x=⟨c,k,r⟩:=by
  obtain ⟨xc,xe,xr⟩:=x;simp only at he hr h2 h3;subst he hr;rw [hl] at h2;cases h2
  rw [hc] at h3;cases h3
  rfl
 rw [<- this];exact List.mem_of_getElem? hx
def uj (g:List (List ar)):Nat->List ar->Prop
 | i,[]=>i=g.length
 | i,x::l=>∃ es,g[i]?=some es/\x∈es/\uj g x.to.toNat l
theorem wZ {g:List (List ar)} (hg:fJ g):∀ (d i:Nat),i+d=g.length->∀ p,p∈bz g i↔uj g i p.2/\p.1=cA p.2:=by
 intro d;induction d using Nat.strongRecOn with
 | _ d ih=>
   intro i hi p;by_cases h:i<g.length
   ·constructor
    ·intro hp;refine ⟨?_,(Fy hg d i hi p hp).symm⟩;obtain ⟨es,x,q,bp,hx,hq,rfl⟩:=Vp hg h hp;have ho:=hg.aR i es bp x hx;have h5:=ho.lo;have h6:=ho.hi;exact ⟨es,bp,hx,((ih (g.length - x.to.toNat) (by omega) x.to.toNat (by omega) q).1 hq).1⟩
    rintro ⟨hp,hc⟩;obtain ⟨pc,pl⟩:=p;simp only at hp hc;cases pl with
    | nil=>have hp:i=g.length:=hp;omega
    | cons x l=>
      obtain ⟨es,bp,hx,hp⟩:=hp;have hE:=hg.aR i es bp;have ho:=hE x hx;have h5:=ho.lo;have h6:=ho.hi;have hq:=(ih (g.length - x.to.toNat) (by omega) x.to.toNat (by omega) (cA l,l)).2 ⟨hp,rfl⟩;obtain ⟨r,hr⟩:=List.mem_iff_getElem?.1 hq;obtain ⟨k,hk⟩:=List.mem_iff_getElem?.1 hx;rw [wM bp hE,List.mem_map];refine ⟨⟨x.cost+cA l,k,r⟩,Vx (l:=pB x (bz g x.to.toNat)) ?_ ?_,?_⟩
      ·unfold dE;rw [List.getElem?_map,hk];rfl
      ·unfold pB;rw [List.getElem?_map,hr];rfl
      unfold nR;show (match es[k]? with|none=>_|some x=>_)=_;rw [hk];show (x.cost+cA l,x::((bz g x.to.toNat).getD r (0,[])).2)=_;rw [List.getD_eq_getElem?_getD,hr,hc,yQ];rfl
   have:i=g.length:=(by omega);subst this;rw [yH,List.mem_singleton];constructor
   ·rintro rfl;exact ⟨rfl,rfl⟩
   rintro ⟨hp,hc⟩;obtain ⟨pc,pl⟩:=p;cases pl with
   | nil=>rw [show pc=0 from hc]
   | cons x l=>
     obtain ⟨es,bp,_⟩:=hp;rw [List.getElem?_eq_none (Nat.le_refl _)] at bp;cases bp
def Rows (g:List (List ar)):Prop:=∀ (i:Nat) es,g[i]?=some es->∀ (j k:Nat) x y,j<k->es[j]?=some x->es[k]?=some y->rL x.word y.word<0
end Go.Abs.Wall.Lst
namespace Go.Abs.Wall.Lst
open Go Go.Abs Go.Proofs Go.Abs.Wall
end Go.Abs.Wall.Lst
