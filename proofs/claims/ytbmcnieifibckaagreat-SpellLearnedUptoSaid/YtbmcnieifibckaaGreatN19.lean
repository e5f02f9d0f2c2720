/- What is proved: small laws for the walks of this seat, and contracts of its functions. No condition but those each theorem names. -/
import Derived.Test.YtbmcnieifibckaaGreatN11
import Derived.Test.YtbmcnieifibckaaGreatN18
import Derived.Test.YtbmcnieifibckaaGreatN8
set_option maxRecDepth 100000
set_option maxHeartbeats 2000000
set_option linter.unusedVariables false
set_option linter.unusedSimpArgs false
namespace Go.Abs.Wall
open Go Go.Abs Go.Proofs
end Go.Abs.Wall
namespace Go.Abs.Wall
open Go Go.Abs Go.Proofs
def rN (s:Sp) (p:bn):List ay->bn->Prop
 | [],q=>q=p
 | u::us,q=>∃ r,r∈aX s p u/\rN s r us q
theorem rN.snoc {s:Sp}:∀ {us:List ay} {p q:bn} {u:ay} {r:bn},rN s p us q->r∈aX s q u->rN s p (us++[u]) r
 | [],p,q,u,r,h,h2=>by have h:q=p:=h;subst h;exact ⟨r,h2,rfl⟩
 | v::us,p,q,u,r,h,h2=>by obtain ⟨z,h3,h4⟩:=h;exact ⟨z,h3,rN.snoc h4 h2⟩
def uk (H:aj):List Int->List ay->Prop
 | n::t,u::us=>u∈gn H n/\uk H t us
 | [],[]=>True
 | _,_=>False
theorem Pe {a b:ay}:pI a b=true↔a=b:=by rw [AF,decide_eq_true_eq]
theorem Wv {u:ay} {l:List ay}:l.any (pI u)=true↔u∈l:=by
 rw [List.any_eq_true];constructor
 ·rintro ⟨v,h1,h2⟩;rw [Pe.1 h2];exact h1
 intro h;exact ⟨u,h,Pe.2 rfl⟩
theorem yR {H:aj} {s:Sp} {cl:List Int}:∀ (line:List Int) (us:List ay) (st:List bn),line.length=us.length ->
  (um H s cl line us st=true↔uk H line us/\∃ p∈st,∃ q,rN s p us q/\mO s q=true/\q.cl=cl)
 | [],[],st,_=>by
   unfold um uk;rw [List.any_eq_true];constructor
   ·rintro ⟨p,h1,h2⟩;simp only [Bool.and_eq_true,decide_eq_true_eq] at h2;exact ⟨trivial,p,h1,p,rfl,h2.1,h2.2⟩
   rintro ⟨_,p,h1,q,h2,h3,h4⟩;have h2:q=p:=h2;subst h2;exact ⟨q,h1,by simp [h3,h4]⟩
 | n::t,u::us,st,hl=>by
   unfold um uk;rw [Bool.and_eq_true,Wv,yR t us _ (by simpa using hl)];constructor
   ·rintro ⟨h1,h2,p,h3,q,h4,h5⟩;rw [List.mem_flatMap] at h3;obtain ⟨p0,h6,h7⟩:=h3;exact ⟨⟨h1,h2⟩,p0,h6,q,⟨p,h7,h4⟩,h5⟩
   rintro ⟨⟨h1,h2⟩,p0,h6,q,⟨p,h7,h4⟩,h5⟩;exact ⟨h1,h2,p,List.mem_flatMap.2 ⟨p0,h6,h7⟩,q,h4,h5⟩
 | [],_::_,_,hl=>by simp at hl
 | _::_,[],_,hl=>by simp at hl
def AG:List (List ay)->List ay->Prop
 | _,[]=>True
 | r::rest,u::us=>u∈r/\AG rest us
 | [],_::_=>False
theorem yS {E:Env} {x:av}:∀ (rest:List (List ay)) (p:bn) (T:List ay),x∈fj E rest p T↔∃ us q,us≠[]/\AG rest us/\rN E.s p us q/\mO E.s q=true/\x=pw E q (T++us)
 | [],p,T=>by
   unfold fj;constructor
   ·intro h;cases h
   rintro ⟨us,q,h1,h2,_⟩;cases us with
   | nil=>exact absurd rfl h1
   | cons u us=>exact h2.elim
 | r::rest,p,T=>by
   unfold fj;rw [List.mem_flatMap];constructor
   ·rintro ⟨u,hu,h⟩;rw [List.mem_flatMap] at h;obtain ⟨q,hq,h⟩:=h;rcases List.mem_append.1 h with h|h
    ·unfold jO at h;split at h
     ·rename_i hh;simp only [Bool.and_eq_true] at hh;rw [List.mem_singleton] at h;exact ⟨[u],q,by simp,⟨hu,by cases rest<;>exact trivial⟩,⟨q,hq,rfl⟩,hh.2,h⟩
     cases h
    rw [yS rest q (T++[u])] at h;obtain ⟨us,q',h1,h2,h3,h4,h5⟩:=h;exact ⟨u::us,q',by simp,⟨hu,h2⟩,⟨q,hq,h3⟩,h4,by rw [h5,List.append_assoc];rfl⟩
   rintro ⟨us,q',h1,h2,h3,h4,h5⟩;cases us with
   | nil=>exact absurd rfl h1
   | cons u us=>
     obtain ⟨hu,h2⟩:=h2;obtain ⟨q,hq,h3⟩:=h3;refine ⟨u,hu,List.mem_flatMap.2 ⟨q,hq,List.mem_append.2 ?_⟩⟩;by_cases bd:us=[]
     ·subst bd;left;have h3:q'=q:=h3;subst h3;unfold jO;rw [if_pos (by simp [h4]),h5];exact List.mem_singleton.2 rfl
     right;rw [yS rest q (T++[u])];exact ⟨us,q',bd,h2,h3,h4,by rw [h5,List.append_assoc];rfl⟩
theorem JJ {H:aj}:∀ {l:List Int} {us:List ay},AG (l.map (gn H)) us↔us.length<=l.length/\uk H (l.take us.length) us
 | l,[]=>by simp [AG,uk]
 | [],u::us=>by simp [AG]
 | n::l,u::us=>by
   rw [List.map_cons];unfold AG;rw [JJ,List.length_cons,List.length_cons,List.take_succ_cons];rw [show uk H (n::l.take us.length) (u::us)=(u∈gn H n/\uk H (l.take us.length) us) from rfl];constructor
   ·rintro ⟨h1,h2,h3⟩;exact ⟨by omega,h1,h3⟩
   rintro ⟨h1,h2,h3⟩;exact ⟨h2,by omega,h3⟩
theorem Pf {n:Nat}:∀ {l:List Int} {last c:Int},iS n l last=true->(match l.getLast? with|some z=>z|none=>last)<c->c<n->iS n (l++[c]) last=true
 | [],last,c,_,h1,h2=>by unfold iS iS;simp at h1 ⊢;omega
 | a::t,last,c,h,h1,h2=>by
   unfold iS at h;rw [Bool.and_eq_true] at h;rw [List.cons_append];unfold iS;rw [Bool.and_eq_true];refine ⟨h.1,Pf h.2 ?_ h2⟩;cases t with
   | nil=>simpa using h1
   | cons b t=>
     rw [List.getLast?_cons_cons] at h1;cases hz:(b::t).getLast? with
     | none=>simp at hz
     | some z=>rw [hz] at h1;exact h1
structure yT (H:aj) (p:bn):Prop where
 up:iS H.lex.ar.length p.cl (-1)=true
 bB:p.cl.length<=3
theorem FZ {p:bn} {u:ay} {q:bn}:∀ {l:List iT} {c:Int},q∈eW p u l c->∃ j:Nat,j<l.length/\q.cl=p.cl++[c+j]
 | [],c,h=>by cases h
 | k::t,c,h=>by
   unfold eW at h;rcases List.mem_append.1 h with h|h
   ·split at h
    ·rw [List.mem_singleton] at h;subst h;exact ⟨0,by simp,by simp⟩
    cases h
   obtain ⟨j,h1,h2⟩:=FZ h;exact ⟨j+1,by simpa using h1,by rw [h2];congr 2;omega⟩
theorem JK (cl:List Int):fp cl=(match cl.getLast? with|some z=>z|none=>-1)+1:=by unfold fp;cases cl.getLast?<;>rfl
theorem Ww {s:Sp} {p q:bn} {u:ay} (hp:jP s p) (h:yT s.H p) (hq:q∈aX s p u):yT s.H q:=by
 have same:q.cl=p.cl->yT s.H q:=fun e=>⟨by rw [e];exact h.up,by rw [e];exact h.bB⟩;have pJ:∀ {a:bn},a.cl=p.cl->q∈[a]->yT s.H q:=fun e hm=>same (by rw [List.mem_singleton.1 hm];exact e);unfold aX at hq;split at hq
 ·unfold iy at hq;split at hq
  ·split at hq
   ·exact pJ (by rfl) hq
   cases hq
  split at hq
  ·rename_i h3;obtain ⟨j,hj,e⟩:=FZ hq;have hf:=Ga hp;rw [List.length_drop] at hj;refine ⟨?_,by rw [e,List.length_append,List.length_singleton];omega⟩;rw [e];refine Pf h.up ?_ ?_
   ·have:=JK p.cl;omega
   omega
  cases hq
 split at hq
 ·split at hq
  ·cases hq
  exact pJ (by rfl) hq
 split at hq
 ·split at hq
  ·cases hq
  exact pJ (by rfl) hq
 split at hq
 ·split at hq
  ·cases hq
  exact pJ (by rfl) hq
 cases hq
theorem Pg {s:Sp} (hs:jN s):∀ {us:List ay} {p q:bn},(∀ u∈us,iu u)->jP s p->yT s.H p->rN s p us q->jP s q/\yT s.H q
 | [],p,q,_,hp,hc,h=>by have h:q=p:=h;subst h;exact ⟨hp,hc⟩
 | u::us,p,q,hu,hp,hc,⟨r,h1,h2⟩=>Pg hs (fun v hv=>hu v (by simp [hv])) (wE hs hp (hu u (by simp)) r h1) (Ww hp hc h1) h2
theorem JL {H:aj} (hH:jg H):∀ {l:List Int} {us:List ay},(∀ s∈l,0<=s/\s<H.list.aA.length)->uk H l us->∀ u∈us,iu u
 | [],[],_,_,u,hu=>by cases hu
 | [],_::_,_,h,_,_=>h.elim
 | _::_,[],_,h,_,_=>h.elim
 | n::l,v::us,hl,⟨h1,h2⟩,u,hu=>by
   rcases List.mem_cons.1 hu with rfl|hu
   ·have qH:=hl n (by simp);have bf:=(qA hH.nN).each _ (List.mem_of_getElem? (vg qH.1 qH.2));exact (Cn (p:=H.period) bf).2 _ h1
   exact JL hH (fun s hs=>hl s (by simp [hs])) h2 u hu
theorem Wx (H:aj):yT H fI:=⟨rfl,by simp [fI]⟩
def pK (H:aj) (i:Nat) (w:bU):av:=⟨i,(i:Int)+w.ai.length,gC H w,w⟩
theorem AH {H:aj} {line:List Int} (hL:rF H line) (hle:iz H.lex=0) {i:Nat} (hi:i<=line.length) {x:av} :
  x∈dE H line i↔(dZ H.lex x.word.form=0/\i+x.word.ai.length<=line.length/\jl H ((line.drop i).take x.word.ai.length) x.word=true)/\x=pK H i x.word:=by
 have hH:=hL.ia;have vB:∀ s∈(line.drop i).take 12,0<=s/\s<H.list.aA.length:=fun s hs=>hL.aA s (List.mem_of_mem_drop (List.mem_of_mem_take hs));have cj:∀ n,n<=12->((line.drop i).take 12).take n=(line.drop i).take n:=fun n hn=>by rw [List.take_take];congr 1;omega
 unfold dE kE;rw [JM];unfold lE;rw [List.mem_flatMap];constructor
 ·rintro ⟨e,he,hx⟩;unfold mm at hx;rw [List.mem_flatMap] at hx;obtain ⟨k,hk,hx⟩:=hx;rw [List.mem_range] at he hk;unfold gB at hx;split at hx
  ·cases hx
  rename_i CR;unfold cS at hx;rw [Am,List.nil_append,yS] at hx;obtain ⟨us,q,h1,h2,h3,h4,h5⟩:=hx;rw [List.nil_append] at h5;unfold mR at h2;rw [JJ] at h2;have V1:((line.drop i).take 12).length<=12:=by rw [List.length_take];omega
  have mL:((line.drop i).take 12).length<=line.length - i:=by rw [List.length_take,List.length_drop];omega
  have ui:1<=us.length:=List.length_pos_iff.2 h1;have jf:jN (dD H i e ((k:Int) - 1)).s:=Ai hH (by omega) (by omega) (by omega);have kV:=JL hH (fun s hs=>vB s (List.mem_of_mem_take hs)) h2.2;obtain ⟨oI,Ph⟩:=Pg jf kV (An _) (Wx _) h3;rw [cj _ (by omega)] at h2;subst h5;have Wz:(pw (dD H i e ((k:Int) - 1)) q us).word.ai=us:=rfl;have wU:(pw (dD H i e ((k:Int) - 1)) q us).word.form=⟨e,(k:Int) - 1,q.cl⟩:=rfl;rw [Wz,wU];refine ⟨⟨?_,by omega,?_⟩,rfl⟩
  ·unfold dZ;rw [if_neg (by rw [hle];simp),if_neg (by rw [Bool.not_eq_false,dY];show 0<=(e:Int)/\(e:Int)<=_;omega),if_neg,if_neg (by have:=Ph.bB;show ¬ 3<q.cl.length;omega),if_pos (show iS H.lex.ar.length (aZ.mk (e:Int) ((k:Int) - 1) q.cl).ar (-1)=true from Ph.up)];unfold sV;unfold wF at CR;simp only [Bool.and_eq_true,Bool.or_eq_true,Bool.not_eq_true',decide_eq_true_eq,decide_eq_false_iff_not,not_and,Classical.not_not,not_or] at CR ⊢;intro aJ;refine ⟨?_,CR (by omega)⟩;rw [Bool.eq_false_iff,ne_eq,Bool.not_eq_true,Bool.not_eq_false];rw [dY];omega
  unfold jl;rw [Bool.and_eq_true,Bool.and_eq_true,dY,decide_eq_true_eq];have gD:((line.drop i).take us.length).length=us.length:=by rw [List.length_take,List.length_drop];omega
  refine ⟨⟨⟨by omega,by omega⟩,by show _=us.length;exact gD⟩,?_⟩;rw [yR _ _ _ (by show _=us.length;exact gD)];exact ⟨h2.2,fI,by simp,q,h3,h4,rfl⟩
 rintro ⟨⟨h1,h2,h3⟩,h4⟩;obtain ⟨w,hw⟩:∃ w,w=x.word:=⟨_,rfl⟩;rw [<- hw] at h1 h2 h3 h4;subst h4;have hf:=mn h1;unfold jl at h3;rw [Bool.and_eq_true,Bool.and_eq_true,dY,decide_eq_true_eq] at h3;obtain ⟨⟨h5,h6⟩,h7⟩:=h3;rw [yR _ _ _ h6] at h7;obtain ⟨h8,p,hp,q,h9,Pj,Pk⟩:=h7;rw [List.mem_singleton] at hp;subst hp;have he:=hf.entry;have hn:-1<=w.form.ending/\w.form.ending<H.lex.bO.length:=by rcases hf.ending with h|h<;>omega
 refine ⟨w.form.entry.toNat,List.mem_range.2 (by omega),?_⟩;unfold mm;refine List.mem_flatMap.2 ⟨(w.form.ending+1).toNat,List.mem_range.2 (by omega),?_⟩;have e1:((w.form.entry.toNat:Nat):Int)=w.form.entry:=(by omega);have e2:(((w.form.ending+1).toNat:Nat):Int) - 1=w.form.ending:=(by omega);unfold gB;rw [e1,e2]
 have CR:wF H.lex w.form.entry w.form.ending≠true:=by
  unfold wF;simp only [Bool.and_eq_true,Bool.not_eq_true',decide_eq_true_eq,decide_eq_false_iff_not,ne_eq,not_and,Classical.not_not];intro h0;rcases hf.ending with h|h
  ·omega
  exact h.2.2
 rw [if_neg CR];unfold cS;rw [Am,List.nil_append,yS];refine ⟨w.ai,q,?_,?_,h9,Pj,?_⟩
 ·intro h0;rw [h6,h0] at h5;simp at h5
 ·unfold mR;rw [JJ];have gD:((line.drop i).take 12).length=min 12 (line.length - i):=(by rw [List.length_take,List.length_drop]);refine ⟨by omega,?_⟩;rw [cj _ (by omega)];exact h8
 obtain ⟨⟨fe,fn,fc⟩,us⟩:=w;simp only at Pk;rw [List.nil_append];unfold pw pK dD;simp only;rw [Pk]
end Go.Abs.Wall
namespace Go.Abs.Wall.Lst
open Go Go.Abs Go.Proofs Go.Abs.Wall
theorem WA (cls:List (List Int)) (t k:Nat):cU cls t k<=cU cls (t+1) k/\cU cls (t+1) k<=cU cls t k+1:=by
 cases h:(aW cls)[t]? with
 | none=>rw [Oo h];omega
 | some x=>
   rw [ue h];unfold up;split<;>simp_all
theorem Pl (cls:List (List Int)) (k:Nat) {t1 t2:Nat} (h:t1<=t2):cU cls t1 k<=cU cls t2 k:=by
 induction h with
 | refl=>exact Nat.le_refl _
 | step _ ih=>exact Nat.le_trans ih (WA cls _ k).1
theorem JN (cls:List (List Int)) (k:Nat):∀ (t r:Nat),r<cU cls t k->∃ t',t'<t/\∃ x,(aW cls)[t']?=some x/\x.aO=k/\x.aM=r
 | 0,r,h=>by cases h
 | t+1,r,h=>by
   cases hm:(aW cls)[t]? with
   | none=>
     rw [Oo hm] at h;obtain ⟨t',h1,h2⟩:=JN cls k t r h;exact ⟨t',by omega,h2⟩
   | some x=>
     by_cases h3:r<cU cls t k
     ·obtain ⟨t',h1,h2⟩:=JN cls k t r h3;exact ⟨t',by omega,h2⟩
     rw [ue hm] at h;unfold up at h;split at h
     ·rename_i he;have h5:=(jR hm).1;refine ⟨t,by omega,x,hm,he.symm,?_⟩;rw [h5,<- he];rw [<- he] at h;omega
     omega
theorem WB {cls:List (List Int)} {k r:Nat} {l:List Int} {c:Int} (hl:cls[k]?=some l) (hc:l[r]?=some c):(⟨c,k,r⟩:Wy)∈aW cls:=by
 have aI:r<cU cls (aW cls).length k:=by
  refine Classical.byContradiction fun hn=>?_;have hb:gU cls (cU cls (aW cls).length)=none:=by rw [<- lG];exact List.getElem?_eq_none (Nat.le_refl _)
  have hr:cU cls (aW cls).length k<l.length:=by have:=(List.getElem?_eq_some_iff.1 hc).1;omega
  obtain ⟨c',bQ⟩:=aL hr;exact IW hb ⟨c',k,cU cls (aW cls).length k⟩ ⟨rfl,l,hl,bQ⟩
 obtain ⟨t,_,x,hx,he,hr⟩:=JN cls k _ r aI;obtain ⟨_,l',h2,h3⟩:=jR hx
 have:x=⟨c,k,r⟩:=by
  obtain ⟨xc,xe,xr⟩:=x;simp only at he hr h2 h3;subst he hr;rw [hl] at h2;cases h2
  rw [hc] at h3;cases h3
  rfl
 rw [<- this];exact List.mem_of_getElem? hx
def Up (l:List Int):Prop:=∀ (i j:Nat) a b,i<=j->l[i]?=some a->l[j]?=some b->a<=b
theorem WC {cls:List (List Int)} (hs:∀ l∈cls,Up l) {t1 t2:Nat} {x y:Wy} (ht:t1<t2) (hx:(aW cls)[t1]?=some x) (hy:(aW cls)[t2]?=some y) :
  dm x y\/(x.aO=y.aO/\x.aM<y.aM/\x.cost<=y.cost):=by
 obtain ⟨h1,l1,h2,h3⟩:=jR hx;obtain ⟨h4,l2,h5,h6⟩:=jR hy;by_cases he:x.aO=y.aO
 ·right;have hm:=Pl cls x.aO (show t1+1<=t2 by omega);have aI:x.aM<y.aM:=by rw [ue hx] at hm;unfold up at hm;rw [if_pos rfl] at hm;rw [h1,h4,<- he];omega
  rw [he] at h2;rw [h5] at h2;cases h2
  exact ⟨he,aI,hs l1 (List.mem_of_getElem? h5) _ _ _ _ (by omega) h3 h6⟩
 left;have hle:cU cls t1 y.aO<=y.aM:=by rw [h4];exact Pl cls _ (by omega)
 have aI:=(List.getElem?_eq_some_iff.1 h6).1;obtain ⟨c,hc⟩:=aL (l:=l2) (i:=cU cls t1 y.aO) (by omega);rw [lG] at hx;have hz:=(Av hx).2 ⟨c,y.aO,cU cls t1 y.aO⟩ ⟨rfl,l2,h5,hc⟩;have V2:=hs l2 (List.mem_of_getElem? h5) _ _ _ _ hle hc h6;rcases hz with e|e
 ·exact absurd (congrArg Wy.aO e).symm he
 unfold dm at e ⊢;simp only at e;omega
def gG (g:List (List av)):Nat->List av->Prop
 | i,[]=>i=g.length
 | i,x::l=>∃ es,g[i]?=some es/\x∈es/\gG g x.to.toNat l
theorem mu {g:List (List av)} (hg:fX g):∀ (d i:Nat),i+d=g.length->∀ p,p∈bk g i↔gG g i p.2/\p.1=cn p.2:=by
 intro d;induction d using Nat.strongRecOn with
 | _ d ih=>
   intro i hi p;by_cases h:i<g.length
   ·constructor
    ·intro hp;refine ⟨?_,(FV hg d i hi p hp).symm⟩;obtain ⟨es,x,q,bc,hx,hq,rfl⟩:=Wu hg h hp;have ho:=hg.aO i es bc x hx;have h5:=ho.lo;have h6:=ho.hi;exact ⟨es,bc,hx,((ih (g.length - x.to.toNat) (by omega) x.to.toNat (by omega) q).1 hq).1⟩
    rintro ⟨hp,hc⟩;obtain ⟨pc,pl⟩:=p;simp only at hp hc;cases pl with
    | nil=>have hp:i=g.length:=hp;omega
    | cons x l=>
      obtain ⟨es,bc,hx,hp⟩:=hp;have hE:=hg.aO i es bc;have ho:=hE x hx;have h5:=ho.lo;have h6:=ho.hi;have hq:=(ih (g.length - x.to.toNat) (by omega) x.to.toNat (by omega) (cn l,l)).2 ⟨hp,rfl⟩;obtain ⟨r,hr⟩:=List.mem_iff_getElem?.1 hq;obtain ⟨k,hk⟩:=List.mem_iff_getElem?.1 hx;rw [vl bc hE,List.mem_map];refine ⟨⟨x.cost+cn l,k,r⟩,WB (l:=lR x (bk g x.to.toNat)) ?_ ?_,?_⟩
      ·unfold cP;rw [List.getElem?_map,hk];rfl
      ·unfold lR;rw [List.getElem?_map,hr];rfl
      unfold lf;show (match es[k]? with|none=>_|some x=>_)=_;rw [hk];show (x.cost+cn l,x::((bk g x.to.toNat).getD r (0,[])).2)=_;rw [List.getD_eq_getElem?_getD,hr,hc,wR];rfl
   have:i=g.length:=(by omega);subst this;rw [wN,List.mem_singleton];constructor
   ·rintro rfl;exact ⟨rfl,rfl⟩
   rintro ⟨hp,hc⟩;obtain ⟨pc,pl⟩:=p;cases pl with
   | nil=>rw [show pc=0 from hc]
   | cons x l=>
     obtain ⟨es,bc,_⟩:=hp;rw [List.getElem?_eq_none (Nat.le_refl _)] at bc;cases bc
def JO:List bU->List bU->Prop
 | x::a,y::b=>mY x y<0\/(x=y/\JO a b)
 | _,_=>False
def AI (p q:lQ):Prop:=p.1<q.1\/(p.1=q.1/\JO (p.2.map (·.word)) (q.2.map (·.word)))
def Rows (g:List (List av)):Prop:=∀ (i:Nat) es,g[i]?=some es->∀ (j k:Nat) x y,j<k->es[j]?=some x->es[k]?=some y->mY x.word y.word<0
theorem CS {g:List (List av)} (hg:fX g) (hr:Rows g):∀ (d i:Nat),i+d=g.length->∀ (t1 t2:Nat) p q,t1<t2->(bk g i)[t1]?=some p->(bk g i)[t2]?=some q->AI p q:=by
 intro d;induction d using Nat.strongRecOn with
 | _ d ih=>
   intro i hi t1 t2 p q ht hp hq;by_cases h:i<g.length
   ·obtain ⟨es,bc⟩:=aL h;have hE:=hg.aO i es bc;rw [vl bc hE,List.getElem?_map] at hp hq;cases hx:(aW (cP g es))[t1]? with
    | none=>rw [hx] at hp;cases hp
    | some x=>
    cases hy:(aW (cP g es))[t2]? with
    | none=>rw [hy] at hq;cases hq
    | some y=>
    rw [hx] at hp;rw [hy] at hq;cases hp;cases hq
    have ui:∀ l∈cP g es,Up l:=by
     intro l hl;unfold cP at hl;obtain ⟨e,he,rfl⟩:=List.mem_map.1 hl;have ho:=hE e he;have h5:=ho.lo;have h6:=ho.hi;intro a b u v qI hu hv;unfold lR at hu hv;rw [List.getElem?_map] at hu hv;cases js:(bk g e.to.toNat)[a]? with
     | none=>rw [js] at hu;cases hu
     | some u'=>
     cases qJ:(bk g e.to.toNat)[b]? with
     | none=>rw [qJ] at hv;cases hv
     | some v'=>
     rw [js] at hu;rw [qJ] at hv;cases hu;cases hv
     rcases Nat.lt_or_ge a b with aI|iP
     ·have:=ih (g.length - e.to.toNat) (by omega) e.to.toNat (by omega) a b u' v' aI js qJ;unfold AI at this;show e.cost+u'.1<=e.cost+v'.1;omega
     have:a=b:=(by omega);subst this;rw [js] at qJ;cases qJ
     exact Int.le_refl _
    obtain ⟨e1,r1,a1,a2,a3⟩:∃ e r,es[x.aO]?=some e/\(bk g e.to.toNat)[x.aM]?=some r/\lf es (fun x=>bk g x.to.toNat) x=(x.cost,e::r.2):=by
     obtain ⟨_,l,h2,h3⟩:=jR hx;unfold cP at h2;rw [List.getElem?_map] at h2;cases fk:es[x.aO]? with
     | none=>rw [fk] at h2;cases h2
     | some e=>
       rw [fk] at h2;cases h2
       unfold lR at h3;rw [List.getElem?_map] at h3;cases mX:(bk g e.to.toNat)[x.aM]? with
       | none=>rw [mX] at h3;cases h3
       | some r=>
         refine ⟨e,r,rfl,mX,?_⟩;unfold lf;rw [fk];show (x.cost,e::((bk g e.to.toNat).getD x.aM (0,[])).2)=_;rw [List.getD_eq_getElem?_getD,mX];rfl
    obtain ⟨e2,r2,b1,b2,b3⟩:∃ e r,es[y.aO]?=some e/\(bk g e.to.toNat)[y.aM]?=some r/\lf es (fun x=>bk g x.to.toNat) y=(y.cost,e::r.2):=by
     obtain ⟨_,l,h2,h3⟩:=jR hy;unfold cP at h2;rw [List.getElem?_map] at h2;cases fk:es[y.aO]? with
     | none=>rw [fk] at h2;cases h2
     | some e=>
       rw [fk] at h2;cases h2
       unfold lR at h3;rw [List.getElem?_map] at h3;cases mX:(bk g e.to.toNat)[y.aM]? with
       | none=>rw [mX] at h3;cases h3
       | some r=>
         refine ⟨e,r,rfl,mX,?_⟩;unfold lf;rw [fk];show (y.cost,e::((bk g e.to.toNat).getD y.aM (0,[])).2)=_;rw [List.getD_eq_getElem?_getD,mX];rfl
    have c1:e1.cost+r1.1=x.cost:=by
     obtain ⟨_,l,h2,h3⟩:=jR hx;unfold cP at h2;rw [List.getElem?_map,a1] at h2;cases h2
     unfold lR at h3;rw [List.getElem?_map,a2] at h3;simpa using h3
    have c2:e2.cost+r2.1=y.cost:=by
     obtain ⟨_,l,h2,h3⟩:=jR hy;unfold cP at h2;rw [List.getElem?_map,b1] at h2;cases h2
     unfold lR at h3;rw [List.getElem?_map,b2] at h3;simpa using h3
    rw [a3,b3];unfold AI;show x.cost<y.cost\/(x.cost=y.cost/\(mY e1.word e2.word<0\/(e1.word=e2.word/\JO (r1.2.map (·.word)) (r2.2.map (·.word)))));rcases WC ui ht hx hy with hw|⟨h1,h2,h3⟩
    ·unfold dm at hw;rcases hw with hw|⟨hw,oO⟩
     ·exact .inl hw
     exact .inr ⟨hw,.inl (hr i es bc _ _ _ _ oO a1 b1)⟩
    rw [h1,b1] at a1;cases a1
    have ho:=hE e1 (List.mem_of_getElem? b1);have h5:=ho.lo;have h6:=ho.hi;have:=ih (g.length - e1.to.toNat) (by omega) e1.to.toNat (by omega) _ _ r1 r2 h2 a2 b2;unfold AI at this;rcases this with h7|⟨h7,h8⟩
    ·left;omega
    exact .inr ⟨by omega,.inr ⟨rfl,h8⟩⟩
   have:i=g.length:=(by omega);subst this;rw [wN] at hp hq;have h1:=(List.getElem?_eq_some_iff.1 hq).1;simp at h1;omega
end Go.Abs.Wall.Lst
namespace Go.Abs.Wall.Lst
open Go Go.Abs Go.Proofs Go.Abs.Wall
theorem Pm {p:bn} {u:ay}:∀ {l:List iT} {c:Int},(eW p u l c).Pairwise fun a b=>a.cl.length=b.cl.length/\a.cl≠b.cl
 | [],_=>.nil
 | k::t,c=>by
   unfold eW;rw [List.pairwise_append];refine ⟨?_,Pm,fun a ha b hb=>?_⟩
   ·split
    ·exact List.pairwise_singleton _ _
    exact .nil
   split at ha
   ·rw [List.mem_singleton] at ha;subst ha;obtain ⟨j,_,hj⟩:=FZ hb;rw [hj];refine ⟨by simp,fun e=>?_⟩;have:=List.append_cancel_left e;simp at this;omega
   cases ha
theorem WD (s:Sp) (p:bn) (u:ay):(aX s p u).Pairwise fun a b=>a.cl.length=b.cl.length/\a.cl≠b.cl:=by
 unfold aX iy;repeat' split
 all_goals first|exact .nil|exact List.pairwise_singleton _ _|exact Pm
theorem WE {s:Sp} {p q:bn} {u:ay} (h:q∈aX s p u):p.cl <+: q.cl:=by
 unfold aX iy at h;repeat' split at h
 all_goals first|(cases h;done)|(rw [List.mem_singleton] at h;subst h;exact List.prefix_rfl)|(obtain ⟨j,_,hj⟩:=FZ h;rw [hj];exact List.prefix_append _ _)
theorem Pn {s:Sp}:∀ {us:List ay} {p q:bn},rN s p us q->p.cl <+: q.cl
 | [],p,q,h=>by have h:q=p:=h;rw [h];exact List.prefix_rfl
 | u::us,p,q,⟨r,h1,h2⟩=>List.IsPrefix.trans (WE h1) (Pn h2)
theorem WG {α:Type} {a b z:List α} (h1:a <+: z) (h2:b <+: z) (hl:a.length=b.length):a=b:=
 (List.prefix_of_prefix_length_le h1 h2 (Nat.le_of_eq hl)).eq_of_length hl
theorem Gb {E:Env} {x:av} {r:List (List ay)} {q:bn} {T:List ay} (h:x∈jO E q T++fj E r q T):∃ us,x.word.ai=T++us/\q.cl <+: x.word.form.ar:=by
 rcases List.mem_append.1 h with h|h
 ·unfold jO at h;split at h
  ·rw [List.mem_singleton] at h;subst h;exact ⟨[],(List.append_nil _).symm,List.prefix_rfl⟩
  cases h
 rw [yS] at h;obtain ⟨us,q',_,_,h3,_,rfl⟩:=h;exact ⟨us,rfl,Pn h3⟩
theorem Po {E:Env}:∀ (rest:List (List ay)) (p:bn) (T:List ay),(∀ r∈rest,r.Nodup)->(fj E rest p T).Pairwise fun x y=>x.word≠y.word
 | [],_,_,_=>.nil
 | us::r,p,T,hn=>by
   unfold fj;rw [List.pairwise_flatMap];constructor
   ·intro u hu;rw [List.pairwise_flatMap];constructor
    ·intro q hq;rw [List.pairwise_append];refine ⟨?_,Po r q (T++[u]) (fun z hz=>hn z (by simp [hz])),fun a ha b hb e=>?_⟩
     ·unfold jO;split
      ·exact List.pairwise_singleton _ _
      exact .nil
     unfold jO at ha;split at ha
     ·rw [List.mem_singleton] at ha;subst ha;rw [yS] at hb;obtain ⟨Al,q',h1,_,_,_,rfl⟩:=hb;have:=congrArg (fun w=>w.ai.length) e;simp only [pw,List.length_append] at this;have:=List.length_pos_iff.2 h1;omega
     cases ha
    refine (WD E.s p u).imp ?_;rintro a b ⟨h1,h2⟩ x hx y hy e;obtain ⟨_,_,h3⟩:=Gb hx;obtain ⟨_,_,h4⟩:=Gb hy;rw [e] at h3;exact h2 (WG h3 h4 h1)
   refine (hn us (by simp)).imp ?_;rintro a b qI x hx y hy e;obtain ⟨q1,_,hx⟩:=List.mem_flatMap.1 hx;obtain ⟨q2,_,hy⟩:=List.mem_flatMap.1 hy;obtain ⟨u1,h3,_⟩:=Gb hx;obtain ⟨u2,h4,_⟩:=Gb hy;rw [e,h4] at h3;rw [List.append_assoc,List.append_assoc] at h3;have:=List.append_cancel_left h3;simp at this;exact qI this.1.symm
theorem WH {H:aj} (hH:jg H) {n:Int} (h:0<=n/\n<H.list.aA.length):(gn H n).Nodup:=by have:=Pp hH.nN _ (List.mem_of_getElem? (vg h.1 h.2));unfold gn oR vC;exact (AJ.nodup_iff).2 (Gc (Pq this _))
theorem Gd {H:aj} {bP:List (List ay)} {i e k:Nat} {x:av} (h:x∈gB H bP i e k):x.word.form.entry=e/\x.word.form.ending=(k:Int) - 1:=by
 unfold gB at h;split at h
 ·cases h
 unfold cS at h;rcases List.mem_append.1 h with h|h
 ·unfold jO at h;split at h
  ·rw [List.mem_singleton] at h;subst h;exact ⟨rfl,rfl⟩
  cases h
 rw [yS] at h;obtain ⟨us,q',_,_,_,_,rfl⟩:=h;exact ⟨rfl,rfl⟩
theorem Pr (n:Nat):(List.range n).Pairwise (·<·):=List.pairwise_lt_range
theorem WI {H:aj} {bP:List (List ay)} {i:Nat} (hn:∀ r∈bP,r.Nodup):(lE H bP i).Pairwise fun x y=>x.word≠y.word:=by
 unfold lE;rw [List.pairwise_flatMap];constructor
 ·intro e he;unfold mm;rw [List.pairwise_flatMap];constructor
  ·intro k hk;unfold gB;split
   ·exact .nil
   unfold cS;rw [Am,List.nil_append];exact Po bP _ _ hn
  refine (Pr _).imp ?_;intro a b qI x hx y hy e;have h1:=(Gd hx).2;have h2:=(Gd hy).2;rw [e] at h1;omega
 refine (Pr _).imp ?_;intro a b qI x hx y hy e;unfold mm at hx hy;obtain ⟨k1,_,hx⟩:=List.mem_flatMap.1 hx;obtain ⟨k2,_,hy⟩:=List.mem_flatMap.1 hy;have h1:=(Gd hx).1;have h2:=(Gd hy).1;rw [e] at h1;omega
theorem WJ {H:aj} {line:List Int} (hL:rF H line) (i:Nat):(dE H line i).Pairwise fun x y=>mY x.word y.word<0:=by
 have hn:∀ r∈mR H line i,r.Nodup:=by intro r hr;unfold mR at hr;obtain ⟨n,hm,rfl⟩:=List.mem_map.1 hr;exact WH hL.ia (hL.aA n (List.mem_of_mem_drop (List.mem_of_mem_take hm)))
 have h1:(dE H line i).Pairwise fun x y=>x.word≠y.word:=by unfold dE kE;exact (AJ.pairwise_iff (fun {x y} h=>Ne.symm h)).2 (WI hn)
 have h2:(dE H line i).Pairwise fun x y=>¬ ym y x<0:=by unfold dE kE;exact IG.sorted _
 refine (h1.and h2).imp ?_;rintro x y ⟨h3,h4⟩;unfold ym at h4;rw [zW.vD] at h4;have h5:mY x.word y.word≠0:=fun e=>h3 ((zW.zero _ _).1 e);omega
theorem CT {H:aj} {line:List Int} (hL:rF H line):Rows (bX H line):=by
 intro i es bc j k x y CU hx hy;have hi:=(List.getElem?_eq_some_iff.1 bc).1;rw [oK] at hi;rw [rH hi] at bc;cases bc
 have:=WJ hL i;rw [List.pairwise_iff_getElem] at this;obtain ⟨h1,rfl⟩:=List.getElem?_eq_some_iff.1 hx;obtain ⟨h2,rfl⟩:=List.getElem?_eq_some_iff.1 hy;exact this j k h1 h2 CU
def kJ (H:aj):Nat->List bU->List av
 | _,[]=>[]
 | i,w::ws=>pK H i w::kJ H (i+w.ai.length) ws
theorem Ps {H:aj} {line:List Int} (hL:rF H line) (hle:iz H.lex=0):∀ (l:List av) (i:Nat),i<=line.length->gG (bX H line) i l->l=kJ H i (l.map (·.word))
 | [],_,_,_=>rfl
 | x::l,i,hi,⟨es,bc,hx,hp⟩=>by
   have aI:=(List.getElem?_eq_some_iff.1 bc).1;rw [oK] at aI;rw [rH aI] at bc;cases bc
   obtain ⟨⟨_,h2,_⟩,h4⟩:=(AH hL hle hi).1 hx;have eS:x.to.toNat=i+x.word.ai.length:=(congrArg (fun e:av=>e.to.toNat) h4).trans (by show ((i:Int)+x.word.ai.length).toNat=_;omega);rw [eS] at hp;have:=Ps hL hle l _ h2 hp;rw [List.map_cons];show x::l=pK H i x.word::kJ H (i+x.word.ai.length) (l.map (·.word));rw [<- this,<- h4]
theorem Pt {H:aj} {line:List Int} (hL:rF H line) (hle:iz H.lex=0):∀ (ws:List bU) (i:Nat) (c k:Int),i<=line.length ->
  ((oJ H (line.drop i) ws c k).err=0↔gG (bX H line) i (kJ H i ws))/\((oJ H (line.drop i) ws c k).err=0->(oJ H (line.drop i) ws c k).cost=c+cn (kJ H i ws))
 | [],i,c,k,hi=>by
   unfold oJ kJ gG;rw [List.length_drop,oK];split
   ·refine ⟨⟨fun h=>(by cases h),fun h=>(by omega)⟩,fun h=>(by cases h)⟩
   refine ⟨⟨fun _=>(by omega),fun _=>rfl⟩,fun _=>(by simp [cn])⟩
 | w::ws,i,c,k,hi=>by
   have hx:=AH hL hle hi (x:=pK H i w);have hu:∀ {b},vh H (line.drop i) w=b->(b=false↔i+w.ai.length<=line.length/\jl H ((line.drop i).take w.ai.length) w=true):=by rintro b rfl;unfold vh;rw [Bool.or_eq_false_iff,decide_eq_false_iff_not,Bool.not_eq_false',List.length_drop];constructor<;>rintro ⟨h1,h2⟩<;>exact ⟨by omega,h2⟩
   have jm:gG (bX H line) i (kJ H i (w::ws))↔pK H i w∈dE H line i/\i<line.length/\gG (bX H line) (i+w.ai.length) (kJ H (i+w.ai.length) ws):=by
    have eS:(pK H i w).to.toNat=i+w.ai.length:=by show ((i:Int)+w.ai.length).toNat=_;omega
    constructor
    ·rintro ⟨es,bc,hm,hp⟩;have aI:=(List.getElem?_eq_some_iff.1 bc).1;rw [oK] at aI;rw [rH aI] at bc;cases bc
     rw [eS] at hp;exact ⟨hm,aI,hp⟩
    rintro ⟨hm,aI,hp⟩;exact ⟨_,rH aI,hm,by rw [eS];exact hp⟩
   rw [jm,hx];unfold oJ;split
   ·rename_i h1;refine ⟨⟨fun h=>absurd h h1,fun h=>absurd h.1.1.1 h1⟩,fun h=>absurd h h1⟩
   rename_i h1;have h1:dZ H.lex w.form=0:=(by simpa using h1);split
   ·rename_i h2;have h3:=hu h2;refine ⟨⟨fun h=>(by cases h),fun h=>?_⟩,fun h=>by cases h⟩;have:=h3.2 h.1.1.2;cases this
   rename_i h2;have h2:vh H (line.drop i) w=false:=(by simpa using h2);have h3:=(hu h2).1 rfl;have hlen:=rG h3.2;obtain ⟨h4,h5⟩:=Pt hL hle ws (i+w.ai.length) (c+gC H w) (k+1) h3.1;rw [List.drop_drop];refine ⟨?_,fun h=>?_⟩
   ·rw [h4];exact ⟨fun h=>⟨⟨⟨h1,h3.1,h3.2⟩,rfl⟩,by omega,h⟩,fun h=>h.2.2⟩
   rw [h5 h];show _=c+cn (pK H i w::kJ H (i+w.ai.length) ws);rw [wR];show _=c+(gC H w+_);omega
end Go.Abs.Wall.Lst
