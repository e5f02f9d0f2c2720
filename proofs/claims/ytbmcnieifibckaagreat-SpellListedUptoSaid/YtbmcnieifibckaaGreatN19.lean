/- What is proved: small laws for the walks of this seat, and contracts of its functions. No condition but those each theorem names. -/
import Derived.Test.YtbmcnieifibckaaGreatN11
import Derived.Test.YtbmcnieifibckaaGreatN18
import Derived.Test.YtbmcnieifibckaaGreatN8
set_option maxRecDepth 100000
set_option maxHeartbeats 2000000
set_option linter.unusedVariables false
set_option linter.unusedSimpArgs false
namespace Go.Abs.Wall
open Go Go.Abs Go.Proofs
end Go.Abs.Wall
namespace Go.Abs.Wall
open Go Go.Abs Go.Proofs
def qX (s:Sp) (p:bg):List ao->bg->Prop
 | [],q=>q=p
 | u::us,q=>∃ r,r∈aU s p u/\qX s r us q
theorem qX.snoc {s:Sp}:∀ {us:List ao} {p q:bg} {u:ao} {r:bg},qX s p us q->r∈aU s q u->qX s p (us++[u]) r
 | [],p,q,u,r,h,h2=>by have h:q=p:=h;subst h;exact ⟨r,h2,rfl⟩
 | v::us,p,q,u,r,h,h2=>by obtain ⟨z,h3,h4⟩:=h;exact ⟨z,h3,qX.snoc h4 h2⟩
def sc (H:ax):List Int->List ao->Prop
 | n::t,u::us=>u∈fg H n/\sc H t us
 | [],[]=>True
 | _,_=>False
theorem Nv {a b:ao}:mg a b=true↔a=b:=by rw [tE,decide_eq_true_eq]
theorem UI {u:ao} {l:List ao}:l.any (mg u)=true↔u∈l:=by
 rw [List.any_eq_true];constructor
 ·rintro ⟨v,h1,h2⟩;rw [Nv.1 h2];exact h1
 intro h;exact ⟨u,h,Nv.2 rfl⟩
theorem zx {H:ax} {s:Sp} {cl:List Int}:∀ (line:List Int) (us:List ao) (st:List bg),line.length=us.length ->
  (tF H s cl line us st=true↔sc H line us/\∃ p∈st,∃ q,qX s p us q/\ll s q=true/\q.cl=cl)
 | [],[],st,_=>by
   unfold tF sc;rw [List.any_eq_true];constructor
   ·rintro ⟨p,h1,h2⟩;simp only [Bool.and_eq_true,decide_eq_true_eq] at h2;exact ⟨trivial,p,h1,p,rfl,h2.1,h2.2⟩
   rintro ⟨_,p,h1,q,h2,h3,h4⟩;have h2:q=p:=h2;subst h2;exact ⟨q,h1,by simp [h3,h4]⟩
 | n::t,u::us,st,hl=>by
   unfold tF sc;rw [Bool.and_eq_true,UI,zx t us _ (by simpa using hl)];constructor
   ·rintro ⟨h1,h2,p,h3,q,h4,h5⟩;rw [List.mem_flatMap] at h3;obtain ⟨p0,h6,h7⟩:=h3;exact ⟨⟨h1,h2⟩,p0,h6,q,⟨p,h7,h4⟩,h5⟩
   rintro ⟨⟨h1,h2⟩,p0,h6,q,⟨p,h7,h4⟩,h5⟩;exact ⟨h1,h2,p,List.mem_flatMap.2 ⟨p0,h6,h7⟩,q,h4,h5⟩
 | [],_::_,_,hl=>by simp at hl
 | _::_,[],_,hl=>by simp at hl
def zy:List (List ao)->List ao->Prop
 | _,[]=>True
 | r::rest,u::us=>u∈r/\zy rest us
 | [],_::_=>False
theorem xZ {E:Env} {x:az}:∀ (rest:List (List ao)) (p:bg) (T:List ao),x∈eR E rest p T↔∃ us q,us≠[]/\zy rest us/\qX E.s p us q/\ll E.s q=true/\x=oT E q (T++us)
 | [],p,T=>by
   unfold eR;constructor
   ·intro h;cases h
   rintro ⟨us,q,h1,h2,_⟩;cases us with
   | nil=>exact absurd rfl h1
   | cons u us=>exact h2.elim
 | r::rest,p,T=>by
   unfold eR;rw [List.mem_flatMap];constructor
   ·rintro ⟨u,hu,h⟩;rw [List.mem_flatMap] at h;obtain ⟨q,hq,h⟩:=h;rcases List.mem_append.1 h with h|h
    ·unfold jy at h;split at h
     ·rename_i hh;simp only [Bool.and_eq_true] at hh;rw [List.mem_singleton] at h;exact ⟨[u],q,by simp,⟨hu,by cases rest<;>exact trivial⟩,⟨q,hq,rfl⟩,hh.2,h⟩
     cases h
    rw [xZ rest q (T++[u])] at h;obtain ⟨us,q',h1,h2,h3,h4,h5⟩:=h;exact ⟨u::us,q',by simp,⟨hu,h2⟩,⟨q,hq,h3⟩,h4,by rw [h5,List.append_assoc];rfl⟩
   rintro ⟨us,q',h1,h2,h3,h4,h5⟩;cases us with
   | nil=>exact absurd rfl h1
   | cons u us=>
     obtain ⟨hu,h2⟩:=h2;obtain ⟨q,hq,h3⟩:=h3;refine ⟨u,hu,List.mem_flatMap.2 ⟨q,hq,List.mem_append.2 ?_⟩⟩;by_cases ba:us=[]
     ·subst ba;left;have h3:q'=q:=h3;subst h3;unfold jy;rw [if_pos (by simp [h4]),h5];exact List.mem_singleton.2 rfl
     right;rw [xZ rest q (T++[u])];exact ⟨us,q',ba,h2,h3,h4,by rw [h5,List.append_assoc];rfl⟩
theorem HW {H:ax}:∀ {l:List Int} {us:List ao},zy (l.map (fg H)) us↔us.length<=l.length/\sc H (l.take us.length) us
 | l,[]=>by simp [zy,sc]
 | [],u::us=>by simp [zy]
 | n::l,u::us=>by
   rw [List.map_cons];unfold zy;rw [HW,List.length_cons,List.length_cons,List.take_succ_cons];rw [show sc H (n::l.take us.length) (u::us)=(u∈fg H n/\sc H (l.take us.length) us) from rfl];constructor
   ·rintro ⟨h1,h2,h3⟩;exact ⟨by omega,h1,h3⟩
   rintro ⟨h1,h2,h3⟩;exact ⟨h2,by omega,h3⟩
theorem Nw {n:Nat}:∀ {l:List Int} {last c:Int},iz n l last=true->(match l.getLast? with|some z=>z|none=>last)<c->c<n->iz n (l++[c]) last=true
 | [],last,c,_,h1,h2=>by unfold iz iz;simp at h1 ⊢;omega
 | a::t,last,c,h,h1,h2=>by
   unfold iz at h;rw [Bool.and_eq_true] at h;rw [List.cons_append];unfold iz;rw [Bool.and_eq_true];refine ⟨h.1,Nw h.2 ?_ h2⟩;cases t with
   | nil=>simpa using h1
   | cons b t=>
     rw [List.getLast?_cons_cons] at h1;cases hz:(b::t).getLast? with
     | none=>simp at hz
     | some z=>rw [hz] at h1;exact h1
structure ya (H:ax) (p:bg):Prop where
 up:iz H.lex.ah.length p.cl (-1)=true
 bE:p.cl.length<=3
theorem Et {p:bg} {u:ao} {q:bg}:∀ {l:List iO} {c:Int},q∈fk p u l c->∃ j:Nat,j<l.length/\q.cl=p.cl++[c+j]
 | [],c,h=>by cases h
 | k::t,c,h=>by
   unfold fk at h;rcases List.mem_append.1 h with h|h
   ·split at h
    ·rw [List.mem_singleton] at h;subst h;exact ⟨0,by simp,by simp⟩
    cases h
   obtain ⟨j,h1,h2⟩:=Et h;exact ⟨j+1,by simpa using h1,by rw [h2];congr 2;omega⟩
theorem HX (cl:List Int):dD cl=(match cl.getLast? with|some z=>z|none=>-1)+1:=by unfold dD;cases cl.getLast?<;>rfl
theorem UJ {s:Sp} {p q:bg} {u:ao} (hp:jz s p) (h:ya s.H p) (hq:q∈aU s p u):ya s.H q:=by
 have same:q.cl=p.cl->ya s.H q:=fun e=>⟨by rw [e];exact h.up,by rw [e];exact h.bE⟩;have lL:∀ {a:bg},a.cl=p.cl->q∈[a]->ya s.H q:=fun e hm=>same (by rw [List.mem_singleton.1 hm];exact e);unfold aU at hq;split at hq
 ·unfold gM at hq;split at hq
  ·split at hq
   ·exact lL (by rfl) hq
   cases hq
  split at hq
  ·rename_i h3;obtain ⟨j,hj,e⟩:=Et hq;have hf:=Eu hp;rw [List.length_drop] at hj;refine ⟨?_,by rw [e,List.length_append,List.length_singleton];omega⟩;rw [e];refine Nw h.up ?_ ?_
   ·have:=HX p.cl;omega
   omega
  cases hq
 split at hq
 ·split at hq
  ·cases hq
  exact lL (by rfl) hq
 split at hq
 ·split at hq
  ·cases hq
  exact lL (by rfl) hq
 split at hq
 ·split at hq
  ·cases hq
  exact lL (by rfl) hq
 cases hq
theorem Nx {s:Sp} (hs:jx s):∀ {us:List ao} {p q:bg},(∀ u∈us,gG u)->jz s p->ya s.H p->qX s p us q->jz s q/\ya s.H q
 | [],p,q,_,hp,hc,h=>by have h:q=p:=h;subst h;exact ⟨hp,hc⟩
 | u::us,p,q,hu,hp,hc,⟨r,h1,h2⟩=>Nx hs (fun v hv=>hu v (by simp [hv])) (vO hs hp (hu u (by simp)) r h1) (UJ hp hc h1) h2
theorem HY {H:ax} (hH:ic H):∀ {l:List Int} {us:List ao},(∀ s∈l,0<=s/\s<H.list.aB.length)->sc H l us->∀ u∈us,gG u
 | [],[],_,_,u,hu=>by cases hu
 | [],_::_,_,h,_,_=>h.elim
 | _::_,[],_,h,_,_=>h.elim
 | n::l,v::us,hl,⟨h1,h2⟩,u,hu=>by
   rcases List.mem_cons.1 hu with rfl|hu
   ·have qc:=hl n (by simp);have bf:=(rO hH.oV).each _ (List.mem_of_getElem? (uA qc.1 qc.2));exact (Bm (p:=H.period) bf).2 _ h1
   exact HY hH (fun s hs=>hl s (by simp [hs])) h2 u hu
theorem UK (H:ax):ya H fS:=⟨rfl,by simp [fS]⟩
def uL (H:ax) (i:Nat) (w:cO):az:=⟨i,(i:Int)+w.aj.length,iM H w,w⟩
theorem yb {H:ax} {line:List Int} (hL:qR H line) (hle:gN H.lex=0) {i:Nat} (hi:i<=line.length) {x:az} :
  x∈cD H line i↔(dT H.lex x.word.form=0/\i+x.word.aj.length<=line.length/\kC H ((line.drop i).take x.word.aj.length) x.word=true)/\x=uL H i x.word:=by
 have hH:=hL.jc;have uM:∀ s∈(line.drop i).take 12,0<=s/\s<H.list.aB.length:=fun s hs=>hL.aB s (List.mem_of_mem_drop (List.mem_of_mem_take hs));have ch:∀ n,n<=12->((line.drop i).take 12).take n=(line.drop i).take n:=fun n hn=>by rw [List.take_take];congr 1;omega
 unfold cD jZ;rw [HZ];unfold ln;rw [List.mem_flatMap];constructor
 ·rintro ⟨e,he,hx⟩;unfold lY at hx;rw [List.mem_flatMap] at hx;obtain ⟨k,hk,hx⟩:=hx;rw [List.mem_range] at he hk;unfold gh at hx;split at hx
  ·cases hx
  rename_i BN;unfold cN at hx;rw [zf,List.nil_append,xZ] at hx;obtain ⟨us,q,h1,h2,h3,h4,h5⟩:=hx;rw [List.nil_append] at h5;unfold mA at h2;rw [HW] at h2;have O0:((line.drop i).take 12).length<=12:=by rw [List.length_take];omega
  have hD:((line.drop i).take 12).length<=line.length - i:=by rw [List.length_take,List.length_drop];omega
  have pj:1<=us.length:=List.length_pos_iff.2 h1;have iH:jx (dt H i e ((k:Int) - 1)).s:=zc hH (by omega) (by omega) (by omega);have ig:=HY hH (fun s hs=>uM s (List.mem_of_mem_take hs)) h2.2;obtain ⟨oc,Ny⟩:=Nx iH ig (zg _) (UK _) h3;rw [ch _ (by omega)] at h2;subst h5;have UM:(oT (dt H i e ((k:Int) - 1)) q us).word.aj=us:=rfl;have UN:(oT (dt H i e ((k:Int) - 1)) q us).word.form=⟨e,(k:Int) - 1,q.cl⟩:=rfl;rw [UM,UN];refine ⟨⟨?_,by omega,?_⟩,rfl⟩
  ·unfold dT;rw [if_neg (by rw [hle];simp),if_neg (by rw [Bool.not_eq_false,dS];show 0<=(e:Int)/\(e:Int)<=_;omega),if_neg,if_neg (by have:=Ny.bE;show ¬ 3<q.cl.length;omega),if_pos (show iz H.lex.ah.length (bc.mk (e:Int) ((k:Int) - 1) q.cl).ah (-1)=true from Ny.up)];unfold sd;unfold vP at BN;simp only [Bool.and_eq_true,Bool.or_eq_true,Bool.not_eq_true',decide_eq_true_eq,decide_eq_false_iff_not,not_and,Classical.not_not,not_or] at BN ⊢;intro aI;refine ⟨?_,BN (by omega)⟩;rw [Bool.eq_false_iff,ne_eq,Bool.not_eq_true,Bool.not_eq_false];rw [dS];omega
  unfold kC;rw [Bool.and_eq_true,Bool.and_eq_true,dS,decide_eq_true_eq];have lH:((line.drop i).take us.length).length=us.length:=by rw [List.length_take,List.length_drop];omega
  refine ⟨⟨⟨by omega,by omega⟩,by show _=us.length;exact lH⟩,?_⟩;rw [zx _ _ _ (by show _=us.length;exact lH)];exact ⟨h2.2,fS,by simp,q,h3,h4,rfl⟩
 rintro ⟨⟨h1,h2,h3⟩,h4⟩;obtain ⟨w,hw⟩:∃ w,w=x.word:=⟨_,rfl⟩;rw [<- hw] at h1 h2 h3 h4;subst h4;have hf:=mG h1;unfold kC at h3;rw [Bool.and_eq_true,Bool.and_eq_true,dS,decide_eq_true_eq] at h3;obtain ⟨⟨h5,h6⟩,h7⟩:=h3;rw [zx _ _ _ h6] at h7;obtain ⟨h8,p,hp,q,h9,Nz,NA⟩:=h7;rw [List.mem_singleton] at hp;subst hp;have he:=hf.entry;have hn:-1<=w.form.ending/\w.form.ending<H.lex.bL.length:=by rcases hf.ending with h|h<;>omega
 refine ⟨w.form.entry.toNat,List.mem_range.2 (by omega),?_⟩;unfold lY;refine List.mem_flatMap.2 ⟨(w.form.ending+1).toNat,List.mem_range.2 (by omega),?_⟩;have e1:((w.form.entry.toNat:Nat):Int)=w.form.entry:=(by omega);have e2:(((w.form.ending+1).toNat:Nat):Int) - 1=w.form.ending:=(by omega);unfold gh;rw [e1,e2]
 have BN:vP H.lex w.form.entry w.form.ending≠true:=by
  unfold vP;simp only [Bool.and_eq_true,Bool.not_eq_true',decide_eq_true_eq,decide_eq_false_iff_not,ne_eq,not_and,Classical.not_not];intro h0;rcases hf.ending with h|h
  ·omega
  exact h.2.2
 rw [if_neg BN];unfold cN;rw [zf,List.nil_append,xZ];refine ⟨w.aj,q,?_,?_,h9,Nz,?_⟩
 ·intro h0;rw [h6,h0] at h5;simp at h5
 ·unfold mA;rw [HW];have lH:((line.drop i).take 12).length=min 12 (line.length - i):=(by rw [List.length_take,List.length_drop]);refine ⟨by omega,?_⟩;rw [ch _ (by omega)];exact h8
 obtain ⟨⟨fe,fn,fc⟩,us⟩:=w;simp only at NA;rw [List.nil_append];unfold oT uL dt;simp only;rw [NA]
end Go.Abs.Wall
namespace Go.Abs.Wall.Lst
open Go Go.Abs Go.Proofs Go.Abs.Wall
theorem UO (cls:List (List Int)) (t k:Nat):cX cls t k<=cX cls (t+1) k/\cX cls (t+1) k<=cX cls t k+1:=by
 cases h:(aY cls)[t]? with
 | none=>rw [MD h];omega
 | some x=>
   rw [tu h];unfold up;split<;>simp_all
theorem NB (cls:List (List Int)) (k:Nat) {t1 t2:Nat} (h:t1<=t2):cX cls t1 k<=cX cls t2 k:=by
 induction h with
 | refl=>exact Nat.le_refl _
 | step _ ih=>exact Nat.le_trans ih (UO cls _ k).1
theorem Ia (cls:List (List Int)) (k:Nat):∀ (t r:Nat),r<cX cls t k->∃ t',t'<t/\∃ x,(aY cls)[t']?=some x/\x.aP=k/\x.aO=r
 | 0,r,h=>by cases h
 | t+1,r,h=>by
   cases hm:(aY cls)[t]? with
   | none=>
     rw [MD hm] at h;obtain ⟨t',h1,h2⟩:=Ia cls k t r h;exact ⟨t',by omega,h2⟩
   | some x=>
     by_cases h3:r<cX cls t k
     ·obtain ⟨t',h1,h2⟩:=Ia cls k t r h3;exact ⟨t',by omega,h2⟩
     rw [tu hm] at h;unfold up at h;split at h
     ·rename_i he;have h5:=(iN hm).1;refine ⟨t,by omega,x,hm,he.symm,?_⟩;rw [h5,<- he];rw [<- he] at h;omega
     omega
theorem Ib {cls:List (List Int)} {k r:Nat} {l:List Int} {c:Int} (hl:cls[k]?=some l) (hc:l[r]?=some c):(⟨c,k,r⟩:Wy)∈aY cls:=by
 have aL:r<cX cls (aY cls).length k:=by
  refine Classical.byContradiction fun hn=>?_;have hb:gK cls (cX cls (aY cls).length)=none:=by rw [<- mc];exact List.getElem?_eq_none (Nat.le_refl _)
  have hr:cX cls (aY cls).length k<l.length:=by have:=(List.getElem?_eq_some_iff.1 hc).1;omega
  obtain ⟨c',bQ⟩:=aN hr;exact Hg hb ⟨c',k,cX cls (aY cls).length k⟩ ⟨rfl,l,hl,bQ⟩
 obtain ⟨t,_,x,hx,he,hr⟩:=Ia cls k _ r aL;obtain ⟨_,l',h2,h3⟩:=iN hx
 have:x=⟨c,k,r⟩:=by
  obtain ⟨xc,xe,xr⟩:=x;simp only at he hr h2 h3;subst he hr;rw [hl] at h2;cases h2
  rw [hc] at h3;cases h3
  rfl
 rw [<- this];exact List.mem_of_getElem? hx
def Up (l:List Int):Prop:=∀ (i j:Nat) a b,i<=j->l[i]?=some a->l[j]?=some b->a<=b
theorem Ic {cls:List (List Int)} (hs:∀ l∈cls,Up l) {t1 t2:Nat} {x y:Wy} (ht:t1<t2) (hx:(aY cls)[t1]?=some x) (hy:(aY cls)[t2]?=some y) :
  cW x y\/(x.aP=y.aP/\x.aO<y.aO/\x.cost<=y.cost):=by
 obtain ⟨h1,l1,h2,h3⟩:=iN hx;obtain ⟨h4,l2,h5,h6⟩:=iN hy;by_cases he:x.aP=y.aP
 ·right;have hm:=NB cls x.aP (show t1+1<=t2 by omega);have aL:x.aO<y.aO:=by rw [tu hx] at hm;unfold up at hm;rw [if_pos rfl] at hm;rw [h1,h4,<- he];omega
  rw [he] at h2;rw [h5] at h2;cases h2
  exact ⟨he,aL,hs l1 (List.mem_of_getElem? h5) _ _ _ _ (by omega) h3 h6⟩
 left;have hle:cX cls t1 y.aP<=y.aO:=by rw [h4];exact NB cls _ (by omega)
 have aL:=(List.getElem?_eq_some_iff.1 h6).1;obtain ⟨c,hc⟩:=aN (l:=l2) (i:=cX cls t1 y.aP) (by omega);rw [mc] at hx;have hz:=(zk hx).2 ⟨c,y.aP,cX cls t1 y.aP⟩ ⟨rfl,l2,h5,hc⟩;have O1:=hs l2 (List.mem_of_getElem? h5) _ _ _ _ hle hc h6;rcases hz with e|e
 ·exact absurd (congrArg Wy.aP e).symm he
 unfold cW at e ⊢;simp only at e;omega
def jH (g:List (List az)):Nat->List az->Prop
 | i,[]=>i=g.length
 | i,x::l=>∃ es,g[i]?=some es/\x∈es/\jH g x.to.toNat l
theorem pk {g:List (List az)} (hg:gV g):∀ (d i:Nat),i+d=g.length->∀ p,p∈bu g i↔jH g i p.2/\p.1=cp p.2:=by
 intro d;induction d using Nat.strongRecOn with
 | _ d ih=>
   intro i hi p;by_cases h:i<g.length
   ·constructor
    ·intro hp;refine ⟨?_,(Eo hg d i hi p hp).symm⟩;obtain ⟨es,x,q,bp,hx,hq,rfl⟩:=UH hg h hp;have ho:=hg.aP i es bp x hx;have h5:=ho.lo;have h6:=ho.hi;exact ⟨es,bp,hx,((ih (g.length - x.to.toNat) (by omega) x.to.toNat (by omega) q).1 hq).1⟩
    rintro ⟨hp,hc⟩;obtain ⟨pc,pl⟩:=p;simp only at hp hc;cases pl with
    | nil=>have hp:i=g.length:=hp;omega
    | cons x l=>
      obtain ⟨es,bp,hx,hp⟩:=hp;have hE:=hg.aP i es bp;have ho:=hE x hx;have h5:=ho.lo;have h6:=ho.hi;have hq:=(ih (g.length - x.to.toNat) (by omega) x.to.toNat (by omega) (cp l,l)).2 ⟨hp,rfl⟩;obtain ⟨r,hr⟩:=List.mem_iff_getElem?.1 hq;obtain ⟨k,hk⟩:=List.mem_iff_getElem?.1 hx;rw [uC bp hE,List.mem_map];refine ⟨⟨x.cost+cp l,k,r⟩,Ib (l:=lD x (bu g x.to.toNat)) ?_ ?_,?_⟩
      ·unfold dh;rw [List.getElem?_map,hk];rfl
      ·unfold lD;rw [List.getElem?_map,hr];rfl
      unfold kD;show (match es[k]? with|none=>_|some x=>_)=_;rw [hk];show (x.cost+cp l,x::((bu g x.to.toNat).getD r (0,[])).2)=_;rw [List.getD_eq_getElem?_getD,hr,hc,vZ];rfl
   have:i=g.length:=(by omega);subst this;rw [vW,List.mem_singleton];constructor
   ·rintro rfl;exact ⟨rfl,rfl⟩
   rintro ⟨hp,hc⟩;obtain ⟨pc,pl⟩:=p;cases pl with
   | nil=>rw [show pc=0 from hc]
   | cons x l=>
     obtain ⟨es,bp,_⟩:=hp;rw [List.getElem?_eq_none (Nat.le_refl _)] at bp;cases bp
def Ie:List cO->List cO->Prop
 | x::a,y::b=>ny x y<0\/(x=y/\Ie a b)
 | _,_=>False
def Ev (p q:nr):Prop:=p.1<q.1\/(p.1=q.1/\Ie (p.2.map (·.word)) (q.2.map (·.word)))
def Rows (g:List (List az)):Prop:=∀ (i:Nat) es,g[i]?=some es->∀ (j k:Nat) x y,j<k->es[j]?=some x->es[k]?=some y->ny x.word y.word<0
theorem Ig {g:List (List az)} (hg:gV g) (hr:Rows g):∀ (d i:Nat),i+d=g.length->∀ (t1 t2:Nat) p q,t1<t2->(bu g i)[t1]?=some p->(bu g i)[t2]?=some q->Ev p q:=by
 intro d;induction d using Nat.strongRecOn with
 | _ d ih=>
   intro i hi t1 t2 p q ht hp hq;by_cases h:i<g.length
   ·obtain ⟨es,bp⟩:=aN h;have hE:=hg.aP i es bp;rw [uC bp hE,List.getElem?_map] at hp hq;cases hx:(aY (dh g es))[t1]? with
    | none=>rw [hx] at hp;cases hp
    | some x=>
    cases hy:(aY (dh g es))[t2]? with
    | none=>rw [hy] at hq;cases hq
    | some y=>
    rw [hx] at hp;rw [hy] at hq;cases hp;cases hq
    have pj:∀ l∈dh g es,Up l:=by
     intro l hl;unfold dh at hl;obtain ⟨e,he,rfl⟩:=List.mem_map.1 hl;have ho:=hE e he;have h5:=ho.lo;have h6:=ho.hi;intro a b u v se hu hv;unfold lD at hu hv;rw [List.getElem?_map] at hu hv;cases gf:(bu g e.to.toNat)[a]? with
     | none=>rw [gf] at hu;cases hu
     | some u'=>
     cases ou:(bu g e.to.toNat)[b]? with
     | none=>rw [ou] at hv;cases hv
     | some v'=>
     rw [gf] at hu;rw [ou] at hv;cases hu;cases hv
     rcases Nat.lt_or_ge a b with aL|pf
     ·have:=ih (g.length - e.to.toNat) (by omega) e.to.toNat (by omega) a b u' v' aL gf ou;unfold Ev at this;show e.cost+u'.1<=e.cost+v'.1;omega
     have:a=b:=(by omega);subst this;rw [gf] at ou;cases ou
     exact Int.le_refl _
    obtain ⟨e1,r1,a1,a2,a3⟩:∃ e r,es[x.aP]?=some e/\(bu g e.to.toNat)[x.aO]?=some r/\kD es (fun x=>bu g x.to.toNat) x=(x.cost,e::r.2):=by
     obtain ⟨_,l,h2,h3⟩:=iN hx;unfold dh at h2;rw [List.getElem?_map] at h2;cases ee:es[x.aP]? with
     | none=>rw [ee] at h2;cases h2
     | some e=>
       rw [ee] at h2;cases h2
       unfold lD at h3;rw [List.getElem?_map] at h3;cases mF:(bu g e.to.toNat)[x.aO]? with
       | none=>rw [mF] at h3;cases h3
       | some r=>
         refine ⟨e,r,rfl,mF,?_⟩;unfold kD;rw [ee];show (x.cost,e::((bu g e.to.toNat).getD x.aO (0,[])).2)=_;rw [List.getD_eq_getElem?_getD,mF];rfl
    obtain ⟨e2,r2,b1,b2,b3⟩:∃ e r,es[y.aP]?=some e/\(bu g e.to.toNat)[y.aO]?=some r/\kD es (fun x=>bu g x.to.toNat) y=(y.cost,e::r.2):=by
     obtain ⟨_,l,h2,h3⟩:=iN hy;unfold dh at h2;rw [List.getElem?_map] at h2;cases ee:es[y.aP]? with
     | none=>rw [ee] at h2;cases h2
     | some e=>
       rw [ee] at h2;cases h2
       unfold lD at h3;rw [List.getElem?_map] at h3;cases mF:(bu g e.to.toNat)[y.aO]? with
       | none=>rw [mF] at h3;cases h3
       | some r=>
         refine ⟨e,r,rfl,mF,?_⟩;unfold kD;rw [ee];show (y.cost,e::((bu g e.to.toNat).getD y.aO (0,[])).2)=_;rw [List.getD_eq_getElem?_getD,mF];rfl
    have c1:e1.cost+r1.1=x.cost:=by
     obtain ⟨_,l,h2,h3⟩:=iN hx;unfold dh at h2;rw [List.getElem?_map,a1] at h2;cases h2
     unfold lD at h3;rw [List.getElem?_map,a2] at h3;simpa using h3
    have c2:e2.cost+r2.1=y.cost:=by
     obtain ⟨_,l,h2,h3⟩:=iN hy;unfold dh at h2;rw [List.getElem?_map,b1] at h2;cases h2
     unfold lD at h3;rw [List.getElem?_map,b2] at h3;simpa using h3
    rw [a3,b3];unfold Ev;show x.cost<y.cost\/(x.cost=y.cost/\(ny e1.word e2.word<0\/(e1.word=e2.word/\Ie (r1.2.map (·.word)) (r2.2.map (·.word)))));rcases Ic pj ht hx hy with hw|⟨h1,h2,h3⟩
    ·unfold cW at hw;rcases hw with hw|⟨hw,pb⟩
     ·exact .inl hw
     exact .inr ⟨hw,.inl (hr i es bp _ _ _ _ pb a1 b1)⟩
    rw [h1,b1] at a1;cases a1
    have ho:=hE e1 (List.mem_of_getElem? b1);have h5:=ho.lo;have h6:=ho.hi;have:=ih (g.length - e1.to.toNat) (by omega) e1.to.toNat (by omega) _ _ r1 r2 h2 a2 b2;unfold Ev at this;rcases this with h7|⟨h7,h8⟩
    ·left;omega
    exact .inr ⟨by omega,.inr ⟨rfl,h8⟩⟩
   have:i=g.length:=(by omega);subst this;rw [vW] at hp hq;have h1:=(List.getElem?_eq_some_iff.1 hq).1;simp at h1;omega
end Go.Abs.Wall.Lst
namespace Go.Abs.Wall.Lst
open Go Go.Abs Go.Proofs Go.Abs.Wall
theorem NC {p:bg} {u:ao}:∀ {l:List iO} {c:Int},(fk p u l c).Pairwise fun a b=>a.cl.length=b.cl.length/\a.cl≠b.cl
 | [],_=>.nil
 | k::t,c=>by
   unfold fk;rw [List.pairwise_append];refine ⟨?_,NC,fun a ha b hb=>?_⟩
   ·split
    ·exact List.pairwise_singleton _ _
    exact .nil
   split at ha
   ·rw [List.mem_singleton] at ha;subst ha;obtain ⟨j,_,hj⟩:=Et hb;rw [hj];refine ⟨by simp,fun e=>?_⟩;have:=List.append_cancel_left e;simp at this;omega
   cases ha
theorem UP (s:Sp) (p:bg) (u:ao):(aU s p u).Pairwise fun a b=>a.cl.length=b.cl.length/\a.cl≠b.cl:=by
 unfold aU gM;repeat' split
 all_goals first|exact .nil|exact List.pairwise_singleton _ _|exact NC
theorem UQ {s:Sp} {p q:bg} {u:ao} (h:q∈aU s p u):p.cl <+: q.cl:=by
 unfold aU gM at h;repeat' split at h
 all_goals first|(cases h;done)|(rw [List.mem_singleton] at h;subst h;exact List.prefix_rfl)|(obtain ⟨j,_,hj⟩:=Et h;rw [hj];exact List.prefix_append _ _)
theorem ND {s:Sp}:∀ {us:List ao} {p q:bg},qX s p us q->p.cl <+: q.cl
 | [],p,q,h=>by have h:q=p:=h;rw [h];exact List.prefix_rfl
 | u::us,p,q,⟨r,h1,h2⟩=>List.IsPrefix.trans (UQ h1) (ND h2)
theorem UR {α:Type} {a b z:List α} (h1:a <+: z) (h2:b <+: z) (hl:a.length=b.length):a=b:=
 (List.prefix_of_prefix_length_le h1 h2 (Nat.le_of_eq hl)).eq_of_length hl
theorem Ew {E:Env} {x:az} {r:List (List ao)} {q:bg} {T:List ao} (h:x∈jy E q T++eR E r q T):∃ us,x.word.aj=T++us/\q.cl <+: x.word.form.ah:=by
 rcases List.mem_append.1 h with h|h
 ·unfold jy at h;split at h
  ·rw [List.mem_singleton] at h;subst h;exact ⟨[],(List.append_nil _).symm,List.prefix_rfl⟩
  cases h
 rw [xZ] at h;obtain ⟨us,q',_,_,h3,_,rfl⟩:=h;exact ⟨us,rfl,ND h3⟩
theorem NF {E:Env}:∀ (rest:List (List ao)) (p:bg) (T:List ao),(∀ r∈rest,r.Nodup)->(eR E rest p T).Pairwise fun x y=>x.word≠y.word
 | [],_,_,_=>.nil
 | us::r,p,T,hn=>by
   unfold eR;rw [List.pairwise_flatMap];constructor
   ·intro u hu;rw [List.pairwise_flatMap];constructor
    ·intro q hq;rw [List.pairwise_append];refine ⟨?_,NF r q (T++[u]) (fun z hz=>hn z (by simp [hz])),fun a ha b hb e=>?_⟩
     ·unfold jy;split
      ·exact List.pairwise_singleton _ _
      exact .nil
     unfold jy at ha;split at ha
     ·rw [List.mem_singleton] at ha;subst ha;rw [xZ] at hb;obtain ⟨ze,q',h1,_,_,_,rfl⟩:=hb;have:=congrArg (fun w=>w.aj.length) e;simp only [oT,List.length_append] at this;have:=List.length_pos_iff.2 h1;omega
     cases ha
    refine (UP E.s p u).imp ?_;rintro a b ⟨h1,h2⟩ x hx y hy e;obtain ⟨_,_,h3⟩:=Ew hx;obtain ⟨_,_,h4⟩:=Ew hy;rw [e] at h3;exact h2 (UR h3 h4 h1)
   refine (hn us (by simp)).imp ?_;rintro a b se x hx y hy e;obtain ⟨q1,_,hx⟩:=List.mem_flatMap.1 hx;obtain ⟨q2,_,hy⟩:=List.mem_flatMap.1 hy;obtain ⟨u1,h3,_⟩:=Ew hx;obtain ⟨u2,h4,_⟩:=Ew hy;rw [e,h4] at h3;rw [List.append_assoc,List.append_assoc] at h3;have:=List.append_cancel_left h3;simp at this;exact se this.1.symm
theorem NG {H:ax} (hH:ic H) {n:Int} (h:0<=n/\n<H.list.aB.length):(fg H n).Nodup:=by have:=NH hH.oV _ (List.mem_of_getElem? (uA h.1 h.2));unfold fg nz tG;exact (zz.nodup_iff).2 (Ey (NI this _))
theorem Ez {H:ax} {bP:List (List ao)} {i e k:Nat} {x:az} (h:x∈gh H bP i e k):x.word.form.entry=e/\x.word.form.ending=(k:Int) - 1:=by
 unfold gh at h;split at h
 ·cases h
 unfold cN at h;rcases List.mem_append.1 h with h|h
 ·unfold jy at h;split at h
  ·rw [List.mem_singleton] at h;subst h;exact ⟨rfl,rfl⟩
  cases h
 rw [xZ] at h;obtain ⟨us,q',_,_,_,_,rfl⟩:=h;exact ⟨rfl,rfl⟩
theorem NJ (n:Nat):(List.range n).Pairwise (·<·):=List.pairwise_lt_range
theorem US {H:ax} {bP:List (List ao)} {i:Nat} (hn:∀ r∈bP,r.Nodup):(ln H bP i).Pairwise fun x y=>x.word≠y.word:=by
 unfold ln;rw [List.pairwise_flatMap];constructor
 ·intro e he;unfold lY;rw [List.pairwise_flatMap];constructor
  ·intro k hk;unfold gh;split
   ·exact .nil
   unfold cN;rw [zf,List.nil_append];exact NF bP _ _ hn
  refine (NJ _).imp ?_;intro a b se x hx y hy e;have h1:=(Ez hx).2;have h2:=(Ez hy).2;rw [e] at h1;omega
 refine (NJ _).imp ?_;intro a b se x hx y hy e;unfold lY at hx hy;obtain ⟨k1,_,hx⟩:=List.mem_flatMap.1 hx;obtain ⟨k2,_,hy⟩:=List.mem_flatMap.1 hy;have h1:=(Ez hx).1;have h2:=(Ez hy).1;rw [e] at h1;omega
theorem NK {H:ax} {line:List Int} (hL:qR H line) (i:Nat):(cD H line i).Pairwise fun x y=>ny x.word y.word<0:=by
 have hn:∀ r∈mA H line i,r.Nodup:=by intro r hr;unfold mA at hr;obtain ⟨n,hm,rfl⟩:=List.mem_map.1 hr;exact NG hL.jc (hL.aB n (List.mem_of_mem_drop (List.mem_of_mem_take hm)))
 have h1:(cD H line i).Pairwise fun x y=>x.word≠y.word:=by unfold cD jZ;exact (zz.pairwise_iff (fun {x y} h=>Ne.symm h)).2 (US hn)
 have h2:(cD H line i).Pairwise fun x y=>¬ xy y x<0:=by unfold cD jZ;exact GR.sorted _
 refine (h1.and h2).imp ?_;rintro x y ⟨h3,h4⟩;unfold xy at h4;rw [zW.qd] at h4;have h5:ny x.word y.word≠0:=fun e=>h3 ((zW.zero _ _).1 e);omega
theorem Ih {H:ax} {line:List Int} (hL:qR H line):Rows (dn H line):=by
 intro i es bp j k x y Ii hx hy;have hi:=(List.getElem?_eq_some_iff.1 bp).1;rw [tq] at hi;rw [vS hi] at bp;cases bp
 have:=NK hL i;rw [List.pairwise_iff_getElem] at this;obtain ⟨h1,rfl⟩:=List.getElem?_eq_some_iff.1 hx;obtain ⟨h2,rfl⟩:=List.getElem?_eq_some_iff.1 hy;exact this j k h1 h2 Ii
def nC (H:ax):Nat->List cO->List az
 | _,[]=>[]
 | i,w::ws=>uL H i w::nC H (i+w.aj.length) ws
theorem NL {H:ax} {line:List Int} (hL:qR H line) (hle:gN H.lex=0):∀ (l:List az) (i:Nat),i<=line.length->jH (dn H line) i l->l=nC H i (l.map (·.word))
 | [],_,_,_=>rfl
 | x::l,i,hi,⟨es,bp,hx,hp⟩=>by
   have aL:=(List.getElem?_eq_some_iff.1 bp).1;rw [tq] at aL;rw [vS aL] at bp;cases bp
   obtain ⟨⟨_,h2,_⟩,h4⟩:=(yb hL hle hi).1 hx;have gz:x.to.toNat=i+x.word.aj.length:=(congrArg (fun e:az=>e.to.toNat) h4).trans (by show ((i:Int)+x.word.aj.length).toNat=_;omega);rw [gz] at hp;have:=NL hL hle l _ h2 hp;rw [List.map_cons];show x::l=uL H i x.word::nC H (i+x.word.aj.length) (l.map (·.word));rw [<- this,<- h4]
theorem NM {H:ax} {line:List Int} (hL:qR H line) (hle:gN H.lex=0):∀ (ws:List cO) (i:Nat) (c k:Int),i<=line.length ->
  ((xK H (line.drop i) ws c k).err=0↔jH (dn H line) i (nC H i ws))/\((xK H (line.drop i) ws c k).err=0->(xK H (line.drop i) ws c k).cost=c+cp (nC H i ws))
 | [],i,c,k,hi=>by
   unfold xK nC jH;rw [List.length_drop,tq];split
   ·refine ⟨⟨fun h=>(by cases h),fun h=>(by omega)⟩,fun h=>(by cases h)⟩
   refine ⟨⟨fun _=>(by omega),fun _=>rfl⟩,fun _=>(by simp [cp])⟩
 | w::ws,i,c,k,hi=>by
   have hx:=yb hL hle hi (x:=uL H i w);have hu:∀ {b},DW H (line.drop i) w=b->(b=false↔i+w.aj.length<=line.length/\kC H ((line.drop i).take w.aj.length) w=true):=by rintro b rfl;unfold DW;rw [Bool.or_eq_false_iff,decide_eq_false_iff_not,Bool.not_eq_false',List.length_drop];constructor<;>rintro ⟨h1,h2⟩<;>exact ⟨by omega,h2⟩
   have iP:jH (dn H line) i (nC H i (w::ws))↔uL H i w∈cD H line i/\i<line.length/\jH (dn H line) (i+w.aj.length) (nC H (i+w.aj.length) ws):=by
    have gz:(uL H i w).to.toNat=i+w.aj.length:=by show ((i:Int)+w.aj.length).toNat=_;omega
    constructor
    ·rintro ⟨es,bp,hm,hp⟩;have aL:=(List.getElem?_eq_some_iff.1 bp).1;rw [tq] at aL;rw [vS aL] at bp;cases bp
     rw [gz] at hp;exact ⟨hm,aL,hp⟩
    rintro ⟨hm,aL,hp⟩;exact ⟨_,vS aL,hm,by rw [gz];exact hp⟩
   rw [iP,hx];unfold xK;split
   ·rename_i h1;refine ⟨⟨fun h=>absurd h h1,fun h=>absurd h.1.1.1 h1⟩,fun h=>absurd h h1⟩
   rename_i h1;have h1:dT H.lex w.form=0:=(by simpa using h1);split
   ·rename_i h2;have h3:=hu h2;refine ⟨⟨fun h=>(by cases h),fun h=>?_⟩,fun h=>by cases h⟩;have:=h3.2 h.1.1.2;cases this
   rename_i h2;have h2:DW H (line.drop i) w=false:=(by simpa using h2);have h3:=(hu h2).1 rfl;have hlen:=xL h3.2;obtain ⟨h4,h5⟩:=NM hL hle ws (i+w.aj.length) (c+iM H w) (k+1) h3.1;rw [List.drop_drop];refine ⟨?_,fun h=>?_⟩
   ·rw [h4];exact ⟨fun h=>⟨⟨⟨h1,h3.1,h3.2⟩,rfl⟩,by omega,h⟩,fun h=>h.2.2⟩
   rw [h5 h];show _=c+cp (uL H i w::nC H (i+w.aj.length) ws);rw [vZ];show _=c+(iM H w+_);omega
end Go.Abs.Wall.Lst
