/- What is proved: small laws for the walks of this seat, and contracts of its functions. No condition but those each theorem names. -/
import Derived.Test.YtbmcnieifibckaaGreatN19
import Derived.Test.YtbmcnieifibckaaGreatN23
import Derived.Test.YtbmcnieifibckaaGreatN28
import Derived.Test.YtbmcnieifibckaaGreatN26
import Derived.Test.YtbmcnieifibckaaGreatN31
set_option maxRecDepth 100000
set_option maxHeartbeats 2000000
set_option linter.unusedVariables false
set_option linter.unusedSimpArgs false
namespace Go.Abs.Wall.Spl
open Go Go.Abs Go.Proofs Go.Abs.Wall
theorem LL {p:bn} {u:ay} {q:bn}:∀ {l:List iT} {c:Int},q∈eW p u l c↔∃ (j:Nat) (k:iT),l[j]?=some k/\gu k.text u.text=true/\q=⟨p.bL++u.text,p.closed,p.cl++[c+j],u⟩
 | [],c=>by simp [eW]
 | k::t,c=>by
   unfold eW;rw [List.mem_append,LL (l:=t) (c:=c+1)];constructor
   ·rintro (h|⟨j,k',h1,h2,h3⟩)
    ·split at h
     ·rename_i hb;exact ⟨0,k,rfl,hb,by rw [List.mem_singleton.1 h];simp⟩
     cases h
    exact ⟨j+1,k',h1,h2,by rw [h3,show c+1+(j:Int)=c+((j+1:Nat):Int) by omega]⟩
   rintro ⟨j,k',h1,h2,h3⟩;cases j with
   | zero=>
     cases h1
     left;rw [if_pos h2,h3];simp
   | succ j=>
     right;exact ⟨j,k',h1,h2,by rw [h3,show c+1+(j:Int)=c+((j+1:Nat):Int) by omega]⟩
theorem Sf {n:Nat}:∀ {l:List Int} {last:Int} {k:Nat} {c:Int},iS n l last=true->l[k]?=some c->(match (l.take k).getLast? with|some z=>z|none=>last)<c
 | [],_,k,_,_,h=>by simp at h
 | a::t,last,0,c,h,hc=>by
   cases hc
   exact (LM h a (List.mem_cons_self ..)).1
 | a::t,last,k+1,c,h,hc=>by
   unfold iS at h;rw [Bool.and_eq_true] at h;have ih:=Sf (l:=t) (last:=a) (k:=k) (c:=c) h.2 hc;rw [List.take_succ_cons,List.getLast?_cons];cases hq:(t.take k).getLast? with
   | none=>rw [hq] at ih;exact ih
   | some z=>rw [hq] at ih;exact ih
theorem ZZ {cl:List Int} (h:∀ c∈cl,0<=c):0<=fp cl:=by
 rw [JK];cases hq:cl.getLast? with
 | none=>show (0:Int)<=-1+1;omega
 | some z=>have:=h z (List.mem_of_getLast? hq);show (0:Int)<=z+1;omega
theorem DZ (H:aj) (f:aZ):(cI H.lex f).length=f.ar.length+1:=by unfold cI;simp
theorem b8 {H:aj} {f:aZ} {k:Int} {c:Int} (h0:0<=k) (hc:f.ar[k.toNat]?=some c):partAt (cI H.lex f) (k+1)=(cQ H.lex c).text:=by unfold partAt;refine vj ?_;unfold cI;rw [show (k+1).toNat=k.toNat+1 by omega,List.getElem?_cons_succ,List.getElem?_map,hc];rfl
theorem c7 (H:aj) (f:aZ):(bD H f).body=kc H.lex f:=by
 show ny H.lex f.entry f.ending=_;unfold ny kc;by_cases h:f.ending<0
 ·rw [if_pos h,if_neg (by omega),List.append_nil]
 rw [if_neg h,if_pos (by omega)]
theorem c8 (H:aj) (f:aZ) (k:Nat):da (bD H f) (f.ar.take k)=((cI H.lex f).take (k+1)).flatten:=by unfold da cI;rw [c7,List.take_succ_cons,List.flatten_cons,<- List.map_take];rfl
structure Rel (H:aj) (f:aZ) (p:bn) (s:RS) (n:Int):Prop where
 can:Can (cI H.lex f) s
 cl:p.cl=f.ar.take s.part.toNat
 snd:p.bL=xl (cI H.lex f) s
 cls:p.closed=s.cls
 hv:s.last=dT p.last
 new:p.last.kind=0↔n=0
 zero:n=0->s.part=0
theorem Rel.da {H:aj} {f:aZ} {p:bn} {s:RS} {n:Int} (h:Rel H f p s n):Wall.da (bD H f) p.cl=((cI H.lex f).take s.part.toNat).flatten++partAt (cI H.lex f) s.part:=by have h1:=h.can.part;obtain ⟨t,ht⟩:=aL (l:=cI H.lex f) (i:=s.part.toNat) (by omega);rw [h.cl,c8,dj ht,List.flatten_append];unfold partAt;rw [vj ht,List.flatten_cons,List.flatten_nil,List.append_nil]
theorem Rel.part {H:aj} {f:aZ} {p:bn} {s:RS} {n:Int} (h:Rel H f p s n):kj (bD H f) p=(partAt (cI H.lex f) s.part).drop s.done.toNat:=by have h2:=h.can.done;unfold kj;rw [h.da,h.snd];unfold xl;rw [List.length_append,List.length_take,List.drop_append,List.drop_eq_nil_of_le (by omega),List.nil_append];congr 1;omega
theorem Rel.whole {H:aj} {f:aZ} {p:bn} {s:RS} {n:Int} (h:Rel H f p s n):mO (bD H f) p=nX (cI H.lex f) s:=by have h2:=h.can.done;unfold mO nX;rw [decide_eq_decide,h.da,h.snd];unfold xl;rw [List.length_append,List.length_append,List.length_take];omega
theorem Rel.Sg {H:aj} {f:aZ} {p:bn} {s:RS} {n:Int} (h:Rel H f p s n):kj (bD H f) p=[]↔nX (cI H.lex f) s=true:=by have h2:=h.can.done;rw [h.part];unfold nX;rw [decide_eq_true_eq,List.drop_eq_nil_iff];omega
def Ho (E:Env) (s:RS) (u:ay):Prop:=(oT E s=true->u.kind=3)/\¬ (u.kind=3/\E.B.dy=0)/\¬ (u.kind=4/\E.B.cls=0)
theorem Hp {u:ay} (h:u.kind=3\/u.kind=4):dT u=0:=by unfold dT jZ;rcases h with h|h<;>rw [h]<;>rfl
theorem Si {a t:List UInt8} (h:gu t a=true):t.take a.length=a:=by obtain ⟨r,rfl⟩:=Dt.1 h;exact List.take_left
theorem c9 {H:aj} {B:bl} {f:aZ} (hF:lZ H.lex f) {p:bn} {s:RS} {n:Int} (h:Rel H f p s n) (hn:0<=n) {u:ay} (hu:iu u)
  (ht:(uE (cD H B f) (cI H.lex f) s u (decide (n=0))).2=true) (hc:Can (cI H.lex f) (uE (cD H B f) (cI H.lex f) s u (decide (n=0))).1) :
  Ho (cD H B f) s u/\(uE (cD H B f) (cI H.lex f) s u (decide (n=0))).1.cls=(s.cls||decide (u.kind=4))/\(uE (cD H B f) (cI H.lex f) s u (decide (n=0))).1.last=dT u /\
   ∃ r,r∈Wall.aX (bD H f) p u/\Rel H f r (uE (cD H B f) (cI H.lex f) s u (decide (n=0))).1 (n+1):=by
 have h1:=h.can.part;have h2:=h.can.done;rw [DZ] at h1;obtain ⟨xa,js,Oz,Y9⟩:=hu;unfold uE at ht hc ⊢;by_cases h0:(oT (cD H B f) s&&!decide (u.kind=3))=true
 ·rw [if_pos h0] at ht;cases ht
 rw [if_neg h0] at ht hc ⊢;have Hq:oT (cD H B f) s=true->u.kind=3:=by intro hm;rw [hm] at h0;simpa using h0
 have sL:∀ {r:bn},r.last=u->(r.last.kind=0↔n+1=0):=by rintro r rfl;omega
 by_cases k1:u.kind=1
 ·rw [if_pos k1] at ht hc ⊢;have me:decide (u.kind=4)=false:=by rw [k1];rfl
  have Sj:Ho (cD H B f) s u:=⟨Hq,by omega,by omega⟩;rw [me,Bool.or_false];by_cases hw:nX (cI H.lex f) s=false
  ·rw [if_pos hw] at ht hc ⊢;refine ⟨Sj,rfl,rfl,⟨p.bL++u.text,p.closed,p.cl,u⟩,?_,hc,h.cl,?_,h.cls,rfl,sL rfl,fun e=>by omega⟩
   ·unfold Wall.aX;rw [if_pos k1];unfold iy;rw [if_pos (by rw [Ne,h.Sg,hw];decide),h.part,if_pos ht];exact List.mem_singleton.2 rfl
   show p.bL++u.text=_;rw [h.snd];unfold xl;rw [List.append_assoc];congr 1;show _=(partAt (cI H.lex f) s.part).take (s.done+u.text.length).toNat;rw [show (s.done+u.text.length).toNat=s.done.toNat+u.text.length by omega,List.take_add,Si ht]
  have hw:nX (cI H.lex f) s=true:=(by simpa using hw);rw [if_neg (by rw [hw];decide)] at ht hc ⊢;simp only [Bool.and_eq_true,decide_eq_true_eq,DZ] at ht;obtain ⟨yJ,qc⟩:=ht;obtain ⟨c,bG⟩:=aL (l:=f.ar) (i:=s.part.toNat) (by omega);have LN:=hF.ed c (List.mem_of_getElem? bG);have j1:=b8 (H:=H) (f:=f) h1.1 bG
  have iU:fp p.cl<=c:=by
   have h7:=Sf hF.up bG;rw [JK,h.cl];cases hq:(f.ar.take s.part.toNat).getLast? with
   | none=>simp only [hq] at h7 ⊢;omega
   | some z=>simp only [hq] at h7 ⊢;omega
  have Z0:0<=fp p.cl:=ZZ fun d hd=>(hF.ed d (List.mem_of_mem_take (by rw [<- h.cl];exact hd))).1;have bz:p.cl++[c]=f.ar.take (s.part+1).toNat:=(by rw [h.cl,show (s.part+1).toNat=s.part.toNat+1 by omega,dj bG]);have dw:=hF.bB;have bV:p.cl.length=s.part.toNat:=by rw [h.cl,List.length_take];omega
  refine ⟨Sj,rfl,rfl,⟨p.bL++u.text,p.closed,p.cl++[c],u⟩,?_,hc,bz,?_,h.cls,rfl,sL rfl,fun e=>by omega⟩
  ·unfold Wall.aX;rw [if_pos k1];unfold iy;rw [if_neg (by rw [Ne,h.Sg,hw];decide),if_pos (by omega),LL];refine ⟨(c - fp p.cl).toNat,cQ H.lex c,?_,by rw [<- j1];exact qc,?_⟩
   ·show (H.lex.ar.drop (fp p.cl).toNat)[(c - fp p.cl).toNat]?=_;rw [List.getElem?_drop,show (fp p.cl).toNat+(c - fp p.cl).toNat=c.toNat by omega];exact ll LN.1 LN.2
   rw [show fp p.cl+((c - fp p.cl).toNat:Int)=c by omega]
  show p.bL++u.text=_;unfold nX at hw;rw [decide_eq_true_eq] at hw;rw [h.snd];unfold xl;obtain ⟨t,wi⟩:=aL (l:=cI H.lex f) (i:=s.part.toNat) (by rw [DZ];omega);have j9:partAt (cI H.lex f) s.part=t:=by unfold partAt;exact vj wi
  have e2:(partAt (cI H.lex f) s.part).take s.done.toNat=t:=(by rw [List.take_of_length_le (by omega),j9]);show _=((cI H.lex f).take (s.part+1).toNat).flatten++(partAt (cI H.lex f) (s.part+1)).take ((u.text.length:Nat):Int).toNat;rw [show (s.part+1).toNat=s.part.toNat+1 by omega,dj wi,List.flatten_append,Int.toNat_natCast,Si qc,e2,List.flatten_cons,List.flatten_nil,List.append_nil]
 rw [if_neg k1] at ht hc ⊢;by_cases k2:u.kind=2
 ·rw [if_pos k2] at ht hc ⊢;simp only [Bool.and_eq_true,decide_eq_true_eq] at ht;have fP:=h.zero ht.1;have me:decide (u.kind=4)=false:=by rw [k2];rfl
  rw [me,Bool.or_false];refine ⟨⟨Hq,by omega,by omega⟩,rfl,rfl,⟨u.text,p.closed,p.cl,u⟩,?_,hc,h.cl,?_,h.cls,rfl,sL rfl,fun e=>by omega⟩
  ·unfold Wall.aX;rw [if_neg k1,if_pos k2,if_neg]
   ·exact List.mem_singleton.2 rfl
   unfold tH;rw [decide_eq_true (h.new.2 ht.1),decide_eq_true (show u.text=(bD H f).e.root from ht.2)];decide
  show u.text=((cI H.lex f).take s.part.toNat).flatten++(partAt (cI H.lex f) s.part).take ((u.text.length:Nat):Int).toNat;rw [fP,Int.toNat_natCast];show u.text=[]++(kc H.lex f).take u.text.length;rw [List.nil_append,ht.2];unfold kc;exact List.take_left.symm
 rw [if_neg k2] at ht hc ⊢;by_cases k3:u.kind=3
 ·rw [if_pos k3] at ht hc ⊢;simp only [Bool.and_eq_true,decide_eq_true_eq,Bool.not_eq_true',decide_eq_false_iff_not] at ht;obtain ⟨⟨yJ,qc⟩,LO⟩:=ht;have me:decide (u.kind=4)=false:=by rw [k3];rfl
  have Sk:jZ p.last=true:=by
   rw [h.hv] at qc;unfold dT at qc;split at qc
   ·assumption
   omega
  rw [me,Bool.or_false];refine ⟨⟨Hq,fun e=>yJ e.2,by omega⟩,rfl,(Hp (.inl k3)).symm,⟨p.bL,p.closed,p.cl,u⟩,?_,hc,h.cl,h.snd,h.cls,(Hp (.inl k3)).symm,sL rfl,fun e=>by omega⟩;unfold Wall.aX;rw [if_neg k1,if_neg k2,if_pos k3,if_neg]
  ·exact List.mem_singleton.2 rfl
  rw [h.hv] at qc;unfold dT at qc;rw [if_pos Sk] at qc;unfold qd;rw [show Wall.zG p=true from Sk,h.snd,LO,decide_eq_false (by omega)];decide
 rw [if_neg k3] at ht hc ⊢;have k4:u.kind=4:=(by omega);rw [if_pos k4] at ht hc ⊢;simp only [Bool.and_eq_true,decide_eq_true_eq,Bool.not_eq_true',decide_eq_false_iff_not] at ht;obtain ⟨⟨⟨⟨yJ,qc⟩,LO⟩,k6⟩,k7,k8⟩:=ht;refine ⟨⟨Hq,by omega,fun e=>yJ e.2⟩,by rw [k4];simp,(Hp (.inr k4)).symm,⟨p.bL,true,p.cl,u⟩,?_,hc,h.cl,h.snd,rfl,(Hp (.inr k4)).symm,sL rfl,fun e=>by omega⟩;unfold Wall.aX;rw [if_neg k1,if_neg k2,if_neg k3,if_pos k4,if_neg]
 ·exact List.mem_singleton.2 rfl
 have fP:p.cl=[]:=by rw [h.cl,LO];rfl
 have eS:=h.da;have Aj:=h.whole;rw [qc] at Aj;unfold mO at Aj;rw [decide_eq_true_eq,fP] at Aj;have hb:(p.bL.length:Int)=(bD H f).body.length:=by rw [Aj];unfold Wall.da kd;simp
 unfold vZ;rw [h.cls,k6,fP,decide_eq_true hb,decide_eq_true (show u.text=(bD H f).e.cls from k8),decide_eq_false (show ¬ (bD H f).e.cls=[] from k7)];decide
end Go.Abs.Wall.Spl
namespace Go.Abs.Wall.Spl
open Go Go.Abs Go.Proofs Go.Abs.Wall
def KS (E:Env) (s:RS) (line:List Int) (us:List ay):Prop:=
 (oT E s=true->qR us=true)/\∃ c,uH E.B line us s.cls=some c/\((!decide (E.B.cls=2)||c)||decide (E.ee.cls=[]))=true
theorem k9 {u:ay} (hu:iu u):decide (0<dT u)=jZ u:=by
 obtain ⟨_,_,h3,_⟩:=hu;unfold dT;cases h:jZ u
 ·rfl
 rw [if_pos rfl];exact decide_eq_true (by omega)
theorem l4 {E:Env} {t:RS} {u:ay} (hu:iu u) (hl:t.last=dT u):oT E t=(decide (E.B.dy=2)&&jZ u):=by unfold oT;rw [hl,k9 hu]
theorem l5 {E:Env} {s t:RS} {a:Int} {u:ay} {line:List Int} {us:List ay} (hu:iu u) (hc:t.cls=(s.cls||decide (u.kind=4))) (hl:t.last=dT u) :
  KS E s (a::line) (u::us)↔Ho E s u/\rU E.B a=false/\KS E t line us:=by
 unfold KS Ho;rw [l4 hu hl,uH,hc];have hn:qR (u::us)=true↔u.kind=3:=by unfold qR;rw [decide_eq_true_eq]
 rw [hn];unfold KJ KK;constructor
 ·rintro ⟨h1,c,h2,h3⟩;split at h2
  ·cases h2
  rename_i h4;split at h2
  ·cases h2
  rename_i h5;simp only [Bool.or_eq_true,Bool.and_eq_true,decide_eq_true_eq,not_or,Bool.not_eq_true,Bool.not_eq_true',not_and,Bool.not_eq_false] at h4 h5;refine ⟨⟨h1,fun e=>h4.1.2 e.1 e.2,fun e=>h4.2 e.1 e.2⟩,h4.1.1,?_,c,h2,h3⟩;rw [Bool.and_eq_true,decide_eq_true_eq];exact fun e=>h5 e
 rintro ⟨⟨h1,h2,h3⟩,h4,h5,c,h6,h7⟩;refine ⟨h1,c,?_,h7⟩;rw [if_neg,if_neg,h6]
 ·rw [Bool.and_eq_true,Bool.not_eq_true',<- Bool.not_eq_true];rintro ⟨e1,e2⟩;exact e2 (h5 e1)
 simp only [Bool.or_eq_true,Bool.and_eq_true,decide_eq_true_eq,not_or,Bool.not_eq_true];exact ⟨⟨h4,fun e=>h2 e⟩,fun e=>h3 e⟩
theorem Sl {E:Env} {x:bJ} {m:Mv} (h:m∈fB E x):x.n≠12/\∃ (i:Nat) (us:List ay) (u:ay),E.ai[i]?=some us/\u∈us/\(aX E x u).2=true/\0<=E.B.aA.getD i 0/\m=⟨i,nd E u+E.B.aA.getD i 0,u,(aX E x u).1⟩:=by
 unfold fB at h;split at h
 ·cases h
 rename_i hn;obtain ⟨i,us,bd,hm⟩:=Kp h;rw [Nat.zero_add] at hm;obtain ⟨u,hu,hm⟩:=Ko hm;obtain ⟨h0,h1,h2⟩:=Qb hm;exact ⟨hn,i,us,u,bd,hu,h1,h2,h0⟩
theorem l6 {E:Env} {u:ay} (hu:iu u):nd E u=tI E.H.ct u:=by
 obtain ⟨h1,h2,_,_⟩:=hu;unfold nd tI;by_cases a:u.kind=1
 ·rw [if_pos a,if_pos a]
 rw [if_neg a,if_neg a];by_cases b:u.kind=2
 ·rw [if_pos b,if_pos b]
 rw [if_neg b,if_neg b];by_cases c:u.kind=3
 ·rw [if_pos c,if_pos c]
 rw [if_neg c,if_neg c,if_pos (by omega)]
def xG (E:Env) (c:Bool) (line:List Int) (us:List ay):Int:=
 (E.kK+(if (!decide (E.ee.cls=[])&&!(c||dv 4 us))=true then E.H.ct.nY else 0)+mf E.H.ct us+mC E.B line)*16+us.length
theorem l7 {E:Env} {c:Bool} {a:Int} {u:ay} {line:List Int} {us:List ay}:xG E c (a::line) (u::us)=xG E (c||decide (u.kind=4)) line us+((tI E.H.ct u+E.B.aA.getD a.toNat 0)*16+1):=by unfold xG dv;rw [List.any_cons,mC,<- Bool.or_assoc,show mf E.H.ct (u::us)=tI E.H.ct u+mf E.H.ct us from by unfold mf;rw [List.map_cons,List.sum_cons],List.length_cons];unfold Bd;split<;>push_cast<;>omega
theorem Sm {H:aj} {B:bl} {f:aZ} (h0:eo H=0) (hr:nj H B=true) (hF:lZ H.lex f):∀ (path:List Mv) (p:bn) (s:RS) (n:Int),Rel H f p s n->0<=n->Bf (cD H B f) (toS (cI H.lex f) n s) path ->
  (n=0->path≠[])/\(∃ q,rN (bD H f) p (path.map (·.use)) q/\mO (bD H f) q=true/\q.cl=f.ar)/\Wall.uk H (path.map (·.sign)) (path.map (·.use))/\KS (cD H B f) s (path.map (·.sign)) (path.map (·.use)) /\
    (∀ a∈(path.map (·.sign):List Int),0<=a/\a<H.list.aA.length)/\Bg (cD H B f) (toS (cI H.lex f) n s) path=xG (cD H B f) s.cls (path.map (·.sign)) (path.map (·.use))
 | [],p,s,n,hR,hn,hp=>by
   have hP:=QD (B:=B) h0 hF;have hp:(gv (cD H B f) (toS (cI H.lex f) n s)).2=true:=hp;have fM:n≠0:=by intro e;unfold gv at hp;rw [if_pos (by rw [show (toS (cI H.lex f) n s).n=n from rfl,decide_eq_true e];rfl)] at hp;cases hp
   obtain ⟨h1,h2⟩:=Ya hP fM hR.can;rw [h1] at hp;have h2:=h2 hp;unfold GF at hp;simp only [Bool.and_eq_true,decide_eq_true_eq,Bool.not_eq_true',DZ] at hp;obtain ⟨⟨⟨e1,e2⟩,e3⟩,e4⟩:=hp;refine ⟨fun e=>absurd e fM,⟨p,rfl,by rw [hR.whole];exact e2,?_⟩,trivial,⟨fun e=>(by rw [e4] at e;cases e),s.cls,rfl,?_⟩,by simp,?_⟩
   ·rw [hR.cl,List.take_of_length_le (by omega)]
   ·revert e3;cases decide ((cD H B f).B.cls=2)<;>cases decide ((cD H B f).ee.cls=[])<;>cases s.cls<;>decide
   show (gv (cD H B f) (toS (cI H.lex f) n s)).1*16=_;rw [h2];unfold xG;simp [mf,mC,dv]
 | m::path,p,s,n,hR,hn,⟨hm,hp⟩=>by
   have hH:=vR h0;have hP:=QD (B:=B) h0 hF;obtain ⟨Z1,i,us,u,bd,hu,cp,kM,rfl⟩:=Sl hm;have bd:(lY H)[i]?=some us:=bd;obtain ⟨jv,rfl⟩:=QC bd;have kV:=(GI hH (List.mem_of_getElem? bd)).2 u hu;obtain ⟨f1,f2⟩:=XZ hP hR.can hR.zero (u:=u) kV.2.2.1;obtain ⟨f3,f4⟩:=f2 cp;rw [<- f1] at cp;obtain ⟨s1,s2,s3,r,s4,s5⟩:=c9 hF hR hn kV cp f4;have hp:Bf (cD H B f) (aX (cD H B f) (toS (cI H.lex f) n s) u).1 path:=hp;rw [<- f3] at hp;obtain ⟨_,⟨q,g1,g2,g3⟩,g4,g5,g6,g7⟩:=Sm h0 hr hF path r _ (n+1) s5 (by omega) hp;refine ⟨fun _=>by simp,⟨q,⟨r,s4,g1⟩,g2,g3⟩,⟨hu,g4⟩,?_,?_,?_⟩
   ·rw [List.map_cons,List.map_cons,l5 kV s2 s3];refine ⟨s1,?_,g5⟩;unfold rU;exact decide_eq_false (by show ¬ B.aA.getD ((i:Int)).toNat 0<0;rw [Int.toNat_natCast];exact Int.not_lt.2 kM)
   ·intro a ha;rw [List.map_cons] at ha;rcases List.mem_cons.1 ha with rfl|ha
    ·exact ⟨by show (0:Int)<=(i:Int);omega,by show (i:Int)<_;omega⟩
    exact g6 a ha
   show Bg (cD H B f) (aX (cD H B f) (toS (cI H.lex f) n s) u).1 path+((nd (cD H B f) u+(cD H B f).B.aA.getD i 0)*16+1)=_;rw [<- f3,g7,List.map_cons,List.map_cons,l7,s2,l6 kV,Int.toNat_natCast]
def xH:RS:=⟨0,0,0,false⟩
theorem l8 (H:aj) (f:aZ):Rel H f fI xH 0:=by
 refine ⟨⟨⟨by decide,?_⟩,⟨by decide,?_⟩,fun h=>absurd h (by decide)⟩,rfl,rfl,rfl,rfl,⟨fun _=>rfl,fun _=>rfl⟩,fun _=>rfl⟩
 ·rw [DZ];show (0:Int)<_;omega
 show (0:Int)<=_;omega
theorem l9 (H:aj) (f:aZ):toS (cI H.lex f) 0 xH=eK:=rfl
theorem Hr {H:aj} (h0:eo H=0) {line:List Int} (hl:line.length<=60) (hs:∀ a∈line,0<=a/\a<H.list.aA.length):dX H line=0:=by unfold dX;rw [if_neg (by omega),if_neg (by omega),if_neg];rw [List.any_eq_true];rintro ⟨a,ha,hb⟩;have:=hs a ha;rw [Bool.not_eq_true',<- Bool.not_eq_true,dY] at hb;omega
theorem Sn {H:aj} {B:bl} (h0:eo H=0) (h:nj H B=true):iB H B=0:=by unfold iB;rw [if_neg (by omega),if_pos h]
theorem n9 {H:aj} {B:bl} {f:aZ} {line:List Int} {us:List ay} (hl:line.length=us.length):KS (cD H B f) xH line us↔kN H B line ⟨f,us⟩=true:=by
 rw [<- YB H B (w:=⟨f,us⟩) hl];unfold KS KL;have hm:oT (cD H B f) xH=false:=by unfold oT;rw [show decide (0<xH.last)=false from rfl,Bool.and_false]
 rw [hm];show (_/\∃ c,uH B line us false=some c/\((!decide (B.cls=2)||c)||decide ((bZ H.lex f.entry).cls=[]))=true)↔(match uH B line us false with|none=>false|some c=>(!decide (B.cls=2)||c)||decide ((bZ H.lex f.entry).cls=[]))=true;cases hk:uH B line us false with
 | none=>simp
 | some c=>
   constructor
   ·rintro ⟨_,d,hd,h⟩;cases hd;exact h
   intro h;exact ⟨fun e=>(by cases e),c,rfl,h⟩
theorem o0 {H:aj} {B:bl} {f:aZ} (h0:dZ H.lex f=0) {line:List Int} {us:List ay} (hl:us.length<=12):xG (cD H B f) false line us / 16=gC H ⟨f,us⟩+mC B line:=by
 have e:xG (cD H B f) false line us=(gC H ⟨f,us⟩+mC B line)*16+us.length:=by unfold xG gC uI;rw [if_pos h0,Bool.false_or];show (nm H.lex f+(if (!decide ((bZ H.lex f.entry).cls=[])&&!dv 4 us)=true then H.ct.nY else 0)+mf H.ct us+mC B line)*16+_=(nm H.lex f+mf H.ct us+(if (!uM us&&!decide ((bZ H.lex f.entry).cls=[]))=true then H.ct.nY else 0)+mC B line)*16+_;rw [show uM us=dv 4 us from rfl,Bool.and_comm];omega
 rw [e];omega
theorem o7 {H:aj} {B:bl} {f:aZ} (hb:iY H B f=0) {ρ:Nat} {w:Wy} (hw:(eY (cD H B f) eK)[ρ]?=some w) :
  nu H B (nW (cD H B f) w).aA ⟨f,(nW (cD H B f) w).ai⟩=0/\xt H B (nW (cD H B f) w).aA ⟨f,(nW (cD H B f) w).ai⟩=(nW (cD H B f) w).cost:=by
 obtain ⟨h0,hr,hf⟩:=Hf hb;have hF:=mn hf;have hE:=Du h0 hr hF;obtain ⟨h1,h2⟩:=KO hE 12 eK xk rfl ρ w hw;have hl:=KP hE _ _ xk h1;have hl:(nU (cD H B f) eK w).length<=12:=by have:eK.n=0:=rfl;omega
 obtain ⟨p,hp⟩:∃ p,p=nU (cD H B f) eK w:=⟨_,rfl⟩;have hs:nW (cD H B f) w=⟨p.map (·.sign),p.map (·.use),w.cost / 16⟩:=by rw [hp];rfl
 rw [<- hp] at h1 h2 hl;rw [hs,<- h2];rw [<- l9] at h1 ⊢;obtain ⟨a1,a2,a3,a4,a5,a6⟩:=Sm h0 hr hF p fI xH 0 (l8 H f) (by omega) h1;have a1:=a1 rfl;have dK:=List.length_pos_iff.2 a1;rw [n9 (by simp)] at a4;have jf:jl H (p.map (·.sign)) ⟨f,p.map (·.use)⟩=true:=by unfold jl;rw [Bool.and_eq_true,Bool.and_eq_true,dY,decide_eq_true_eq,yR _ _ _ (by simp)];refine ⟨⟨⟨by rw [List.length_map];omega,by rw [List.length_map];omega⟩,by simp⟩,a3,fI,List.mem_singleton.2 rfl,a2⟩
 have hD:fQ H (p.map (·.sign)) ⟨f,p.map (·.use)⟩=0:=by unfold fQ;rw [Hr h0 (by rw [List.length_map];omega) a5,if_neg (by decide),if_neg (by show ¬ dZ H.lex f≠0;omega),if_pos jf]
 have he:nu H B (p.map (·.sign)) ⟨f,p.map (·.use)⟩=0:=by unfold nu;rw [if_neg (by rw [Sn h0 hr];decide),if_neg (by omega),if_pos a4]
 refine ⟨he,?_⟩;unfold xt;rw [if_pos he];show _=Bg (cD H B f) (toS (cI H.lex f) 0 xH) p / 16;rw [a6,show xH.cls=false from rfl,o0 hf (by rw [List.length_map];omega)]
end Go.Abs.Wall.Spl
namespace Go.Abs.Wall.Spl
open Go Go.Abs Go.Proofs Go.Abs.Wall
open Go.Abs.Wall.Lst hiding aq ic lH jx gE dn lI kH lJ lK lL lM lN eA lO ch lP vr
end Go.Abs.Wall.Spl
