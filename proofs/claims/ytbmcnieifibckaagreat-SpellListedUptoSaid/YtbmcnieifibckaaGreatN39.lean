/- What is proved: small laws for the walks of this seat, and contracts of its functions. No condition but those each theorem names. -/
import Derived.Test.YtbmcnieifibckaaGreatN19
import Derived.Test.YtbmcnieifibckaaGreatN23
import Derived.Test.YtbmcnieifibckaaGreatN28
import Derived.Test.YtbmcnieifibckaaGreatN26
import Derived.Test.YtbmcnieifibckaaGreatN31
set_option maxRecDepth 100000
set_option maxHeartbeats 2000000
set_option linter.unusedVariables false
set_option linter.unusedSimpArgs false
namespace Go.Abs.Wall.Spl
open Go Go.Abs Go.Proofs Go.Abs.Wall
theorem Al {p:bg} {u:ao} {q:bg}:∀ {l:List iO} {c:Int},q∈fk p u l c↔∃ (j:Nat) (k:iO),l[j]?=some k/\fG k.text u.text=true/\q=⟨p.bH++u.text,p.closed,p.cl++[c+j],u⟩
 | [],c=>by simp [fk]
 | k::t,c=>by
   unfold fk;rw [List.mem_append,Al (l:=t) (c:=c+1)];constructor
   ·rintro (h|⟨j,k',h1,h2,h3⟩)
    ·split at h
     ·rename_i hb;exact ⟨0,k,rfl,hb,by rw [List.mem_singleton.1 h];simp⟩
     cases h
    exact ⟨j+1,k',h1,h2,by rw [h3,show c+1+(j:Int)=c+((j+1:Nat):Int) by omega]⟩
   rintro ⟨j,k',h1,h2,h3⟩;cases j with
   | zero=>
     cases h1
     left;rw [if_pos h2,h3];simp
   | succ j=>
     right;exact ⟨j,k',h1,h2,by rw [h3,show c+1+(j:Int)=c+((j+1:Nat):Int) by omega]⟩
theorem Qb {n:Nat}:∀ {l:List Int} {last:Int} {k:Nat} {c:Int},iz n l last=true->l[k]?=some c->(match (l.take k).getLast? with|some z=>z|none=>last)<c
 | [],_,k,_,_,h=>by simp at h
 | a::t,last,0,c,h,hc=>by
   cases hc
   exact (Kf h a (List.mem_cons_self ..)).1
 | a::t,last,k+1,c,h,hc=>by
   unfold iz at h;rw [Bool.and_eq_true] at h;have ih:=Qb (l:=t) (last:=a) (k:=k) (c:=c) h.2 hc;rw [List.take_succ_cons,List.getLast?_cons];cases hq:(t.take k).getLast? with
   | none=>rw [hq] at ih;exact ih
   | some z=>rw [hq] at ih;exact ih
theorem Qc {cl:List Int} (h:∀ c∈cl,0<=c):0<=dD cl:=by
 rw [HX];cases hq:cl.getLast? with
 | none=>show (0:Int)<=-1+1;omega
 | some z=>have:=h z (List.mem_of_getLast? hq);show (0:Int)<=z+1;omega
theorem vn (H:ax) (f:bc):(ca H.lex f).length=f.ah.length+1:=by unfold ca;simp
theorem Qd {H:ax} {f:bc} {k:Int} {c:Int} (h0:0<=k) (hc:f.ah[k.toNat]?=some c):partAt (ca H.lex f) (k+1)=(cE H.lex c).text:=by unfold partAt;refine xM ?_;unfold ca;rw [show (k+1).toNat=k.toNat+1 by omega,List.getElem?_cons_succ,List.getElem?_map,hc];rfl
theorem XP (H:ax) (f:bc):(bx H f).body=jL H.lex f:=by
 show mS H.lex f.entry f.ending=_;unfold mS jL;by_cases h:f.ending<0
 ·rw [if_pos h,if_neg (by omega),List.append_nil]
 rw [if_neg h,if_pos (by omega)]
theorem XQ (H:ax) (f:bc) (k:Nat):cQ (bx H f) (f.ah.take k)=((ca H.lex f).take (k+1)).flatten:=by unfold cQ ca;rw [XP,List.take_succ_cons,List.flatten_cons,<- List.map_take];rfl
structure Rel (H:ax) (f:bc) (p:bg) (s:RS) (n:Int):Prop where
 can:Can (ca H.lex f) s
 cl:p.cl=f.ah.take s.part.toNat
 snd:p.bH=vd (ca H.lex f) s
 cls:p.closed=s.cls
 hv:s.last=dE p.last
 new:p.last.kind=0↔n=0
 zero:n=0->s.part=0
theorem Rel.cQ {H:ax} {f:bc} {p:bg} {s:RS} {n:Int} (h:Rel H f p s n):Wall.cQ (bx H f) p.cl=((ca H.lex f).take s.part.toNat).flatten++partAt (ca H.lex f) s.part:=by have h1:=h.can.part;obtain ⟨t,ht⟩:=aN (l:=ca H.lex f) (i:=s.part.toNat) (by omega);rw [h.cl,XQ,dg ht,List.flatten_append];unfold partAt;rw [xM ht,List.flatten_cons,List.flatten_nil,List.append_nil]
theorem Rel.part {H:ax} {f:bc} {p:bg} {s:RS} {n:Int} (h:Rel H f p s n):jO (bx H f) p=(partAt (ca H.lex f) s.part).drop s.done.toNat:=by have h2:=h.can.done;unfold jO;rw [h.cQ,h.snd];unfold vd;rw [List.length_append,List.length_take,List.drop_append,List.drop_eq_nil_of_le (by omega),List.nil_append];congr 1;omega
theorem Rel.whole {H:ax} {f:bc} {p:bg} {s:RS} {n:Int} (h:Rel H f p s n):ll (bx H f) p=kK (ca H.lex f) s:=by have h2:=h.can.done;unfold ll kK;rw [decide_eq_decide,h.cQ,h.snd];unfold vd;rw [List.length_append,List.length_append,List.length_take];omega
theorem Rel.FB {H:ax} {f:bc} {p:bg} {s:RS} {n:Int} (h:Rel H f p s n):jO (bx H f) p=[]↔kK (ca H.lex f) s=true:=by have h2:=h.can.done;rw [h.part];unfold kK;rw [decide_eq_true_eq,List.drop_eq_nil_iff];omega
def Am (E:Env) (s:RS) (u:ao):Prop:=(mP E s=true->u.kind=3)/\¬ (u.kind=3/\E.B.dM=0)/\¬ (u.kind=4/\E.B.cls=0)
theorem FC {u:ao} (h:u.kind=3\/u.kind=4):dE u=0:=by unfold dE ko;rcases h with h|h<;>rw [h]<;>rfl
theorem Qe {a t:List UInt8} (h:fG t a=true):t.take a.length=a:=by obtain ⟨r,rfl⟩:=Co.1 h;exact List.take_left
theorem Qf {H:ax} {B:bX} {f:bc} (hF:kL H.lex f) {p:bg} {s:RS} {n:Int} (h:Rel H f p s n) (hn:0<=n) {u:ao} (hu:gG u)
  (ht:(rf (bC H B f) (ca H.lex f) s u (decide (n=0))).2=true) (hc:Can (ca H.lex f) (rf (bC H B f) (ca H.lex f) s u (decide (n=0))).1) :
  Am (bC H B f) s u/\(rf (bC H B f) (ca H.lex f) s u (decide (n=0))).1.cls=(s.cls||decide (u.kind=4))/\(rf (bC H B f) (ca H.lex f) s u (decide (n=0))).1.last=dE u /\
   ∃ r,r∈Wall.aU (bx H f) p u/\Rel H f r (rf (bC H B f) (ca H.lex f) s u (decide (n=0))).1 (n+1):=by
 have h1:=h.can.part;have h2:=h.can.done;rw [vn] at h1;obtain ⟨uQ,gf,Hp,XR⟩:=hu;unfold rf at ht hc ⊢;by_cases h0:(mP (bC H B f) s&&!decide (u.kind=3))=true
 ·rw [if_pos h0] at ht;cases ht
 rw [if_neg h0] at ht hc ⊢;have An:mP (bC H B f) s=true->u.kind=3:=by intro hm;rw [hm] at h0;simpa using h0
 have rR:∀ {r:bg},r.last=u->(r.last.kind=0↔n+1=0):=by rintro r rfl;omega
 by_cases k1:u.kind=1
 ·rw [if_pos k1] at ht hc ⊢;have lQ:decide (u.kind=4)=false:=by rw [k1];rfl
  have Qg:Am (bC H B f) s u:=⟨An,by omega,by omega⟩;rw [lQ,Bool.or_false];by_cases hw:kK (ca H.lex f) s=false
  ·rw [if_pos hw] at ht hc ⊢;refine ⟨Qg,rfl,rfl,⟨p.bH++u.text,p.closed,p.cl,u⟩,?_,hc,h.cl,?_,h.cls,rfl,rR rfl,fun e=>by omega⟩
   ·unfold Wall.aU;rw [if_pos k1];unfold gM;rw [if_pos (by rw [Ne,h.FB,hw];decide),h.part,if_pos ht];exact List.mem_singleton.2 rfl
   show p.bH++u.text=_;rw [h.snd];unfold vd;rw [List.append_assoc];congr 1;show _=(partAt (ca H.lex f) s.part).take (s.done+u.text.length).toNat;rw [show (s.done+u.text.length).toNat=s.done.toNat+u.text.length by omega,List.take_add,Qe ht]
  have hw:kK (ca H.lex f) s=true:=(by simpa using hw);rw [if_neg (by rw [hw];decide)] at ht hc ⊢;simp only [Bool.and_eq_true,decide_eq_true_eq,vn] at ht;obtain ⟨zs,sK⟩:=ht;obtain ⟨c,bA⟩:=aN (l:=f.ah) (i:=s.part.toNat) (by omega);have Kg:=hF.dO c (List.mem_of_getElem? bA);have yC:=Qd (H:=H) (f:=f) h1.1 bA
  have kg:dD p.cl<=c:=by
   have h7:=Qb hF.up bA;rw [HX,h.cl];cases hq:(f.ah.take s.part.toNat).getLast? with
   | none=>simp only [hq] at h7 ⊢;omega
   | some z=>simp only [hq] at h7 ⊢;omega
  have XS:0<=dD p.cl:=Qc fun d hd=>(hF.dO d (List.mem_of_mem_take (by rw [<- h.cl];exact hd))).1;have bw:p.cl++[c]=f.ah.take (s.part+1).toNat:=(by rw [h.cl,show (s.part+1).toNat=s.part.toNat+1 by omega,dg bA]);have dI:=hF.bE;have bR:p.cl.length=s.part.toNat:=by rw [h.cl,List.length_take];omega
  refine ⟨Qg,rfl,rfl,⟨p.bH++u.text,p.closed,p.cl++[c],u⟩,?_,hc,bw,?_,h.cls,rfl,rR rfl,fun e=>by omega⟩
  ·unfold Wall.aU;rw [if_pos k1];unfold gM;rw [if_neg (by rw [Ne,h.FB,hw];decide),if_pos (by omega),Al];refine ⟨(c - dD p.cl).toNat,cE H.lex c,?_,by rw [<- yC];exact sK,?_⟩
   ·show (H.lex.ah.drop (dD p.cl).toNat)[(c - dD p.cl).toNat]?=_;rw [List.getElem?_drop,show (dD p.cl).toNat+(c - dD p.cl).toNat=c.toNat by omega];exact kM Kg.1 Kg.2
   rw [show dD p.cl+((c - dD p.cl).toNat:Int)=c by omega]
  show p.bH++u.text=_;unfold kK at hw;rw [decide_eq_true_eq] at hw;rw [h.snd];unfold vd;obtain ⟨t,CS⟩:=aN (l:=ca H.lex f) (i:=s.part.toNat) (by rw [vn];omega);have Kh:partAt (ca H.lex f) s.part=t:=by unfold partAt;exact xM CS
  have e2:(partAt (ca H.lex f) s.part).take s.done.toNat=t:=(by rw [List.take_of_length_le (by omega),Kh]);show _=((ca H.lex f).take (s.part+1).toNat).flatten++(partAt (ca H.lex f) (s.part+1)).take ((u.text.length:Nat):Int).toNat;rw [show (s.part+1).toNat=s.part.toNat+1 by omega,dg CS,List.flatten_append,Int.toNat_natCast,Qe sK,e2,List.flatten_cons,List.flatten_nil,List.append_nil]
 rw [if_neg k1] at ht hc ⊢;by_cases k2:u.kind=2
 ·rw [if_pos k2] at ht hc ⊢;simp only [Bool.and_eq_true,decide_eq_true_eq] at ht;have gq:=h.zero ht.1;have lQ:decide (u.kind=4)=false:=by rw [k2];rfl
  rw [lQ,Bool.or_false];refine ⟨⟨An,by omega,by omega⟩,rfl,rfl,⟨u.text,p.closed,p.cl,u⟩,?_,hc,h.cl,?_,h.cls,rfl,rR rfl,fun e=>by omega⟩
  ·unfold Wall.aU;rw [if_neg k1,if_pos k2,if_neg]
   ·exact List.mem_singleton.2 rfl
   unfold rk;rw [decide_eq_true (h.new.2 ht.1),decide_eq_true (show u.text=(bx H f).e.root from ht.2)];decide
  show u.text=((ca H.lex f).take s.part.toNat).flatten++(partAt (ca H.lex f) s.part).take ((u.text.length:Nat):Int).toNat;rw [gq,Int.toNat_natCast];show u.text=[]++(jL H.lex f).take u.text.length;rw [List.nil_append,ht.2];unfold jL;exact List.take_left.symm
 rw [if_neg k2] at ht hc ⊢;by_cases k3:u.kind=3
 ·rw [if_pos k3] at ht hc ⊢;simp only [Bool.and_eq_true,decide_eq_true_eq,Bool.not_eq_true',decide_eq_false_iff_not] at ht;obtain ⟨⟨zs,sK⟩,Ki⟩:=ht;have lQ:decide (u.kind=4)=false:=by rw [k3];rfl
  have FD:ko p.last=true:=by
   rw [h.hv] at sK;unfold dE at sK;split at sK
   ·assumption
   omega
  rw [lQ,Bool.or_false];refine ⟨⟨An,fun e=>zs e.2,by omega⟩,rfl,(FC (.inl k3)).symm,⟨p.bH,p.closed,p.cl,u⟩,?_,hc,h.cl,h.snd,h.cls,(FC (.inl k3)).symm,rR rfl,fun e=>by omega⟩;unfold Wall.aU;rw [if_neg k1,if_neg k2,if_pos k3,if_neg]
  ·exact List.mem_singleton.2 rfl
  rw [h.hv] at sK;unfold dE at sK;rw [if_pos FD] at sK;unfold pE;rw [show Wall.FE p=true from FD,h.snd,Ki,decide_eq_false (by omega)];decide
 rw [if_neg k3] at ht hc ⊢;have k4:u.kind=4:=(by omega);rw [if_pos k4] at ht hc ⊢;simp only [Bool.and_eq_true,decide_eq_true_eq,Bool.not_eq_true',decide_eq_false_iff_not] at ht;obtain ⟨⟨⟨⟨zs,sK⟩,Ki⟩,XT⟩,XU,XV⟩:=ht;refine ⟨⟨An,by omega,fun e=>zs e.2⟩,by rw [k4];simp,(FC (.inr k4)).symm,⟨p.bH,true,p.cl,u⟩,?_,hc,h.cl,h.snd,rfl,(FC (.inr k4)).symm,rR rfl,fun e=>by omega⟩;unfold Wall.aU;rw [if_neg k1,if_neg k2,if_neg k3,if_pos k4,if_neg]
 ·exact List.mem_singleton.2 rfl
 have gq:p.cl=[]:=by rw [h.cl,Ki];rfl
 have gz:=h.cQ;have vN:=h.whole;rw [sK] at vN;unfold ll at vN;rw [decide_eq_true_eq,gq] at vN;have hb:(p.bH.length:Int)=(bx H f).body.length:=by rw [vN];unfold Wall.cQ jq;simp
 unfold vp;rw [h.cls,XT,gq,decide_eq_true hb,decide_eq_true (show u.text=(bx H f).e.cls from XV),decide_eq_false (show ¬ (bx H f).e.cls=[] from XU)];decide
theorem XW {s:Sp} {p r:bg} {u:ao} (h:r∈Wall.aU s p u):p.cl <+: r.cl:=by
 have lL:∀ {a:bg},a.cl=p.cl->r∈[a]->p.cl <+: r.cl:=fun e hm=>by rw [List.mem_singleton.1 hm,e];exact List.prefix_refl _
 unfold Wall.aU at h;split at h
 ·unfold gM at h;split at h
  ·split at h
   ·exact lL (by rfl) h
   cases h
  split at h
  ·obtain ⟨j,k,_,_,rfl⟩:=Al.1 h;exact List.prefix_append _ _
  cases h
 split at h
 ·split at h
  ·cases h
  exact lL (by rfl) h
 split at h
 ·split at h
  ·cases h
  exact lL (by rfl) h
 split at h
 ·split at h
  ·cases h
  exact lL (by rfl) h
 cases h
theorem XX {s:Sp} {p r r':bg} {u:ao} {F:List Int} (h:r∈Wall.aU s p u) (h':r'∈Wall.aU s p u) (hp:r.cl <+: F) (aZ:r'.cl <+: F):r=r':=by
 have lL:∀ {a:bg},r∈[a]->r'∈[a]->r=r':=fun e e'=>(List.mem_singleton.1 e).trans (List.mem_singleton.1 e').symm;unfold Wall.aU at h h';split at h
 ·rename_i k;rw [if_pos k] at h';unfold gM at h h';split at h
  ·rename_i k2;rw [if_pos k2] at h';split at h
   ·rename_i k3;rw [if_pos k3] at h';exact lL h h'
   cases h
  rename_i k2;rw [if_neg k2] at h';split at h
  ·rename_i k3;rw [if_pos k3] at h';obtain ⟨j,k,_,_,rfl⟩:=Al.1 h;obtain ⟨j',k',_,_,rfl⟩:=Al.1 h';have e:p.cl++[dD p.cl+j]=p.cl++[dD p.cl+j']:=by have:=List.prefix_of_prefix_length_le hp aZ (by simp);exact this.eq_of_length (by simp)
   rw [e]
  cases h
 rename_i k;rw [if_neg k] at h';split at h
 ·rename_i k;rw [if_pos k] at h';split at h
  ·cases h
  rename_i k3;rw [if_neg k3] at h';exact lL h h'
 rename_i k;rw [if_neg k] at h';split at h
 ·rename_i k;rw [if_pos k] at h';split at h
  ·cases h
  rename_i k3;rw [if_neg k3] at h';exact lL h h'
 rename_i k;rw [if_neg k] at h';split at h
 ·rename_i k;rw [if_pos k] at h';split at h
  ·cases h
  rename_i k3;rw [if_neg k3] at h';exact lL h h'
 cases h
theorem Qh {s:Sp}:∀ {us:List ao} {p q:bg},qX s p us q->p.cl <+: q.cl
 | [],p,q,h=>by have h:q=p:=h;rw [h];exact List.prefix_refl _
 | u::us,p,q,⟨r,h1,h2⟩=>(XW h1).trans (Qh h2)
theorem XY {H:ax} {B:bX} {f:bc} (hF:kL H.lex f) {p r:bg} {s:RS} {n:Int} (h:Rel H f p s n) {u:ao} (hu:gG u)
  (hr:r∈Wall.aU (bx H f) p u) (hp:r.cl <+: f.ah) (ha:Am (bC H B f) s u):(rf (bC H B f) (ca H.lex f) s u (decide (n=0))).2=true:=by
 have h1:=h.can.part;have h2:=h.can.done;rw [vn] at h1;obtain ⟨uQ,gf,Hp,XR⟩:=hu;obtain ⟨Kj,XZ,Ya⟩:=ha;unfold rf
 rw [if_neg (by
  rw [Bool.and_eq_true,Bool.not_eq_true',decide_eq_false_iff_not];rintro ⟨e1,e2⟩;exact e2 (Kj e1))]
 unfold Wall.aU at hr;by_cases k1:u.kind=1
 ·rw [if_pos k1] at hr ⊢;unfold gM at hr;by_cases hw:kK (ca H.lex f) s=false
  ·rw [if_pos hw];rw [if_pos (by rw [Ne,h.FB,hw];decide),h.part] at hr;split at hr
   ·assumption
   cases hr
  have hw:kK (ca H.lex f) s=true:=(by simpa using hw);rw [if_neg (by rw [hw];decide)];rw [if_neg (by rw [Ne,h.FB,hw];decide)] at hr;split at hr
  ·obtain ⟨j,k,hk,hb,rfl⟩:=Al.1 hr;have bR:p.cl.length=s.part.toNat:=by rw [h.cl,List.length_take];omega
   obtain ⟨w,pb⟩:=hp;have bA:f.ah[s.part.toNat]?=some (dD p.cl+j):=by rw [<- pb,List.append_assoc,List.getElem?_append_right (by omega),bR,Nat.sub_self];rfl
   have aL:=(List.getElem?_eq_some_iff.1 bA).1;have XS:0<=dD p.cl:=Qc fun d hd=>(hF.dO d (List.mem_of_mem_take (by rw [<- h.cl];exact hd))).1;have yC:=Qd (H:=H) (f:=f) h1.1 bA;have hk:(H.lex.ah.drop (dD p.cl).toNat)[j]?=some k:=hk;rw [List.getElem?_drop] at hk;have Qi:cE H.lex (dD p.cl+j)=k:=by unfold cE;rw [show (dD p.cl+(j:Int)).toNat=(dD p.cl).toNat+j by omega];exact xM hk
   show (decide (s.part+1<((ca H.lex f).length:Int))&&fG (partAt (ca H.lex f) (s.part+1)) u.text)=true;rw [yC,Qi,hb,vn,decide_eq_true (by omega)];rfl
  cases hr
 rw [if_neg k1] at hr ⊢;by_cases k2:u.kind=2
 ·rw [if_pos k2] at hr ⊢;split at hr
  ·cases hr
  rename_i hb;unfold rk at hb;simp only [Bool.or_eq_true,Bool.not_eq_true',decide_eq_false_iff_not,not_or,Decidable.not_not] at hb;show (decide (n=0)&&decide (u.text=(bx H f).e.root))=true;rw [decide_eq_true (h.new.1 hb.1),decide_eq_true hb.2];rfl
 rw [if_neg k2] at hr ⊢;by_cases k3:u.kind=3
 ·rw [if_pos k3] at hr ⊢;split at hr
  ·cases hr
  rename_i hb;unfold pE at hb;simp only [Bool.or_eq_true,Bool.not_eq_true',decide_eq_true_eq,not_or,Bool.not_eq_false] at hb;obtain ⟨⟨te,vK⟩,Kk⟩:=hb;have FD:ko p.last=true:=te;have kI:s.last=p.last.text.length:=by rw [h.hv];unfold dE;rw [if_pos FD]
  show ((!decide ((bC H B f).B.dM=0)&&decide ((u.text.length:Int)<=s.last))&&qg (vd (ca H.lex f) s) u.text)=true;rw [<- h.snd,Kk,decide_eq_true (show (u.text.length:Int)<=s.last by omega),decide_eq_false (fun e=>XZ ⟨k3,e⟩)];rfl
 rw [if_neg k3] at hr ⊢;have k4:u.kind=4:=(by omega);rw [if_pos k4] at hr ⊢;split at hr
 ·cases hr
 rename_i hb;unfold vp at hb;simp only [Bool.or_eq_true,Bool.not_eq_true',decide_eq_true_eq,decide_eq_false_iff_not,not_or,Bool.not_eq_true,Decidable.not_not] at hb;obtain ⟨⟨⟨⟨te,vK⟩,Kk⟩,R1⟩,Kl⟩:=hb;have bR:p.cl.length=s.part.toNat:=by rw [h.cl,List.length_take];omega
 have gq:s.part=0:=(by omega);have HK:p.cl=[]:=List.eq_nil_of_length_eq_zero (by omega);have vN:kK (ca H.lex f) s=true:=by rw [<- h.whole];unfold ll;rw [decide_eq_true_eq,HK];unfold Wall.cQ jq;simp only [List.map_nil,List.flatten_nil,List.append_nil];omega
 show (((((!decide ((bC H B f).B.cls=0))&&kK (ca H.lex f) s)&&decide (s.part=0))&&!s.cls)&&(!decide ((bC H B f).dv.cls=[])&&decide (u.text=(bC H B f).dv.cls)))=true;rw [vN,decide_eq_true gq,<- h.cls,te,decide_eq_true (show u.text=(bC H B f).dv.cls from Kk),decide_eq_false (show ¬ (bC H B f).dv.cls=[] from vK),decide_eq_false (fun e=>Ya ⟨k4,e⟩)];rfl
end Go.Abs.Wall.Spl
namespace Go.Abs.Wall.Spl
open Go Go.Abs Go.Proofs Go.Abs.Wall
def KS (E:Env) (s:RS) (line:List Int) (us:List ao):Prop:=
 (mP E s=true->qk us=true)/\∃ c,sD E.B line us s.cls=some c/\((!decide (E.B.cls=2)||c)||decide (E.dv.cls=[]))=true
theorem Yb {u:ao} (hu:gG u):decide (0<dE u)=ko u:=by
 obtain ⟨_,_,h3,_⟩:=hu;unfold dE;cases h:ko u
 ·rfl
 rw [if_pos rfl];exact decide_eq_true (by omega)
theorem Yc {E:Env} {t:RS} {u:ao} (hu:gG u) (hl:t.last=dE u):mP E t=(decide (E.B.dM=2)&&ko u):=by unfold mP;rw [hl,Yb hu]
theorem Qj {E:Env} {s t:RS} {a:Int} {u:ao} {line:List Int} {us:List ao} (hu:gG u) (hc:t.cls=(s.cls||decide (u.kind=4))) (hl:t.last=dE u) :
  KS E s (a::line) (u::us)↔Am E s u/\sB E.B a=false/\KS E t line us:=by
 unfold KS Am;rw [Yc hu hl,sD,hc];have hn:qk (u::us)=true↔u.kind=3:=by unfold qk;rw [decide_eq_true_eq]
 rw [hn];unfold Fi Jn;constructor
 ·rintro ⟨h1,c,h2,h3⟩;split at h2
  ·cases h2
  rename_i h4;split at h2
  ·cases h2
  rename_i h5;simp only [Bool.or_eq_true,Bool.and_eq_true,decide_eq_true_eq,not_or,Bool.not_eq_true,Bool.not_eq_true',not_and,Bool.not_eq_false] at h4 h5;refine ⟨⟨h1,fun e=>h4.1.2 e.1 e.2,fun e=>h4.2 e.1 e.2⟩,h4.1.1,?_,c,h2,h3⟩;rw [Bool.and_eq_true,decide_eq_true_eq];exact fun e=>h5 e
 rintro ⟨⟨h1,h2,h3⟩,h4,h5,c,h6,h7⟩;refine ⟨h1,c,?_,h7⟩;rw [if_neg,if_neg,h6]
 ·rw [Bool.and_eq_true,Bool.not_eq_true',<- Bool.not_eq_true];rintro ⟨e1,e2⟩;exact e2 (h5 e1)
 simp only [Bool.or_eq_true,Bool.and_eq_true,decide_eq_true_eq,not_or,Bool.not_eq_true];exact ⟨⟨h4,fun e=>h2 e⟩,fun e=>h3 e⟩
theorem Yd {E:Env} {x:br} {s:Nat} {u:ao} (h1:(aU E x u).2=true) (h2:0<=E.B.aB.getD s 0):(⟨s,lO E u+E.B.aB.getD s 0,u,(aU E x u).1⟩:Mv)∈sq E x s u:=by unfold sq;rw [if_pos (by rw [h1,decide_eq_true h2];rfl)];exact List.mem_singleton.2 rfl
theorem Qk {E:Env} {x:br} {s:Nat} {m:Mv} {u:ao} (hm:m∈sq E x s u):∀ {us:List ao},u∈us->m∈nE E x s us
 | [],h=>by cases h
 | v::t,h=>by
   rw [nE,List.mem_append];rcases List.mem_cons.1 h with rfl|h
   ·exact .inl hm
   exact .inr (Qk hm h)
theorem Ql {E:Env} {x:br} {m:Mv}:∀ {rs:List (List ao)} {s i:Nat} {us:List ao},rs[i]?=some us->m∈nE E x (s+i) us->m∈mK E x s rs
 | [],_,_,_,h,_=>by simp at h
 | r::t,s,0,us,h,hm=>by
   cases h
   rw [mK,List.mem_append];exact .inl hm
 | r::t,s,i+1,us,h,hm=>by rw [mK,List.mem_append];exact .inr (Ql (rs:=t) (s:=s+1) (i:=i) h (by rw [show s+1+i=s+(i+1) by omega];exact hm))
theorem Qm {E:Env} {x:br} {m:Mv} (h:m∈dP E x):x.n≠12/\∃ (i:Nat) (us:List ao) (u:ao),E.aj[i]?=some us/\u∈us/\(aU E x u).2=true/\0<=E.B.aB.getD i 0/\m=⟨i,lO E u+E.B.aB.getD i 0,u,(aU E x u).1⟩:=by
 unfold dP at h;split at h
 ·cases h
 rename_i hn;obtain ⟨i,us,ba,hm⟩:=ES h;rw [Nat.zero_add] at hm;obtain ⟨u,hu,hm⟩:=Cf hm;obtain ⟨h0,h1,h2⟩:=Ce hm;exact ⟨hn,i,us,u,ba,hu,h1,h2,h0⟩
theorem Ye {E:Env} {x:br} (hn:x.n≠12) {i:Nat} {us:List ao} {u:ao} (h1:E.aj[i]?=some us) (h2:u∈us) (h3:(aU E x u).2=true) (h4:0<=E.B.aB.getD i 0) :
  (⟨i,lO E u+E.B.aB.getD i 0,u,(aU E x u).1⟩:Mv)∈dP E x:=by
 unfold dP;rw [if_neg hn];refine Ql (i:=i) h1 ?_;rw [Nat.zero_add];exact Qk (Yd h3 h4) h2
theorem Yf {E:Env} {u:ao} (hu:gG u):lO E u=sL E.H.cq u:=by
 obtain ⟨h1,h2,_,_⟩:=hu;unfold lO sL;by_cases a:u.kind=1
 ·rw [if_pos a,if_pos a]
 rw [if_neg a,if_neg a];by_cases b:u.kind=2
 ·rw [if_pos b,if_pos b]
 rw [if_neg b,if_neg b];by_cases c:u.kind=3
 ·rw [if_pos c,if_pos c]
 rw [if_neg c,if_neg c,if_pos (by omega)]
def wS (E:Env) (c:Bool) (line:List Int) (us:List ao):Int:=
 (E.kj+(if (!decide (E.dv.cls=[])&&!(c||iV 4 us))=true then E.H.cq.nH else 0)+lR E.H.cq us+mm E.B line)*16+us.length
theorem Yg {E:Env} {c:Bool} {a:Int} {u:ao} {line:List Int} {us:List ao}:wS E c (a::line) (u::us)=wS E (c||decide (u.kind=4)) line us+((sL E.H.cq u+E.B.aB.getD a.toNat 0)*16+1):=by unfold wS iV;rw [List.any_cons,mm,<- Bool.or_assoc,show lR E.H.cq (u::us)=sL E.H.cq u+lR E.H.cq us from by unfold lR;rw [List.map_cons,List.sum_cons],List.length_cons];unfold Ct;split<;>push_cast<;>omega
theorem Qn {H:ax} {B:bX} {f:bc} (h0:eG H=0) (hr:nG H B=true) (hF:kL H.lex f):∀ (path:List Mv) (p:bg) (s:RS) (n:Int),Rel H f p s n->0<=n->wH (bC H B f) (toS (ca H.lex f) n s) path ->
  (n=0->path≠[])/\(∃ q,qX (bx H f) p (path.map (·.use)) q/\ll (bx H f) q=true/\q.cl=f.ah)/\Wall.sc H (path.map (·.sign)) (path.map (·.use))/\KS (bC H B f) s (path.map (·.sign)) (path.map (·.use)) /\
    (∀ a∈(path.map (·.sign):List Int),0<=a/\a<H.list.aB.length)/\wI (bC H B f) (toS (ca H.lex f) n s) path=wS (bC H B f) s.cls (path.map (·.sign)) (path.map (·.use))
 | [],p,s,n,hR,hn,hp=>by
   have hP:=Fb (B:=B) h0 hF;have hp:(eU (bC H B f) (toS (ca H.lex f) n s)).2=true:=hp;have fy:n≠0:=by intro e;unfold eU at hp;rw [if_pos (by rw [show (toS (ca H.lex f) n s).n=n from rfl,decide_eq_true e];rfl)] at hp;cases hp
   obtain ⟨h1,h2⟩:=OY hP fy hR.can;rw [h1] at hp;have h2:=h2 hp;unfold Cm at hp;simp only [Bool.and_eq_true,decide_eq_true_eq,Bool.not_eq_true',vn] at hp;obtain ⟨⟨⟨e1,e2⟩,e3⟩,e4⟩:=hp;refine ⟨fun e=>absurd e fy,⟨p,rfl,by rw [hR.whole];exact e2,?_⟩,trivial,⟨fun e=>(by rw [e4] at e;cases e),s.cls,rfl,?_⟩,by simp,?_⟩
   ·rw [hR.cl,List.take_of_length_le (by omega)]
   ·revert e3;cases decide ((bC H B f).B.cls=2)<;>cases decide ((bC H B f).dv.cls=[])<;>cases s.cls<;>decide
   show (eU (bC H B f) (toS (ca H.lex f) n s)).1*16=_;rw [h2];unfold wS;simp [lR,mm,iV]
 | m::path,p,s,n,hR,hn,⟨hm,hp⟩=>by
   have hH:=ve h0;have hP:=Fb (B:=B) h0 hF;obtain ⟨R2,i,us,u,ba,hu,bZ,mL,rfl⟩:=Qm hm;have ba:(lP H)[i]?=some us:=ba;obtain ⟨kc,rfl⟩:=Jf ba;have ig:=(Cp hH (List.mem_of_getElem? ba)).2 u hu;obtain ⟨f1,f2⟩:=OX hP hR.can hR.zero (u:=u) ig.2.2.1;obtain ⟨f3,f4⟩:=f2 bZ;rw [<- f1] at bZ;obtain ⟨s1,s2,s3,r,s4,s5⟩:=Qf hF hR hn ig bZ f4;have hp:wH (bC H B f) (aU (bC H B f) (toS (ca H.lex f) n s) u).1 path:=hp;rw [<- f3] at hp;obtain ⟨_,⟨q,g1,g2,g3⟩,g4,g5,g6,g7⟩:=Qn h0 hr hF path r _ (n+1) s5 (by omega) hp;refine ⟨fun _=>by simp,⟨q,⟨r,s4,g1⟩,g2,g3⟩,⟨hu,g4⟩,?_,?_,?_⟩
   ·rw [List.map_cons,List.map_cons,Qj ig s2 s3];refine ⟨s1,?_,g5⟩;unfold sB;exact decide_eq_false (by show ¬ B.aB.getD ((i:Int)).toNat 0<0;rw [Int.toNat_natCast];exact Int.not_lt.2 mL)
   ·intro a ha;rw [List.map_cons] at ha;rcases List.mem_cons.1 ha with rfl|ha
    ·exact ⟨by show (0:Int)<=(i:Int);omega,by show (i:Int)<_;omega⟩
    exact g6 a ha
   show wI (bC H B f) (aU (bC H B f) (toS (ca H.lex f) n s) u).1 path+((lO (bC H B f) u+(bC H B f).B.aB.getD i 0)*16+1)=_;rw [<- f3,g7,List.map_cons,List.map_cons,Yg,s2,Yf ig,Int.toNat_natCast]
theorem Qo {H:ax} {B:bX} {f:bc} (h0:eG H=0) (hr:nG H B=true) (hF:kL H.lex f):∀ (line:List Int) (us:List ao) (p:bg) (s:RS) (n:Int),Rel H f p s n->0<=n->n+us.length<=12->(n=0->us≠[])->Wall.sc H line us->(∀ a∈line,0<=a/\a<H.list.aB.length) ->
  (∃ q,qX (bx H f) p us q/\ll (bx H f) q=true/\q.cl=f.ah)->KS (bC H B f) s line us->∃ path,wH (bC H B f) (toS (ca H.lex f) n s) path/\path.map (·.sign)=line/\path.map (·.use)=us
 | [],[],p,s,n,hR,hn,Qp,aI,cn,ji,⟨q,h1,h2,h3⟩,⟨k1,c,k2,k3⟩=>by
   have hP:=Fb (B:=B) h0 hF;have h1:q=p:=h1;subst h1;have fy:n≠0:=fun e=>aI e rfl;refine ⟨[],?_,rfl,rfl⟩;show (eU (bC H B f) (toS (ca H.lex f) n s)).2=true;rw [(OY hP fy hR.can).1];have Kh:=hR.can.part;rw [vn] at Kh;cases k2
   have hlen:=congrArg List.length h3;rw [hR.cl,List.length_take] at hlen
   have An:mP (bC H B f) s=false:=by
    cases hm:mP (bC H B f) s
    ·rfl
    exact absurd (k1 hm) (by decide)
   unfold Cm;rw [<- hR.whole,h2,An,vn,decide_eq_true (by omega)];revert k3;cases decide ((bC H B f).B.cls=2)<;>cases decide ((bC H B f).dv.cls=[])<;>cases s.cls<;>decide
 | a::line,u::us,p,s,n,hR,hn,Qp,aI,⟨hu,cn⟩,ji,⟨q,⟨r,h1,h2⟩,h3,h4⟩,hk=>by
   have hH:=ve h0;have hP:=Fb (B:=B) h0 hF;have R3:=ji a (by simp);rw [List.length_cons] at Qp;have ba:=Pb (H:=H) (i:=a.toNat) (by omega);rw [show ((a.toNat:Nat):Int)=a by omega] at ba;have ig:=(Cp hH (List.mem_of_getElem? ba)).2 u hu;have lX:r.cl <+: f.ah:=by rw [<- h4];exact Qh h2
   have se:Am (bC H B f) s u:=by
    obtain ⟨k1,c,k2,k3⟩:=hk;rw [sD] at k2;split at k2
    ·cases k2
    rename_i hb;unfold Fi at hb;simp only [Bool.or_eq_true,Bool.and_eq_true,decide_eq_true_eq,not_or,Bool.not_eq_true,not_and] at hb;refine ⟨fun e=>?_,fun e=>hb.1.2 e.1 e.2,fun e=>hb.2 e.1 e.2⟩;have:=k1 e;unfold qk at this;exact of_decide_eq_true this
   have oa:=XY hF hR ig h1 lX se;obtain ⟨f1,f2⟩:=OX hP hR.can hR.zero (u:=u) ig.2.2.1;have bZ:=oa;rw [f1] at bZ;obtain ⟨f3,f4⟩:=f2 bZ;obtain ⟨s1,s2,s3,r',s4,s5⟩:=Qf hF hR hn ig oa f4;have Yh:r=r':=XX h1 s4 lX (by rw [s5.cl];exact List.take_prefix _ _);subst Yh;obtain ⟨k1,k2,k3⟩:=(Qj ig s2 s3).1 hk;obtain ⟨path,g1,g2,g3⟩:=Qo h0 hr hF line us r _ (n+1) s5 (by omega) (by omega) (fun e=>by omega) cn (fun b hb=>ji b (by simp [hb])) ⟨q,h2,h3,h4⟩ k3;rw [f3] at g1;unfold sB at k2;rw [decide_eq_false_iff_not] at k2;refine ⟨_::path,⟨Ye (i:=a.toNat) (by show n≠12;omega) ba hu bZ (Int.not_lt.1 k2),g1⟩,?_,by rw [List.map_cons,g3]⟩;rw [List.map_cons,g2];show ((a.toNat:Nat):Int)::line=_;rw [show ((a.toNat:Nat):Int)=a by omega]
 | [],_::_,_,_,_,_,_,_,_,h,_,_,_=>h.elim
 | _::_,[],_,_,_,_,_,_,_,h,_,_,_=>h.elim
def vq:RS:=⟨0,0,0,false⟩
theorem Qq (H:ax) (f:bc):Rel H f fS vq 0:=by
 refine ⟨⟨⟨by decide,?_⟩,⟨by decide,?_⟩,fun h=>absurd h (by decide)⟩,rfl,rfl,rfl,rfl,⟨fun _=>rfl,fun _=>rfl⟩,fun _=>rfl⟩
 ·rw [vn];show (0:Int)<_;omega
 show (0:Int)<=_;omega
theorem Qr (H:ax) (f:bc):toS (ca H.lex f) 0 vq=dR:=rfl
theorem Yi {H:ax} (h0:eG H=0) {line:List Int} (hl:line.length<=60) (hs:∀ a∈line,0<=a/\a<H.list.aB.length):eb H line=0:=by unfold eb;rw [if_neg (by omega),if_neg (by omega),if_neg];rw [List.any_eq_true];rintro ⟨a,ha,hb⟩;have:=hs a ha;rw [Bool.not_eq_true',<- Bool.not_eq_true,dS] at hb;omega
theorem Yj {H:ax} {B:bX} (h0:eG H=0) (h:nG H B=true):oA H B=0:=by unfold oA;rw [if_neg (by omega),if_pos h]
theorem Qs {H:ax} {B:bX} {f:bc} {line:List Int} {us:List ao} (hl:line.length=us.length):KS (bC H B f) vq line us↔sC H B line ⟨f,us⟩=true:=by
 rw [<- WK H B (w:=⟨f,us⟩) hl];unfold KS Jo;have hm:mP (bC H B f) vq=false:=by unfold mP;rw [show decide (0<vq.last)=false from rfl,Bool.and_false]
 rw [hm];show (_/\∃ c,sD B line us false=some c/\((!decide (B.cls=2)||c)||decide ((cd H.lex f.entry).cls=[]))=true)↔(match sD B line us false with|none=>false|some c=>(!decide (B.cls=2)||c)||decide ((cd H.lex f.entry).cls=[]))=true;cases hk:sD B line us false with
 | none=>simp
 | some c=>
   constructor
   ·rintro ⟨_,d,hd,h⟩;cases hd;exact h
   intro h;exact ⟨fun e=>(by cases e),c,rfl,h⟩
theorem Yk {H:ax} {B:bX} {f:bc} (h0:dT H.lex f=0) {line:List Int} {us:List ao} (hl:us.length<=12):wS (bC H B f) false line us / 16=iM H ⟨f,us⟩+mm B line:=by
 have e:wS (bC H B f) false line us=(iM H ⟨f,us⟩+mm B line)*16+us.length:=by unfold wS iM tW;rw [if_pos h0,Bool.false_or];show (mQ H.lex f+(if (!decide ((cd H.lex f.entry).cls=[])&&!iV 4 us)=true then H.cq.nH else 0)+lR H.cq us+mm B line)*16+_=(mQ H.lex f+lR H.cq us+(if (!tY us&&!decide ((cd H.lex f.entry).cls=[]))=true then H.cq.nH else 0)+mm B line)*16+_;rw [show tY us=iV 4 us from rfl,Bool.and_comm];omega
 rw [e];omega
theorem Qt {H:ax} {B:bX} {f:bc} (hb:gD H B f=0) {ρ:Nat} {w:Wy} (hw:(df (bC H B f) dR)[ρ]?=some w) :
  kQ H B (jn (bC H B f) w).aB ⟨f,(jn (bC H B f) w).aj⟩=0/\tV H B (jn (bC H B f) w).aB ⟨f,(jn (bC H B f) w).aj⟩=(jn (bC H B f) w).cost:=by
 obtain ⟨h0,hr,hf⟩:=CR hb;have hF:=mG hf;have hE:=yq h0 hr hF;obtain ⟨h1,h2⟩:=Fp hE 12 dR sy rfl ρ w hw;have hl:=Fq hE _ _ sy h1;have hl:(kH (bC H B f) dR w).length<=12:=by have:dR.n=0:=rfl;omega
 obtain ⟨p,hp⟩:∃ p,p=kH (bC H B f) dR w:=⟨_,rfl⟩;have hs:jn (bC H B f) w=⟨p.map (·.sign),p.map (·.use),w.cost / 16⟩:=by rw [hp];rfl
 rw [<- hp] at h1 h2 hl;rw [hs,<- h2];rw [<- Qr] at h1 ⊢;obtain ⟨a1,a2,a3,a4,a5,a6⟩:=Qn h0 hr hF p fS vq 0 (Qq H f) (by omega) h1;have a1:=a1 rfl;have eF:=List.length_pos_iff.2 a1;rw [Qs (by simp)] at a4;have iH:kC H (p.map (·.sign)) ⟨f,p.map (·.use)⟩=true:=by unfold kC;rw [Bool.and_eq_true,Bool.and_eq_true,dS,decide_eq_true_eq,zx _ _ _ (by simp)];refine ⟨⟨⟨by rw [List.length_map];omega,by rw [List.length_map];omega⟩,by simp⟩,a3,fS,List.mem_singleton.2 rfl,a2⟩
 have gU:jN H (p.map (·.sign)) ⟨f,p.map (·.use)⟩=0:=by unfold jN;rw [Yi h0 (by rw [List.length_map];omega) a5,if_neg (by decide),if_neg (by show ¬ dT H.lex f≠0;omega),if_pos iH]
 have he:kQ H B (p.map (·.sign)) ⟨f,p.map (·.use)⟩=0:=by unfold kQ;rw [if_neg (by rw [Yj h0 hr];decide),if_neg (by omega),if_pos a4]
 refine ⟨he,?_⟩;unfold tV;rw [if_pos he];show _=wI (bC H B f) (toS (ca H.lex f) 0 vq) p / 16;rw [a6,show vq.cls=false from rfl,Yk hf (by rw [List.length_map];omega)]
theorem Qu {H:ax} {B:bX} {f:bc} {line:List Int} {us:List ao} (h:kQ H B line ⟨f,us⟩=0) :
  gD H B f=0/\∃ (ρ:Nat) (w:Wy),(df (bC H B f) dR)[ρ]?=some w/\jn (bC H B f) w=⟨line,us,tV H B line ⟨f,us⟩⟩:=by
 have hh:=h;unfold kQ at h;split at h
 ·rename_i e;exact absurd h e
 rename_i e1;split at h
 ·rename_i e;exact absurd h e
 rename_i e2;split at h
 ·rename_i hk;obtain ⟨h0,hr⟩:=Ck (H:=H) (B:=B) (by omega);obtain ⟨hl,hf,iH⟩:=Fj (H:=H) (line:=line) (w:=⟨f,us⟩) (by omega);have hf:dT H.lex f=0:=hf;have hF:=mG hf;have hE:=yq h0 hr hF;have uO:gD H B f=0:=by unfold gD;rw [if_neg (by omega)];exact hf
  obtain ⟨kE,hD⟩:=xL iH;have hD:line.length=us.length:=hD;have Yl:=qS hl;have aI:us≠[]:=by rintro rfl;have:line.length=0:=hD;omega
  unfold kC at iH;rw [Bool.and_eq_true,zx _ _ _ hD] at iH;obtain ⟨_,cn,p0,gq,hq⟩:=iH;rw [List.mem_singleton.1 gq] at hq;obtain ⟨path,g1,g2,g3⟩:=Qo h0 hr hF line us fS vq 0 (Qq H f) (by omega) (by omega) (fun _=>aI) cn Yl.aB hq ((Qs hD).2 hk);rw [Qr] at g1;obtain ⟨ρ,w,hw,Ym⟩:=Pu hE path dR sy g1;refine ⟨uO,ρ,w,hw,?_⟩;have hc:=(Qt uO hw).2;have hs:jn (bC H B f) w=⟨line,us,w.cost / 16⟩:=by unfold jn;rw [Ym,g2,g3]
  rw [hs] at hc ⊢;rw [hc]
 exact absurd h (by decide)
end Go.Abs.Wall.Spl
namespace Go.Abs.Wall.Spl
open Go Go.Abs Go.Proofs Go.Abs.Wall
open Go.Abs.Wall.Lst hiding al gL lq jg gk da lr kd lu lx ly lz lA ef lB cg lC pe
def CT (m n:Mv):Prop:=m.sign<n.sign\/(m.sign=n.sign/\fl m.use n.use<0)
def Km:List Mv->List Mv->Prop
 | m::p,n::q=>CT m n\/((m.sign=n.sign/\m.use=n.use)/\Km p q)
 | _,_=>False
theorem Qv {E:Env} {x:br} {s:Nat}:∀ {us:List ao},us.Pairwise (fun a b=>fl a b<0)->(nE E x s us).Pairwise CT
 | [],_=>.nil
 | u::t,h=>by
   rw [List.pairwise_cons] at h;rw [nE,List.pairwise_append];refine ⟨?_,Qv h.2,?_⟩
   ·unfold sq;split
    ·exact List.pairwise_singleton _ _
    exact .nil
   intro a ha b hb;obtain ⟨v,hv,hb⟩:=Cf hb;rw [(Ce ha).1,(Ce hb).1];exact .inr ⟨rfl,h.1 v hv⟩
theorem Qw {E:Env} {x:br} {s:Nat} {us:List ao} {m:Mv} (h:m∈nE E x s us):m.sign=s:=by obtain ⟨v,_,h⟩:=Cf h;rw [(Ce h).1]
theorem Qx {E:Env} {x:br}:∀ {rs:List (List ao)} {s:Nat},(∀ us∈rs,us.Pairwise (fun a b=>fl a b<0))->(mK E x s rs).Pairwise CT
 | [],_,_=>.nil
 | us::t,s,h=>by rw [mK,List.pairwise_append];refine ⟨Qv (h us (by simp)),Qx fun r hr=>h r (by simp [hr]),?_⟩;intro a ha b hb;obtain ⟨i,r,_,hb⟩:=ES hb;have h1:=Qw ha;have h2:=Qw hb;left;omega
theorem Yn {E:Env} (h:∀ us∈E.aj,us.Pairwise (fun a b=>fl a b<0)) (x:br) {i j:Nat} {m n:Mv} (nK:i<j) (hm:(dP E x)[i]?=some m) (hn:(dP E x)[j]?=some n):CT m n:=by
 have hp:(dP E x).Pairwise CT:=by
  unfold dP;split
  ·exact .nil
  exact Qx h
 rw [List.pairwise_iff_getElem] at hp;obtain ⟨h1,rfl⟩:=List.getElem?_eq_some_iff.1 hm;obtain ⟨h2,rfl⟩:=List.getElem?_eq_some_iff.1 hn;exact hp i j h1 h2 nK
theorem Qy {E:Env}:∀ (p:List Mv) (x:br),wI E x p % 16=(p.length:Int) % 16
 | [],x=>by show (eU E x).1*16 % 16=_;simp
 | m::p,x=>by have ih:=Qy (E:=E) p m.to;show (wI E m.to p+(m.cost*16+1)) % 16=_;rw [List.length_cons];omega
theorem FF {E:Env} (hE:gO E) {x:br} (hx:gX E x) {ρ:Nat} {w:Wy} (hw:(df E x)[ρ]?=some w):w.cost % 16=(kH E x w).length:=by obtain ⟨h1,h2⟩:=Fp hE _ x hx rfl ρ w hw;have:=Fq hE _ _ hx h1;have:=hx.n;rw [<- h2,Qy];omega
def Qz (E:Env) (x:br) (a b:Wy):Prop:=a.cost<b.cost\/(a.cost=b.cost/\Km (kH E x a) (kH E x b))
theorem Yo {E:Env} (hE:gO E) (hU:∀ us∈E.aj,us.Pairwise (fun a b=>fl a b<0)):∀ (d:Nat) (x:br),gX E x->(12 - x.n).toNat=d->∀ (i j:Nat) a b,i<j->(df E x)[i]?=some a->(df E x)[j]?=some b->Qz E x a b:=by
 intro d;induction d with
 | zero=>
   intro x hx hd i j a b nK ha hb;have hn:=hx.n
   have hz:∀ {ρ:Nat} {w:Wy},(df E x)[ρ]?=some w->w.aP=0/\w.aO=0:=by
    intro ρ w hw;by_cases he:w.aP=0
    ·refine ⟨he,?_⟩;rw [sr hE hx] at hw;obtain ⟨_,l,h2,h3⟩:=iN hw;rw [he,uW] at h2;cases h2
     have aL:=(List.getElem?_eq_some_iff.1 h3).1;unfold mM at aL;split at aL<;>simp at aL
     exact aL
    obtain ⟨m,w',hm,bS,_⟩:=pe hE hx hw he;have:=bS.next;have:=bS.to.n;omega
   have R4:=hz ha;have R5:=hz hb;rw [sr hE hx] at ha hb
   rcases Ic (by
    intro l hl;unfold ez cA at hl;rcases List.mem_cons.1 hl with rfl|hl
    ·unfold mM;intro p q u v CU hu hv;split at hu
     ·rename_i hc;rw [if_pos hc] at hv;have h1:=List.mem_of_getElem? hu;have h2:=List.mem_of_getElem? hv;rw [List.mem_singleton] at h1 h2;omega
     cases hu
    obtain ⟨m,hm,rfl⟩:=List.mem_map.1 hl;have bS:=uV hE hx hm;have:=bS.next;have:=bS.to.n;omega) nK ha hb with h|⟨h1,h2,h3⟩
   ·unfold cW at h;left;omega
   omega
 | succ d ih=>
   intro x hx hd i j a b nK ha hb;have hn:=hx.n;have jF:=FF hE hx ha;have fH:=FF hE hx hb;have kA:=ha;have fX:=hb;rw [sr hE hx] at kA fX
   have pj:∀ l∈ez E x,Up l:=by
    intro l hl;unfold ez cA at hl;rcases List.mem_cons.1 hl with rfl|hl
    ·unfold mM;intro p q u v CU hu hv;split at hu
     ·rename_i hc;rw [if_pos hc] at hv;have h1:=List.mem_of_getElem? hu;have h2:=List.mem_of_getElem? hv;rw [List.mem_singleton] at h1 h2;omega
     cases hu
    obtain ⟨m,hm,rfl⟩:=List.mem_map.1 hl;have bS:=uV hE hx hm;have bZ:=bS.next;intro p q u v CU hu hv;rw [List.getElem?_map] at hu hv;cases gf:(df E m.to)[p]? with
    | none=>rw [gf] at hu;cases hu
    | some u'=>
    cases ou:(df E m.to)[q]? with
    | none=>rw [ou] at hv;cases hv
    | some v'=>
    rw [gf] at hu;rw [ou] at hv;cases hu;cases hv
    rcases Nat.lt_or_ge p q with aL|pf
    ·have:=ih m.to bS.to (by omega) p q u' v' aL gf ou;unfold Qz at this;show u'.cost+_<=v'.cost+_;omega
    have:p=q:=(by omega);subst this;rw [gf] at ou;cases ou
    exact Int.le_refl _
   have hzero:∀ {ρ:Nat} {w:Wy},(df E x)[ρ]?=some w->w.aP=0->w.aO=0:=by
    intro ρ w hw he;rw [sr hE hx] at hw;obtain ⟨_,l,h2,h3⟩:=iN hw;rw [he,uW] at h2;cases h2
    have aL:=(List.getElem?_eq_some_iff.1 h3).1;unfold mM at aL;split at aL<;>simp at aL
    exact aL
   rcases Ic pj nK kA fX with h|⟨h1,h2,h3⟩
   ·unfold cW at h;rcases h with h|⟨h1,h2⟩
    ·exact .inl h
    right;refine ⟨h1,?_⟩;have uO:b.aP≠0:=(by omega);obtain ⟨mb,wb,Kn,_,_,qW,_⟩:=pe hE hx hb uO;by_cases sz:a.aP=0
    ·have:=(Cg hE hx ha sz).1;rw [this] at jF;rw [qW] at fH;rw [h1] at jF;simp at jF fH;omega
    obtain ⟨ma,wa,FG,_,_,yC,_⟩:=pe hE hx ha sz;rw [yC,qW];exact .inl (Yn hU x (by omega) FG Kn)
   by_cases sz:a.aP=0
   ·have:=hzero ha sz;have:=hzero hb (by omega);omega
   obtain ⟨ma,wa,FG,bS,me,yC,Qi,_⟩:=pe hE hx ha sz;obtain ⟨mb,wb,Kn,_,xR,qW,R6,_⟩:=pe hE hx hb (by omega);rw [h1,Kn] at FG;have HU:=Option.some.inj FG;subst HU;have bZ:=bS.next;rcases ih mb.to bS.to (by omega) _ _ wa wb h2 me xR with h|⟨h4,h5⟩
   ·left;omega
   right;refine ⟨by omega,?_⟩;rw [yC,qW];exact .inr ⟨⟨rfl,rfl⟩,h5⟩
def nL:List Int->List ao->List Int->List ao->Bool
 | s::ss,u::us,t::ts,v::vs=>if s≠t then decide (s<t) else if u≠v then decide (fl u v<0) else nL ss us ts vs
 | _,_,_,_=>false
def qy (a b:Spl):Bool:=if a.cost≠b.cost then decide (a.cost<b.cost) else if a.aB.length≠b.aB.length then decide (a.aB.length<b.aB.length) else nL a.aB a.aj b.aB b.aj
theorem QA:∀ {p q:List Mv},Km p q->nL (p.map (·.sign)) (p.map (·.use)) (q.map (·.sign)) (q.map (·.use))=true
 | [],_,h=>h.elim
 | _::_,[],h=>h.elim
 | m::p,n::q,h=>by
   simp only [List.map_cons];unfold nL;rcases h with (h|⟨h1,h2⟩)|⟨⟨h1,h2⟩,h3⟩
   ·rw [if_pos (by omega)];exact decide_eq_true h
   ·rw [if_neg (by omega),if_pos (fun e=>by rw [e] at h2;exact zU.c.rP _ h2)];exact decide_eq_true h2
   rw [if_neg (by omega),if_neg (fun e=>e h2)];exact QA h3
theorem QB:∀ {a:List Int} {u:List ao} {b:List Int} {v:List ao},nL a u b v=true->nL b v a u=false
 | [],_,_,_,h=>by simp [nL] at h
 | _::_,[],_,_,h=>by simp [nL] at h
 | _::_,_::_,[],_,h=>by simp [nL] at h
 | _::_,_::_,_::_,[],h=>by simp [nL] at h
 | s::ss,u::us,t::ts,v::vs,h=>by
   unfold nL at h ⊢;by_cases e:s=t
   ·rw [if_neg (fun k=>k e)] at h;rw [if_neg (fun k=>k e.symm)];by_cases e2:u=v
    ·rw [if_neg (fun k=>k e2)] at h;rw [if_neg (fun k=>k e2.symm)];exact QB h
    rw [if_pos e2] at h;rw [if_pos (fun k=>e2 k.symm),decide_eq_false_iff_not];have h:=of_decide_eq_true h;have:=zU.qd u v;omega
   rw [if_pos e] at h;rw [if_pos (fun k=>e k.symm),decide_eq_false_iff_not];have h:=of_decide_eq_true h;omega
theorem Yp {a b:Spl} (h:qy a b=true):qy b a=false:=by
 unfold qy at h ⊢;by_cases e:a.cost=b.cost
 ·rw [if_neg (fun k=>k e)] at h;rw [if_neg (fun k=>k e.symm)];by_cases e2:a.aB.length=b.aB.length
  ·rw [if_neg (fun k=>k e2)] at h;rw [if_neg (fun k=>k e2.symm)];exact QB h
  rw [if_pos e2] at h;rw [if_pos (fun k=>e2 k.symm),decide_eq_false_iff_not];have h:=of_decide_eq_true h;omega
 rw [if_pos e] at h;rw [if_pos (fun k=>e k.symm),decide_eq_false_iff_not];have h:=of_decide_eq_true h;omega
theorem QC {E:Env} (hE:gO E) (hU:∀ us∈E.aj,us.Pairwise (fun a b=>fl a b<0)) {i j:Nat} {a b:Wy} (nK:i<j) (ha:(df E dR)[i]?=some a) (hb:(df E dR)[j]?=some b):qy (jn E a) (jn E b)=true:=by
 have h:=Yo hE hU 12 dR sy rfl i j a b nK ha hb;have jF:=FF hE sy ha;have fH:=FF hE sy hb;unfold qy jn;simp only [List.length_map];rcases h with h|⟨h1,h2⟩
 ·by_cases e:a.cost / 16=b.cost / 16
  ·rw [if_neg (fun k=>k e),if_pos (by omega)];exact decide_eq_true (by omega)
  rw [if_pos e];exact decide_eq_true (by omega)
 rw [if_neg (fun k=>k (by rw [h1])),if_neg (by omega)];exact QA h2
theorem Yq {H:ax} (hH:ic H) {n:Int} (h:0<=n/\n<H.list.aB.length):(fg H n).Pairwise fun a b=>fl a b<0:=by
 have h1:=NG hH h;have h2:(fg H n).Pairwise fun x y=>¬ fl y x<0:=by unfold fg nz tG;exact zU.c.w.sorted _
 refine ((List.nodup_iff_pairwise_ne.1 h1).and h2).imp ?_;rintro x y ⟨h3,h4⟩;rw [zU.qd] at h4;have h5:fl x y≠0:=fun e=>h3 ((zU.zero _ _).1 e);omega
theorem QD {H:ax} {B:bX} {f:bc} (h0:eG H=0):∀ us∈(bC H B f).aj,us.Pairwise (fun a b=>fl a b<0):=by intro us ba;obtain ⟨i,hi⟩:=List.mem_iff_getElem?.1 ba;obtain ⟨h1,rfl⟩:=Jf hi;exact Yq (ve h0) ⟨by omega,by omega⟩
end Go.Abs.Wall.Spl
