/- What is proved: small laws for the walks of this seat, and contracts of its functions. No condition but those each theorem names. -/
import Derived.Test.YtbmcnieifibckaaGreatN43
import Derived.Test.YtbmcnieifibckaaGreatN35
import Derived.Test.YtbmcnieifibckaaGreatN38
import Derived.Test.YtbmcnieifibckaaGreatN36
set_option maxRecDepth 100000
set_option maxHeartbeats 2000000
set_option linter.unusedVariables false
set_option linter.unusedSimpArgs false
namespace Go.Abs.Wall.Spl
open Go Go.Abs Go.Proofs Go.Abs.Wall
open Go.Abs.Wall.Lst (ea cC eI fA gF gG mu CS Rows CT pH kJ tf pM xf Gv Dk Kl)
theorem E5 {s:Sp} {p r:bn} {u:ay} (h:r∈Wall.aX s p u):r.last=u/\(u.kind=3->Wall.zG p=true):=by
 have pJ:∀ {a:bn},a.last=u->r∈[a]->r.last=u:=fun e hm=>by rw [List.mem_singleton.1 hm,e]
 unfold Wall.aX at h;split at h
 ·rename_i k;refine ⟨?_,fun e=>by omega⟩;unfold iy at h;split at h
  ·split at h
   ·exact pJ (by rfl) h
   cases h
  split at h
  ·obtain ⟨j,k,_,_,rfl⟩:=LL.1 h;rfl
  cases h
 split at h
 ·refine ⟨?_,fun e=>by omega⟩;split at h
  ·cases h
  exact pJ (by rfl) h
 split at h
 ·split at h
  ·cases h
  rename_i hb;refine ⟨pJ (by rfl) h,fun _=>?_⟩;unfold qd at hb;simp only [Bool.or_eq_true,Bool.not_eq_true',not_or,Bool.not_eq_false] at hb;exact hb.1.1
 split at h
 ·refine ⟨?_,fun e=>by omega⟩;split at h
  ·cases h
  exact pJ (by rfl) h
 cases h
theorem Tt {s:Sp}:∀ {us:List ay} {p q:bn},rN s p us q->dv 3 us=true->(qR us=true/\Wall.zG p=true)\/0<fC us
 | [],p,q,_,h=>by simp [dv] at h
 | u::us,p,q,⟨r,h1,h2⟩,h=>by
   obtain ⟨hl,hh⟩:=E5 h1;by_cases k3:u.kind=3
   ·exact .inl ⟨decide_eq_true k3,hh k3⟩
   have hu:dv 3 us=true:=by unfold dv at h ⊢;rw [List.any_cons] at h;unfold Bd at h;rw [decide_eq_false k3,Bool.false_or] at h;exact h
   right;have hc:=xp us;rw [fC];rcases Tt h2 hu with ⟨a,b⟩|a
   ·have b:jZ u=true:=by
     have:Wall.zG r=jZ r.last:=rfl;rw [<- hl,<- this];exact b
    rw [a,b,show (if (true&&true)=true then (1:Int) else 0)=1 from rfl];omega
   split<;>omega
theorem E6 {H:aj} {l:List Int} {w:bU} (h:fQ H l w=0) (h3:fC w.ai=0):dv 3 w.ai=false:=by
 obtain ⟨_,_,hs⟩:=xq h;have hl:=rG hs;unfold jl at hs;rw [Bool.and_eq_true] at hs;obtain ⟨_,p,hp,q,hr,_,_⟩:=(yR l w.ai [fI] hl.2).1 hs.2;rw [List.mem_singleton] at hp;subst hp;cases hb:dv 3 w.ai with
 | false=>rfl
 | true=>
   rcases Tt hr hb with ⟨_,a⟩|a
   ·exact absurd a (by decide)
   omega
structure rj (z z':LS):Prop where
 t:∀ s,z.T.getD s 0<=z'.T.getD s 0
 ab:z.a - z.b<=z'.a - z'.b
 b:z.b<=z'.b
 d:z.d<=z'.d
 cd:z.c - z.d<=z'.c - z'.d
theorem rj.refl (z:LS):rj z z:=⟨fun _=>Int.le_refl _,Int.le_refl _,Int.le_refl _,Int.le_refl _,Int.le_refl _⟩
theorem rj.trans {x y z:LS} (h:rj x y) (k:rj y z):rj x z:=⟨fun s=>Int.le_trans (h.t s) (k.t s),Int.le_trans h.ab k.ab,Int.le_trans h.b k.b,Int.le_trans h.d k.d,Int.le_trans h.cd k.cd⟩
theorem Tu {H:aj} {l:List Int} {w:bU} (h:fQ H l w=0) (z:LS):rj z (oX H z w):=by
 have hc:=xp w.ai;obtain ⟨h1,h2⟩:=Hi h;have hw:(dv 4 w.ai=true->nw H w=true):=fun e=>by unfold nw;rw [decide_eq_false (h2 e)];rfl
 refine ⟨fun _=>Int.le_refl _,?_,?_,?_,?_⟩
 ·show z.a - z.b<=z.a+gY w.ai - (z.b+fC w.ai);omega
 ·show z.b<=z.b+fC w.ai;omega
 ·show z.d<=z.d+kg w.ai;rw [h1];split<;>omega
 show z.c - z.d<=z.c+(if nw H w=true then 1 else 0) - (z.d+kg w.ai);rw [h1];cases hk:dv 4 w.ai with
 | true=>rw [hw hk,if_pos rfl];omega
 | false=>simp only [Bool.false_eq_true,if_false];split<;>omega
theorem Mn {H:aj}:∀ (ws:List bU) (z:LS),(∀ w∈ws,∃ l,fQ H l w=0)->rj z (ws.foldl (oX H) z)
 | [],z,_=>.refl z
 | w::ws,z,h=>by obtain ⟨l,hl⟩:=h w (by simp);exact (Tu hl z).trans (Mn ws _ fun v hv=>h v (by simp [hv]))
theorem Mo (T:List Int) (s:Int) (k:Nat):T.getD k 0<=(im T s).getD k 0/\(k=s.toNat->k<T.length->T.getD k 0+1<=(im T s).getD k 0):=by
 unfold im;rw [List.getD_eq_getElem?_getD,List.getD_eq_getElem?_getD,List.getElem?_set];by_cases h:s.toNat=k
 ·subst h;rw [if_pos rfl];by_cases hl:s.toNat<T.length
  ·rw [if_pos hl,List.getD_eq_getElem?_getD];simp;omega
  rw [if_neg hl,List.getElem?_eq_none (by omega)];exact ⟨Int.le_refl _,fun _ h=>absurd h hl⟩
 rw [if_neg h];exact ⟨Int.le_refl _,fun e=>absurd e.symm h⟩
theorem HH:∀ (l:List Int) (T:List Int) (k:Nat),T.getD k 0<=(l.foldl im T).getD k 0
 | [],T,k=>Int.le_refl _
 | s::l,T,k=>Int.le_trans (Mo T s k).1 (HH l _ k)
theorem Tv:∀ (l:List Int) (T:List Int) (s:Int),s∈l->s.toNat<T.length->T.getD s.toNat 0+1<=(l.foldl im T).getD s.toNat 0
 | [],T,s,h,_=>by cases h
 | a::l,T,s,h,hl=>by
   rcases List.mem_cons.1 h with rfl|h
   ·exact Int.le_trans ((Mo T s s.toNat).2 rfl hl) (HH l _ _)
   exact Int.le_trans (by have:=(Mo T a s.toNat).1;omega) (Tv l (im T a) s h (by rw [LF];exact hl))
structure wj (H:aj) (w:bU) (z z':LS):Prop where
 ab:z.a - z.b+(gY w.ai - fC w.ai)<=z'.a - z'.b
 b:z.b+fC w.ai<=z'.b
 d:z.d+kg w.ai<=z'.d
 cd:z.c - z.d+((if nw H w=true then 1 else 0) - kg w.ai)<=z'.c - z'.d
theorem wj.mono {H:aj} {w:bU} {x y z t:LS} (h:wj H w y z) (h1:rj x y) (h2:rj z t):wj H w x t:=by have a1:=h1.ab;have a2:=h1.b;have a3:=h1.d;have a4:=h1.cd;have b1:=h2.ab;have b2:=h2.b;have b3:=h2.d;have b4:=h2.cd;have c1:=h.ab;have c2:=h.b;have c3:=h.d;have c4:=h.cd;exact ⟨by omega,by omega,by omega,by omega⟩
theorem Tw {H:aj}:∀ (ws:List bU) (z:LS),(∀ w∈ws,∃ l,fQ H l w=0)->∀ w∈ws,wj H w z (ws.foldl (oX H) z)
 | [],_,_,w,hw=>by cases hw
 | v::ws,z,h,w,hw=>by
   obtain ⟨l,hl⟩:=h v (by simp);have h2:=fun u (hu:u∈ws)=>h u (List.mem_cons_of_mem v hu);rcases List.mem_cons.1 hw with rfl|hw
   ·refine wj.mono (y:=z) (z:=oX H z w) ?_ (.refl z) (Mn ws _ h2);refine ⟨?_,Int.le_refl _,Int.le_refl _,?_⟩
    ·show z.a - z.b+(gY w.ai - fC w.ai)<=z.a+gY w.ai - (z.b+fC w.ai);omega
    show z.c - z.d+((if nw H w=true then 1 else 0) - kg w.ai)<=z.c+(if nw H w=true then 1 else 0) - (z.d+kg w.ai);omega
   exact wj.mono (Tw ws _ h2 w hw) (Tu hl z) (.refl _)
theorem Mp {H:aj} {line:List Int} (h:cC H line 1=0) (z:LS):rj z (mc H z line):=by obtain ⟨_,_,hw⟩:=DV h;have h1:=Mn (ea H line).words { z with T:=line.foldl im z.T } hw;exact rj.trans (y:={ z with T:=line.foldl im z.T }) ⟨fun s=>HH line z.T s,Int.le_refl _,Int.le_refl _,Int.le_refl _,Int.le_refl _⟩ h1
theorem Tx {H:aj}:∀ (ls:List (List Int)) (z:LS),(∀ l∈ls,cC H l 1=0)->rj z (ls.foldl (mc H) z)
 | [],z,_=>.refl z
 | l::ls,z,h=>(Mp (h l (by simp)) z).trans (Tx ls _ fun v hv=>h v (by simp [hv]))
theorem Ty (H:aj):∀ (ws:List bU) (z:LS),(ws.foldl (oX H) z).T=z.T
 | [],_=>rfl
 | w::ws,z=>by rw [List.foldl_cons,Ty H ws];rfl
theorem HI (H:aj) (z:LS) (l:List Int):(mc H z l).T=l.foldl im z.T:=by unfold mc;rw [Ty]
theorem Mq:∀ (l:List Int) (T:List Int),(l.foldl im T).length=T.length
 | [],_=>rfl
 | s::l,T=>by rw [List.foldl_cons,Mq l,LF]
theorem Tz {H:aj}:∀ (ls:List (List Int)) (z:LS),(∀ l∈ls,cC H l 1=0)->∀ l∈ls,(∀ w∈(ea H l).words,wj H w z (ls.foldl (mc H) z))/\∀ s∈l,s.toNat<z.T.length->z.T.getD s.toNat 0+1<=((ls.foldl (mc H) z).T.getD s.toNat 0)
 | [],_,_,l,hl=>by cases hl
 | k::ls,z,h,l,hl=>by
   have hk:=h k (by simp);have h2:=fun u (hu:u∈ls)=>h u (List.mem_cons_of_mem k hu);have hle:=Tx ls (mc H z k) h2;rcases List.mem_cons.1 hl with rfl|hl
   ·obtain ⟨_,_,hw⟩:=DV hk;refine ⟨fun w Mr=>?_,fun s hs aI=>?_⟩
    ·refine wj.mono (y:={ z with T:=l.foldl im z.T }) (z:=mc H z l) (Tw _ _ hw w Mr) ⟨fun s=>HH l z.T s,Int.le_refl _,Int.le_refl _,Int.le_refl _,Int.le_refl _⟩ hle
    have h3:=Tv l z.T s hs aI;have h4:=hle.t s.toNat;rw [HI] at h4;exact Int.le_trans h3 h4
   obtain ⟨h3,h4⟩:=Tz ls (mc H z k) h2 l hl;refine ⟨fun w Mr=>wj.mono (h3 w Mr) (Mp hk z) (.refl _),fun s hs aI=>?_⟩;have h5:=h4 s hs (by rw [HI,Mq];exact aI);have h6:=(Mp hk z).t s.toNat;exact Int.le_trans (by omega) h5
theorem TA:∀ (T:List Int) (m:Int),m<=T.foldl max m/\∀ n∈T,n<=T.foldl max m
 | [],m=>⟨Int.le_refl _,fun n hn=>by cases hn⟩
 | a::T,m=>by
   obtain ⟨h1,h2⟩:=TA T (max m a);rw [List.foldl_cons];refine ⟨by omega,fun n hn=>?_⟩;rcases List.mem_cons.1 hn with rfl|hn
   ·omega
   exact h2 n hn
theorem TB {H:aj}:∀ {ls:List (List Int)},wa H ls=0->∀ l∈ls,cC H l 1=0
 | [],_,l,hl=>by cases hl
 | k::ls,h,l,hl=>by
   unfold wa at h;split at h
   ·rename_i e;exact absurd h e
   rename_i e;rcases List.mem_cons.1 hl with rfl|hl
   ·omega
   exact TB h l hl
theorem E7 {T:List Int} (h:∀ n∈T,0<=n) (s:Int):∀ n∈im T s,0<=n:=by
 intro n hn;unfold im at hn;rcases List.mem_or_eq_of_mem_set hn with h1|rfl
 ·exact h n h1
 have:0<=T.getD s.toNat 0:=by
  rw [List.getD_eq_getElem?_getD];cases hq:T[s.toNat]? with
  | none=>exact Int.le_refl _
  | some x=>exact h x (List.mem_of_getElem? hq)
 omega
theorem TC:∀ (l:List Int) {T:List Int},(∀ n∈T,0<=n)->∀ n∈l.foldl im T,0<=n
 | [],_,h=>h
 | s::l,_,h=>TC l (E7 h s)
theorem TD {H:aj}:∀ (ls:List (List Int)) (z:LS),(∀ n∈z.T,0<=n)->(∀ n∈(ls.foldl (mc H) z).T,0<=n)/\(ls.foldl (mc H) z).T.length=z.T.length
 | [],_,h=>⟨h,rfl⟩
 | l::ls,z,h=>by obtain ⟨h1,h2⟩:=TD (H:=H) ls (mc H z l) (by rw [HI];exact TC l h);exact ⟨h1,by rw [List.foldl_cons,h2,HI,Mq]⟩
theorem E8 {H:aj} {B:bl} (h:B.aA.length=H.list.aA.length/\(0<=B.dy/\B.dy<=2)/\(0<=B.cls/\B.cls<=2)/\∀ n∈B.aA,-1<=n/\n<=1000):nj H B=true:=by obtain ⟨h1,h2,h3,h4⟩:=h;unfold nj;simp only [Bool.and_eq_true,decide_eq_true_eq,dY,Bool.not_eq_true',List.any_eq_false];refine ⟨⟨⟨by omega,h2⟩,h3⟩,fun n hn=>?_⟩;unfold zk;rw [Bool.not_eq_true',Bool.not_eq_false];exact dY.2 (h4 n hn)
theorem TE {H:aj} {lines:List (List Int)} (h:rY H lines=0):iB H (pZ H lines)=0/\∀ line∈lines,cC H line 1=0/\∀ w∈(ea H line).words,∀ l:List Int,(∀ s∈l,s∈line)->kN H (pZ H lines) l w=true:=by
 have hM:pZ H lines=ra (lines.foldl (mc H) (kQ H)):=by unfold pZ;rw [if_pos h]
 unfold rY at h;split at h
 ·rename_i e;exact absurd h e
 rename_i h0;split at h
 ·cases h
 have gW:=TB h;have h0:eo H=0:=(by omega);obtain ⟨sS,tm⟩:=TD (H:=H) lines (kQ H) (fun n hn=>by unfold kQ at hn;have:=(List.mem_replicate.1 hn).2;omega);have cu:=Tz lines (kQ H) gW;have h0l:(kQ H).T.length=H.list.aA.length:=by unfold kQ;simp
 have E9:∀ k,(kQ H).T.getD k 0=0:=by intro k;unfold kQ;rw [List.getD_eq_getElem?_getD,List.getElem?_replicate];split<;>rfl
 rw [hM];generalize lines.foldl (mc H) (kQ H)=Z at *;have LJ:=TA Z.T 0;refine ⟨?_,fun line mG=>⟨gW line mG,fun w hw l hl=>?_⟩⟩
 ·refine Sn h0 (E8 ⟨?_,?_,?_,fun n hn=>?_⟩)
  ·show (Z.T.map _).length=_;rw [List.length_map];omega
  ·show 0<=jJ Z.a Z.b/\jJ Z.a Z.b<=2;unfold jJ;split
   ·exact ⟨by decide,by decide⟩
   split
   ·exact ⟨by decide,by decide⟩
   split
   ·exact ⟨by decide,by decide⟩
   exact ⟨by decide,by decide⟩
  ·show 0<=jJ Z.c Z.d/\jJ Z.c Z.d<=2;unfold jJ;split
   ·exact ⟨by decide,by decide⟩
   split
   ·exact ⟨by decide,by decide⟩
   split
   ·exact ⟨by decide,by decide⟩
   exact ⟨by decide,by decide⟩
  obtain ⟨k,hk,rfl⟩:=List.mem_map.1 (show n∈Z.T.map (pY (zx Z.T)) from hn);have h1:=sS k hk;have h2:=LJ.2 k hk;unfold pY zx;split<;>omega
 obtain ⟨_,_,zy⟩:=DV (gW line mG);obtain ⟨l0,dF⟩:=zy w hw;obtain ⟨NS,aD⟩:=cu line mG;have hi:=NS w hw;have qI:=hi.ab;have hb:=hi.b;have hd:=hi.d;have FX:=hi.cd;have z1:(kQ H).a=0:=rfl;have z2:(kQ H).b=0:=rfl;have z3:(kQ H).c=0:=rfl;have z4:(kQ H).d=0:=rfl;rw [z1,z2] at qI;rw [z2] at hb;rw [z4] at hd;rw [z3,z4] at FX;have hc:=xp w.ai;obtain ⟨Bu,oO⟩:=Hi dF;have kM:=(mS (pM (tf (gW line mG)).1)).aA;have F0:l.any (rU (ra Z))=false:=by rw [List.any_eq_false];intro s hs;have eu:=hl s hs;have hr:=kM s eu;have ht:=aD s eu (by omega);rw [E9] at ht;obtain ⟨t,wi⟩:=aL (l:=Z.T) (i:=s.toNat) (by omega);rw [vj wi] at ht;have hm:=LJ.2 t (List.mem_of_getElem? wi);unfold rU;rw [decide_eq_true_eq];show ¬ ((Z.T.map (pY (zx Z.T))).getD s.toNat 0<0);rw [vj (by rw [List.getElem?_map,wi];rfl)];unfold pY zx;rw [if_neg (by omega)];omega
 unfold kN;rw [F0]
 have r0:(decide ((ra Z).dy=0)&&dv 3 w.ai)=false:=by
  rw [Bool.and_eq_false_iff,decide_eq_false_iff_not];by_cases e:(ra Z).dy=0
  ·right;have e:jJ Z.a Z.b=0:=e;unfold jJ at e;split at e
   ·cases e
   split at e
   ·exact E6 dF (by omega)
   split at e<;>cases e
  exact .inl e
 have r2:(decide ((ra Z).dy=2)&&!decide (gY w.ai=fC w.ai))=false:=by
  rw [Bool.and_eq_false_iff,decide_eq_false_iff_not,Bool.not_eq_false',decide_eq_true_eq];by_cases e:(ra Z).dy=2
  ·right;have e:jJ Z.a Z.b=2:=e;unfold jJ at e;split at e
   ·cases e
   split at e
   ·cases e
   split at e
   ·omega
   cases e
  exact .inl e
 have c0:(decide ((ra Z).cls=0)&&dv 4 w.ai)=false:=by
  rw [Bool.and_eq_false_iff,decide_eq_false_iff_not];by_cases e:(ra Z).cls=0
  ·right;have e:jJ Z.c Z.d=0:=e;unfold jJ at e;split at e
   ·cases e
   split at e
   ·cases hk:dv 4 w.ai with
    | false=>rfl
    | true=>rw [hk,if_pos rfl] at Bu;omega
   split at e<;>cases e
  exact .inl e
 have c2:((decide ((ra Z).cls=2)&&!decide ((bZ H.lex w.form.entry).cls=[]))&&!dv 4 w.ai)=false:=by
  by_cases e:(ra Z).cls=2
  ·have e:jJ Z.c Z.d=2:=e;unfold jJ at e;split at e
   ·cases e
   split at e
   ·cases e
   split at e
   ·cases hk:dv 4 w.ai with
    | true=>rw [Bool.not_true,Bool.and_false]
    | false=>
      rw [hk,if_neg (by decide)] at Bu
      have:nw H w=false:=by
       cases hq:nw H w with
       | false=>rfl
       | true=>rw [hq,if_pos rfl] at FX;omega
      unfold nw at this;rw [this,Bool.and_false,Bool.false_and]
   cases e
  rw [decide_eq_false e,Bool.false_and,Bool.false_and]
 rw [r0,r2,c0,c2];rfl
end Go.Abs.Wall.Spl
namespace Go.Abs.Wall.Spl
open Go Go.Abs Go.Proofs Go.Abs.Wall
open Go.Abs.Wall.Lst (ea cC eI fA gF gG mu CS CT pH kJ rM FY CQ yP tf Kl yQ pM Gv)
def BE (H:aj) (B:bl):List Int->List bU->Prop
 | _,[]=>True
 | line,w::t=>(w.ai.length<=line.length/\nu H B (line.take w.ai.length) w=0)/\BE H B (line.drop w.ai.length) t
theorem TF {H:aj} {B:bl} (h0:eo H=0) (hb:iB H B=0):∀ (ws:List bU) (line:List Int) (c i:Int),(∀ s∈line,0<=s/\s<H.list.aA.length)->(oJ H line ws c i).err=0->(∀ w∈ws,∀ l:List Int,(∀ s∈l,s∈line)->kN H B l w=true)->BE H B line ws/\BD H B line ws
 | [],_,_,_,_,_,_=>⟨trivial,trivial⟩
 | w::t,line,c,i,hs,hv,hk=>by
   rw [oJ] at hv;split at hv
   ·rename_i h1;exact absurd hv h1
   rename_i h1;split at hv
   ·cases hv
   rename_i h2;obtain ⟨h3,h4,h5,h6⟩:=Oe (by simpa using h2);obtain ⟨i1,i2⟩:=TF h0 hb t _ _ _ (fun s hm=>hs s (List.mem_of_mem_drop hm)) hv (fun v hv l hl=>hk v (by simp [hv]) l fun s hm=>List.mem_of_mem_drop (hl s hm));have TG:=hk w (by simp) (line.take w.ai.length) fun s hm=>List.mem_of_mem_take hm;have hl:dX H (line.take w.ai.length)=0:=Hr h0 (by rw [List.length_take];omega) fun s hm=>hs s (List.mem_of_mem_take hm);have hp:fQ H (line.take w.ai.length) w=0:=by unfold fQ;rw [if_neg (by omega),if_neg (by omega),if_pos h6]
   refine ⟨⟨⟨h5,?_⟩,i1⟩,TG,i2⟩;unfold nu;rw [if_neg (by omega),if_neg (by omega),if_pos TG]
theorem TH {H:aj} {B:bl} {line:List Int}:∀ (p:List av) (i:Nat),gG (gx H B line) i p->gG (bX H line) i p
 | [],i,h=>by have h:i=(gx H B line).length:=h;show i=(bX H line).length;rw [h,Hj,oK]
 | x::p,i,⟨es,h1,h2,h3⟩=>by obtain ⟨l,h5,rfl⟩:=DW h1;exact ⟨l,h5,(List.mem_filter.1 h2).1,TH p _ h3⟩
theorem F1 {H:aj} {line:List Int} (h:cC H line 1=0) {p:lQ} (hp:p∈bk (bX H line) 0):(ea H line).cost<=p.1:=by
 obtain ⟨h0,_,_,h3,h4⟩:=tf h;obtain ⟨_,_,hg⟩:=oL h0;obtain ⟨j,hj⟩:=List.mem_iff_getElem?.1 hp;have aI:=(List.getElem?_eq_some_iff.1 hj).1;obtain ⟨q,hq⟩:=aL (l:=bk (bX H line) 0) (i:=0) (by omega);have hd:=drop_cons hq;rw [List.drop_zero] at hd;have hw:(ea H line).cost=q.1:=by unfold ea;rw [h4];unfold fA;rw [hd];rfl
 rw [hw];rcases Nat.eq_zero_or_pos j with rfl|dK
 ·rw [hj] at hq;cases hq;exact Int.le_refl _
 have:=CS hg (CT (mS (pM h0))) (bX H line).length 0 (by omega) 0 j q p dK hq hj;unfold Lst.AI at this;omega
theorem F2 {H:aj} {B:bl} {line:List Int} (hg:df H line=0) (h0:kR H B line=0):∃ p∈bk (bX H line) 0,(nx H B line).cost=p.1:=by
 obtain ⟨_,_,hg⟩:=oL hg
 have aJ:bk (gx H B line) 0≠[]:=by
  have h:=h0;unfold kR at h;split at h
  ·rename_i e;exact absurd h e
  split at h
  ·rename_i e;exact absurd h e
  split at h
  ·cases h
  assumption
 obtain ⟨q,hq⟩:=aL (l:=bk (gx H B line) 0) (i:=0) (List.length_pos_iff.2 aJ);have hd:=drop_cons hq;rw [List.drop_zero] at hd;refine ⟨q,?_,?_⟩
 ·have h1:=(mu (DX hg) (gx H B line).length 0 (by omega) q).1 (List.mem_of_getElem? hq);exact (mu hg (bX H line).length 0 (by omega) q).2 ⟨TH _ _ h1.1,h1.2⟩
 unfold nx;rw [if_pos h0];unfold fA;rw [hd];rfl
theorem F3 {H:aj} {lines:List (List Int)} (h:rY H lines=0) {line:List Int} (hl:line∈lines) :
  cC H line 1=0/\kR H (pZ H lines) line=0/\(nx H (pZ H lines) line).cost=(ea H line).cost/\BE H (pZ H lines) line (ea H line).words/\∀ w∈(ea H line).words,pz w:=by
 obtain ⟨hb,nr⟩:=TE h;obtain ⟨h1,hk⟩:=nr line hl;obtain ⟨hg,_,_,_,h4⟩:=tf h1;have h0:=(vQ hb).1
 have hr:(eI H line 1)[0]?=some (ea H line):=by
  unfold ea
  have:eI H line 1≠[]:=by
   rw [h4];unfold fA;obtain ⟨_,_,_,h3,_⟩:=tf h1;cases hq:bk (bX H line) 0 with
   | nil=>exact absurd hq h3
   | cons a t=>intro e;cases e
  cases hq:eI H line 1 with
  | nil=>exact absurd hq this
  | cons a t=>rfl
 obtain ⟨hv,hc,eJ⟩:=Kl h1 hr;have hle:=pM hg;have qJ:=hv;unfold kX at qJ;rw [if_neg (by omega)] at qJ;obtain ⟨a1,a2⟩:=TF h0 hb _ line 0 0 (mS hle).aA qJ hk;obtain ⟨w1,w2⟩:=Tp hb hg hv a2;obtain ⟨p,hp,jj⟩:=F2 hg w1;have Dw:=F1 h1 hp;exact ⟨h1,w1,by omega,a1,fun w hw=>⟨(eJ w hw).fit.cl,fun u hu=>by have:=(eJ w hw).text u hu;omega,by have:=(eJ w hw).small.ai;omega⟩⟩
def c16:az:=⟨[0,1,2,4,5,6,7,8,9,10,11,12,13,14,15,17,20,25,33,42,47,51,85,90,108,128],[],[6,9,11],[],[(6,[0,1,2,3,4,5],[]),(16,[0,1,2,3,4,5,6,7,8,9,10,11],[9]),(17,[0,1,2,3,4,5,6,7,8,9,10,11,12],[11]),(27,[0,1,2,3,4,5,6,7,8,9,10,11,12,13,14,15,16,17,18,19],[])],[]⟩
theorem F4 {H:aj} {B:bl} {line:List Int} {ws:List bU} {a k:Nat} {w:bU} (h:BE H B (line.drop a) (ws.drop k)) (hw:ws[k]?=some w):a+w.ai.length<=line.length/\nu H B ((line.take (a+w.ai.length)).drop a) w=0/\BE H B (line.drop (a+w.ai.length)) (ws.drop (k+1)):=by
 rw [drop_cons hw] at h;obtain ⟨⟨h1,h2⟩,h3⟩:=h;rw [List.length_drop] at h1;rw [List.drop_drop] at h3;have:1<=w.ai.length:=by obtain ⟨_,h4,_⟩:=Ti h2;have:=rG (xq h4).2.2;omega
 rw [List.drop_take,Nat.add_sub_cancel_left];exact ⟨by omega,h2,h3⟩
theorem F5 (H:aj) (ls:List (List Int)) (hf:dU H) (hl:ls.length<=1048576) (gD:∀ l∈ls,l.length<=1048576):ae Tryz.prog 16 [.agg (bu H),.sl 1 none (ls.map rh)] [] (.bool true):=by
 refine aG (F:=Tryz.f16) c16 rfl rfl rfl mixed rfl fun X=>?_;(conv=>whnf);skip;refine ⟨fun h0=>?_,fun h0=>?_⟩
 ·(conv=>whnf);repeat (refine ae.k0 (tq) ?_;conv=>whnf)
  exact ⟨rfl,rfl⟩
 (conv=>whnf);skip;refine bR rfl mixed [1,2,5] [] (fun m r h=>∃ (i:Nat),r=[(1,[],.sl 1 none (ls.map rh)),(2,[],.au (bu H)),(5,[],.int .i64 i)]/\h=[]/\m=ls.length - i/\i<=ls.length) ?_ ?_
 ·(conv=>whnf);exact ⟨_,0,rfl,rfl,rfl,by omega⟩
 rintro m r h ⟨i,rfl,rfl,rfl,hi⟩;(conv=>whnf);refine ⟨fun hz=>?_,fun hz=>?_⟩<;>simp at hz
 ·obtain ⟨line,mG⟩:=aL hz;(conv=>whnf);repeat ((first|refine ix (by assumption) ?_|refine ba (Oc H line) ?_|refine And.intro (by show aP (aN Tryz.f16 _) _=true;decide +kernel) ?_);conv=>whnf)
  refine ⟨fun h1=>?_,fun h1=>?_⟩
  ·(conv=>whnf);repeat (refine ae.k0 (tq) ?_;conv=>whnf)
   exact ⟨rfl,rfl⟩
  (conv=>whnf);repeat (refine ⟨ah ⟨by omega,by omega⟩,?_⟩;conv=>whnf)
  exact ⟨_,by omega,i+1,rfl,rfl,rfl,by omega⟩
 (conv=>whnf);repeat ((first|refine ae.k0 (ZB H ls hf hl gD) ?_|refine ⟨_,_,bo.here _,⟨Nat.le_of_ble_eq_true rfl,rfl⟩,?_⟩|intro (nb:Nat));conv=>whnf)
 refine ⟨fun h1=>?_,fun h1=>?_⟩<;>simp at h1
 ·(conv=>whnf);repeat (refine ae.k0 (tq) ?_;conv=>whnf)
  exact ⟨rfl,rfl⟩
 have F6:=fun line (hm:line∈ls)=>F3 h1 hm;obtain ⟨ze,a0D⟩:=TE h1;obtain ⟨bf,kB⟩:=vQ ze;have Jx:=(qA (vR bf).nN).many;have hB:pS (pZ H ls):=⟨by have:=(Qz kB).1;omega⟩;rw [h1];generalize pZ H ls=B at *;(conv=>whnf);repeat (refine ae.k0 (Ba H B hf hB) ?_;conv=>whnf)
 refine cF (by rw [ze];rfl) ?_;(conv=>whnf);skip;refine bR rfl mixed [1,2,6,8] [] (fun m r h=>∃ (i:Nat),r=[(1,[],.sl 1 none (ls.map rh)),(2,[],.au (bu H)),(6,[],.au (fN B)),(8,[],.int .i64 i)]/\h=[]/\m=ls.length - i/\i<=ls.length) ?_ ?_
 ·(conv=>whnf);exact ⟨_,0,rfl,rfl,rfl,by omega⟩
 rintro m r h ⟨i,rfl,rfl,rfl,aD⟩;(conv=>whnf);refine ⟨fun fU=>?_,fun fU=>?_⟩<;>simp at fU
 ·obtain ⟨line,mG⟩:=aL fU;have sU:=List.mem_of_getElem? mG;have dh:=gD line sU;obtain ⟨e1,e2,e3,e4,e5⟩:=F6 line sU;obtain ⟨iP,LG,LH⟩:=DV e1;have mP:=ZY H B line;(conv=>whnf);repeat ((first|refine ix (by assumption) ?_|refine ba (rM H line hf dh) ?_|refine ba (RZ H B line hf hB dh) ?_|refine ⟨_,_,bo.here _,?_⟩|refine ⟨_,_,.here _,aR,?_⟩|refine And.intro (by show aP (aN Tryz.f16 _) _=true;decide +kernel) ?_|intro (nb:Nat));conv=>whnf)
  refine cF (by rw [e1,e2,e3];simp) ?_;obtain ⟨R,hR⟩:∃ R,R=ea H line:=⟨_,rfl⟩;rw [<- hR] at e4 e5 LG ⊢;(conv=>whnf);skip;refine bR rfl mixed [1,2,6,8,9,13,14] [] (fun m r h=>∃ (k:Nat) (a:Nat),r=[(1,[],.sl 1 none (ls.map rh)),(2,[],.au (bu H)),(6,[],.au (fN B)),(8,[],.int .i64 i),(9,[],.au (kI R)),(13,[],.int .i64 a),(14,[],.int .i64 k)]/\h=[]/\m=R.words.length - k/\k<=R.words.length/\a<=line.length/\BE H B (line.drop a) (R.words.drop k)) ?_ ?_
  ·(conv=>whnf);exact ⟨_,0,0,rfl,rfl,rfl,by omega,by omega,e4⟩
  rintro m r h ⟨k,a,rfl,rfl,rfl,hk,ha,hP⟩;(conv=>whnf);refine ⟨fun bE=>?_,fun bE=>?_⟩<;>simp at bE
  ·obtain ⟨w,hw⟩:=aL bE;have wU:=e5 w (List.mem_of_getElem? hw);obtain ⟨p1,p2,p3⟩:=F4 hP hw;have bC:ints ((line.take (a+w.ai.length)).drop a)=((ints line).take ((a:Int)+((w.ai.map aV).length:Int)).toNat).drop ((a:Int)).toNat:=by rw [List.length_map,Int.toNat_natCast,show ((a:Int)+(w.ai.length:Int)).toNat=a+w.ai.length by omega];unfold ints;rw [List.map_drop,List.map_take]
   have jj:=YG H B ((line.take (a+w.ai.length)).drop a) w hf hB (by rw [List.length_drop,List.length_take];omega) wU;rw [bC,p2] at jj;have gT:((w.ai.map aV).length:Int)=w.ai.length:=(by rw [List.length_map]);(conv=>whnf);repeat ((first|refine ⟨ah ⟨by omega,by omega⟩,?_⟩|refine ix (by assumption) ?_);conv=>whnf)
   refine cF (decide_eq_false (by rw [gT,cg];omega)) ?_;(conv=>whnf);repeat ((first|refine ix (by assumption) ?_|(refine ⟨ah ⟨by omega,by omega,by rw [gT,cg];omega⟩,?_⟩)|(refine ⟨_,ah jj,?_⟩)|refine And.intro (by show aP (aN Tryz.f16 _) _=true;decide +kernel) ?_);conv=>whnf)
   refine cF (by simp) ?_;(conv=>whnf);repeat (refine ⟨ah ⟨by omega,by omega⟩,?_⟩;conv=>whnf)
   have eS:((a:Int)+((w.ai.map aV).length:Int))=((a+w.ai.length:Nat):Int):=by rw [gT];omega
   rw [eS];exact ⟨_,by omega,k+1,a+w.ai.length,rfl,rfl,rfl,by omega,by omega,p3⟩
  (conv=>whnf);repeat (refine ⟨ah ⟨by omega,by omega⟩,?_⟩;conv=>whnf)
  exact ⟨_,by omega,i+1,rfl,rfl,rfl,by omega⟩
 (conv=>whnf);repeat (refine ae.k0 (tq) ?_;conv=>whnf)
 exact ⟨rfl,rfl⟩
end Go.Abs.Wall.Spl
