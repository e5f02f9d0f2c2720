/- What is proved: small laws for the walks of this seat, and contracts of its functions. No condition but those each theorem names. -/
import Derived.Test.YtbmcnieifibckaaGreatN25
import Derived.Test.YtbmcnieifibckaaGreatN26
import Derived.Test.YtbmcnieifibckaaGreatN34
import Derived.Test.YtbmcnieifibckaaGreatN19
import Derived.Test.YtbmcnieifibckaaGreatN17
set_option maxRecDepth 100000
set_option maxHeartbeats 2000000
set_option linter.unusedVariables false
set_option linter.unusedSimpArgs false
namespace Go.Abs.Wall.Spl
open Go Go.Abs Go.Proofs Go.Abs.Wall
open Go.Abs.Wall.Lst (ea cC eI fA gF gG mu Hh rM)
theorem RJ {H:aj} {line:List Int} (h:df H line=0):∀ (p:List av) (i:Nat),i<=(bX H line).length->gG (bX H line) i p->p.length+i<=(bX H line).length/\∀ x∈p,∃ l,fQ H l x.word=0
 | [],i,hi,hp=>⟨by simpa using hi,fun x hx=>by cases hx⟩
 | x::p,i,hi,hp=>by
   obtain ⟨es,h1,h2,h3⟩:=hp;obtain ⟨_,_,hg⟩:=oL h;have ho:=hg.aO i es h1 x h2;have h5:=ho.lo;have h6:=ho.hi;obtain ⟨k1,k2⟩:=RJ h p x.to.toNat (by omega) h3;refine ⟨by rw [List.length_cons];omega,fun y hy=>?_⟩;rcases List.mem_cons.1 hy with rfl|hy
   ·exact ⟨_,(Hh h h1 h2).1⟩
   exact k2 y hy
theorem DV {H:aj} {line:List Int} (h:cC H line 1=0):df H line=0/\(ea H line).words.length<=60/\∀ w∈(ea H line).words,∃ l,fQ H l w=0:=by
 have h0:=h;unfold cC at h0;split at h0
 ·rename_i h1;exact absurd h0 h1
 rename_i h1;have iP:df H line=0:=(by omega);obtain ⟨_,_,hg⟩:=oL iP;refine ⟨iP,?_⟩;unfold ea eI;rw [if_pos h];unfold fA;cases hr:(bk (bX H line) 0).take (1:Int).toNat with
 | nil=>exact ⟨Nat.zero_le _,fun w hw=>by cases hw⟩
 | cons p t=>
   have hp:p∈bk (bX H line) 0:=List.mem_of_mem_take (by rw [hr];exact List.mem_cons_self ..);obtain ⟨g1,_⟩:=(mu hg (bX H line).length 0 (by omega) p).1 hp;obtain ⟨k1,k2⟩:=RJ iP p.2 0 (Nat.zero_le _) g1;have dw:=hg.bB;show (p.2.map (·.word)).length<=60/\∀ w∈p.2.map (·.word),_;refine ⟨by rw [List.length_map];omega,fun w hw=>?_⟩;obtain ⟨x,hx,rfl⟩:=List.mem_map.1 hw;exact k2 x hx
def kg (us:List ay):Int:=(us.map fun u=>if u.kind=4 then (1:Int) else 0).sum
theorem RK {p q:bn} {u:ay}:∀ {l:List iT} {c:Int},q∈eW p u l c->q.closed=p.closed
 | [],c,h=>by cases h
 | k::t,c,h=>by
   unfold eW at h;rcases List.mem_append.1 h with h|h
   ·split at h
    ·rw [List.mem_singleton.1 h]
    cases h
   exact RK h
theorem Zx {s:Sp} {p q:bn} {u:ay} (h:q∈Wall.aX s p u):(u.kind=4->p.closed=false/\q.closed=true/\s.e.cls≠[])/\(u.kind≠4->q.closed=p.closed):=by
 unfold Wall.aX at h;split at h
 ·rename_i k1;refine ⟨fun h4=>(by omega),fun _=>?_⟩;unfold iy at h;split at h
  ·split at h
   ·rw [List.mem_singleton.1 h]
   cases h
  split at h
  ·exact RK h
  cases h
 split at h
 ·refine ⟨fun h4=>(by omega),fun _=>?_⟩;split at h
  ·cases h
  rw [List.mem_singleton.1 h]
 split at h
 ·refine ⟨fun h4=>(by omega),fun _=>?_⟩;split at h
  ·cases h
  rw [List.mem_singleton.1 h]
 split at h
 ·rename_i k4;refine ⟨fun _=>?_,fun hn=>absurd k4 hn⟩;split at h
  ·cases h
  rename_i hb;rw [Bool.not_eq_true] at hb;unfold vZ at hb;simp only [Bool.or_eq_false_iff,decide_eq_false_iff_not] at hb;rw [List.mem_singleton.1 h];exact ⟨hb.1.1.1.1,rfl,hb.1.1.1.2⟩
 cases h
theorem RL {s:Sp}:∀ {us:List ay} {p q:bn},rN s p us q->kg us=(q.closed.toNat:Int) - p.closed.toNat/\(0<kg us->s.e.cls≠[])/\(dv 4 us=true↔0<kg us)/\0<=kg us
 | [],p,q,h=>by have h:q=p:=h;subst h;refine ⟨by unfold kg;simp,fun h=>(by unfold kg at h;simp at h),?_,by unfold kg;simp⟩;unfold dv kg;simp
 | u::us,p,q,h=>by
   obtain ⟨r,h1,h2⟩:=h;obtain ⟨a1,a2,a3,a4⟩:=RL h2;obtain ⟨b1,b2⟩:=Zx h1;have hc:kg (u::us)=(if u.kind=4 then (1:Int) else 0)+kg us:=by unfold kg;rw [List.map_cons,List.sum_cons]
   have hh:dv 4 (u::us)=(decide (u.kind=4)||dv 4 us):=by unfold dv;rw [List.any_cons];rfl
   by_cases h4:u.kind=4
   ·obtain ⟨c1,c2,c3⟩:=b1 h4;rw [if_pos h4] at hc;have hq:=Bool.toNat_le q.closed;rw [c2] at a1;have hz:(true.toNat:Int)=1:=rfl;have hf:(p.closed.toNat:Int)=0:=by rw [c1];rfl
    refine ⟨by omega,fun _=>c3,?_,by omega⟩;rw [hh,decide_eq_true h4,Bool.true_or];exact ⟨fun _=>by omega,fun _=>rfl⟩
   rw [if_neg h4,Int.zero_add] at hc;rw [b2 h4] at a1;rw [hc,hh,decide_eq_false h4,Bool.false_or];exact ⟨a1,a2,a3,a4⟩
theorem Hi {H:aj} {l:List Int} {w:bU} (h:fQ H l w=0):kg w.ai=(if dv 4 w.ai=true then 1 else 0)/\(dv 4 w.ai=true->(bZ H.lex w.form.entry).cls≠[]):=by
 obtain ⟨_,_,hs⟩:=xq h;have hl:=rG hs;unfold jl at hs;rw [Bool.and_eq_true] at hs;obtain ⟨_,p,hp,q,hr,_,_⟩:=(yR l w.ai [fI] hl.2).1 hs.2;rw [List.mem_singleton] at hp;subst hp;obtain ⟨a1,a2,a3,a4⟩:=RL hr;have hq:=Bool.toNat_le q.closed;have h0:(fI.closed.toNat:Int)=0:=rfl;cases hb:dv 4 w.ai with
 | true=>
   have:=a3.1 hb;exact ⟨by rw [if_pos rfl];omega,fun _=>a2 this⟩
 | false=>
   refine ⟨?_,fun h=>by cases h⟩;rw [if_neg (by decide)];have:¬ 0<kg w.ai:=fun h=>by rw [a3.2 h] at hb;cases hb
   omega
def im (T:List Int) (s:Int):List Int:=T.set s.toNat (T.getD s.toNat 0+1)
structure LS where
 T:List Int
 a:Int
 b:Int
 c:Int
 d:Int
def nw (H:aj) (w:bU):Bool:=!decide ((bZ H.lex w.form.entry).cls=[])
def oX (H:aj) (z:LS) (w:bU):LS:=⟨z.T,z.a+gY w.ai,z.b+fC w.ai,z.c+(if nw H w=true then 1 else 0),z.d+kg w.ai⟩
def mc (H:aj) (z:LS) (line:List Int):LS:=(ea H line).words.foldl (oX H) { z with T:=line.foldl im z.T }
def wa (H:aj):List (List Int)->Int
 | []=>0
 | l::t=>if cC H l 1≠0 then cC H l 1 else wa H t
def kQ (H:aj):LS:=⟨List.replicate H.list.aA.length 0,0,0,0,0⟩
def jJ (a b:Int):Int:=if a=0 then 1 else if b=0 then 0 else if b=a then 2 else 1
def zx (T:List Int):Int:=T.foldl max 0
def pY (m n:Int):Int:=if n=0 then -1 else min (m - n) 1000
def ra (z:LS):bl:=⟨z.T.map (pY (zx z.T)),jJ z.a z.b,jJ z.c z.d⟩
def rY (H:aj) (l:List (List Int)):Int:=if eo H≠0 then eo H else if 40<l.length then 2 else wa H l
def pZ (H:aj) (l:List (List Int)):bl:=if rY H l=0 then ra (l.foldl (mc H) (kQ H)) else ⟨[],0,0⟩
structure rf (H:aj) (k m:Nat) (z:LS):Prop where
 len:z.T.length=H.list.aA.length
 t:∀ n∈z.T,0<=n/\n<=k
 a:0<=z.b/\z.b<=z.a/\z.a<=12*m
 c:0<=z.d/\z.d<=z.c/\z.c<=m
theorem LF (T:List Int) (s:Int):(im T s).length=T.length:=by unfold im;rw [List.length_set]
theorem Zy {T:List Int} {k:Nat} (h:∀ n∈T,0<=n/\n<=k) (s:Int):∀ n∈im T s,0<=n/\n<=((k+1:Nat):Int):=by
 intro n hn;unfold im at hn;rcases List.mem_or_eq_of_mem_set hn with h1|rfl
 ·have:=h n h1;push_cast;omega
 have:0<=T.getD s.toNat 0/\T.getD s.toNat 0<=k:=by
  rw [List.getD_eq_getElem?_getD];cases hq:T[s.toNat]? with
  | none=>exact ⟨by decide,by show (0:Int)<=k;omega⟩
  | some x=>exact h x (List.mem_of_getElem? hq)
 push_cast;omega
theorem rf.line {H:aj} {k m:Nat} {z:LS} (h:rf H k m z) (s:Int):rf H (k+1) m { z with T:=im z.T s }:=⟨by show (im z.T s).length=_;rw [LF];exact h.len,Zy h.t s,h.a,h.c⟩
theorem rf.word {H:aj} {k m:Nat} {z:LS} (h:rf H k m z) {l:List Int} {w:bU} (hw:fQ H l w=0):rf H k (m+1) (oX H z w):=by
 obtain ⟨_,_,hs⟩:=xq hw;have hl:=rG hs;have hc:=xp w.ai;obtain ⟨h1,h2⟩:=Hi hw;have ha:=h.a;have hd:=h.c;refine ⟨h.len,h.t,?_,?_⟩
 ·show 0<=z.b+fC w.ai/\z.b+fC w.ai<=z.a+gY w.ai/\z.a+gY w.ai<=12*((m+1:Nat):Int);push_cast;omega
 show 0<=z.d+kg w.ai/\z.d+kg w.ai<=z.c+(if nw H w=true then 1 else 0)/\z.c+(if nw H w=true then 1 else 0)<=((m+1:Nat):Int);rw [h1];cases hb:dv 4 w.ai with
 | true=>
   have:nw H w=true:=by unfold nw;rw [decide_eq_false (h2 hb)];rfl
   rw [this];simp;omega
 | false=>
   rw [if_neg (by decide)];split<;>push_cast<;>omega
end Go.Abs.Wall.Spl
namespace Go.Abs.Wall.Spl
open Go Go.Abs Go.Proofs Go.Abs.Wall
open Go.Abs.Wall.Lst (ea cC eI fA gF gG mu Hh rM)
def rh (l:List Int):List AV:=[.sl 1 none (ints l)]
def encI (n:Int):List AV:=[.int .i64 n]
theorem tF (n:Int):(encI n).length=1:=rfl
theorem Zz (n:Nat):gM n [AV.int .i64 0]=((List.replicate n (0:Int)).map encI).flatten:=by
 unfold gM;induction n with
 | zero=>rfl
 | succ n ih=>rw [List.replicate_succ,List.replicate_succ,List.map_cons,List.flatten_cons,List.flatten_cons,ih];rfl
def c87:az:=⟨[0,1,4,5,8,11],[],[],[],[],[]⟩
def c43:az:=⟨[0,1,2,4,5,6,7,8,9,10,11,13,14,15,17,19,20,21,22,23,25,27,31,36,43,44,45,46,56,59,60,61,62,73,74,75,76,100,105,117,118,119,120,127,128,129,130,134],[],[14,19],[],[],[]⟩
theorem RM (a b:Int):ae Tryz.prog 87 [.int .i64 a,.int .i64 b] [] (.int .i64 (jJ a b)):=by
 refine aG (F:=Tryz.f87) c87 rfl rfl rfl mixed rfl fun X=>?_;(conv=>whnf);skip;refine ⟨fun h0=>?_,fun h0=>?_⟩<;>simp at h0
 ·rw [jJ,if_pos h0];(conv=>whnf);skip;exact ⟨rfl,rfl⟩
 rw [jJ,if_neg h0];(conv=>whnf);skip;refine ⟨fun h1=>?_,fun h1=>?_⟩<;>simp at h1
 ·rw [if_pos h1];(conv=>whnf);skip;exact ⟨rfl,rfl⟩
 rw [if_neg h1];(conv=>whnf);skip;refine ⟨fun h2=>?_,fun h2=>?_⟩<;>simp at h2
 ·rw [if_pos h2];(conv=>whnf);skip;exact ⟨rfl,rfl⟩
 rw [if_neg h2];(conv=>whnf);skip;exact ⟨rfl,rfl⟩
theorem ZA (H:aj):rf H 0 0 (kQ H):=⟨by unfold kQ;simp,fun n hn=>by unfold kQ at hn;have:=(List.mem_replicate.1 hn).2;rw [this];exact ⟨by decide,by decide⟩,by simp [kQ],by simp [kQ]⟩
theorem rf.more {H:aj} {k m k' m':Nat} {z:LS} (h:rf H k m z) (hk:k<=k') (hm:m<=m'):rf H k' m' z:=by have h1:=h.a;have h2:=h.c;exact ⟨h.len,fun n hn=>by have:=h.t n hn;omega,by omega,by omega⟩
set_option maxHeartbeats 4000000 in
theorem ZB (H:aj) (lines:List (List Int)) (hf:dU H) (hl:lines.length<=1048576) (gD:∀ l∈lines,l.length<=1048576) :
  ae Tryz.prog 43 [.agg (bu H),.sl 1 none (lines.map rh)] [] (.aH [.agg (fN (pZ H lines)),.int .i64 (rY H lines)]):=by
 have uL:∀ e:Int,ag (.aH [.agg [.aT,.int .i64 0,.int .i64 0],.int .i64 e]) (.aH [.agg (fN ⟨[],0,0⟩),.int .i64 e]):=fun e=>ag.aH (.cons (ag.agg (.cons (ag.nil (by decide)) (.cons (ag.refl _) (.cons (ag.refl _) .nil)))) (.cons (ag.refl _) .nil));refine ae.of ?_;refine aG (F:=Tryz.f43) c43 rfl rfl rfl mixed rfl fun X=>?_;(conv=>whnf);intro rb;(conv=>whnf);repeat (refine ae.k0 (GD H hf) ?_;conv=>whnf)
 refine ⟨fun h0=>?_,fun h0=>?_⟩<;>simp at h0
 ·have he:rY H lines=eo H:=by unfold rY;rw [if_pos h0]
  unfold pZ;rw [he,if_neg h0];(conv=>whnf);repeat ((first|refine ⟨_,_,.head _,rfl,?_⟩|refine ⟨_,_,.here _,aR,?_⟩);conv=>whnf)
  exact uL _
 (conv=>whnf);skip;refine ⟨fun h1=>?_,fun h1=>?_⟩<;>simp at h1
 ·have he:rY H lines=2:=by unfold rY;rw [if_neg (by omega),if_pos (by omega)]
  unfold pZ;rw [he,if_neg (by decide)];(conv=>whnf);repeat ((first|refine ⟨_,_,.head _,rfl,?_⟩|refine ⟨_,_,.here _,aR,?_⟩);conv=>whnf)
  exact uL _
 have fm:rY H lines=wa H lines:=by unfold rY;rw [if_neg (by omega),if_neg (by omega)]
 have hH:=vR h0;have Jx:=(qA hH.nN).many;have eu:((H.list.aA.map iX).length:Int)=H.list.aA.length:=(by rw [List.length_map]);(conv=>whnf);repeat ((refine ⟨⟨rfl,by rw [eu];omega,by rw [eu];omega⟩,fun tb=>?_⟩);conv=>whnf)
 rw [show (((H.list.aA.map iX).length:Int)).toNat=H.list.aA.length by rw [eu];omega,Zz];skip;obtain ⟨Z,hZ⟩:∃ Z,Z=lines.foldl (mc H) (kQ H):=⟨_,rfl⟩;have sU:pZ H lines=if rY H lines=0 then ra Z else ⟨[],0,0⟩:=by unfold pZ;rw [hZ]
 refine bW rfl mixed [2,4,7,8,9,10,11,43,44,45] [] (fun m r h=>∃ (i:Nat) (z:LS),r=[(2,[],.au (bu H)),(4,[],.bj rb 0),(7,[],.aQ tb 0 H.list.aA.length 1),(8,[],.int .i64 z.a),(9,[],.int .i64 z.b),(10,[],.int .i64 z.c),(11,[],.int .i64 z.d),(43,[],.sl 1 none (lines.map rh)),(44,[],.int .i64 (lines.map rh).length),(45,[],.int .i64 i)]/\h=(tb,.vec (z.T.map encI).flatten)::(rb,.vec [.aT,.int .i64 0,.int .i64 0])::[]/\m=lines.length - i/\i<=lines.length/\rf H (60*i) (60*i) z/\wa H lines=wa H (lines.drop i)/\Z=(lines.drop i).foldl (mc H) z) ?_ ?_
 ·(conv=>whnf);exact ⟨_,_,ao.refl _ _,_,0,kQ H,rfl,rfl,rfl,by omega,ZA H,rfl,hZ⟩
 rintro m r h' ⟨i,z,rfl,rfl,rfl,hi,hz,hE,hF⟩;have Y2:=hz.a;have Gl:=hz.c;(conv=>whnf);refine ⟨fun hc=>?_,fun hc=>?_⟩<;>simp at hc
 ·obtain ⟨line,mG⟩:=aL hc;have dh:=gD line (List.mem_of_getElem? mG);rw [drop_cons mG,wa] at hE;rw [drop_cons mG,List.foldl_cons] at hF;(conv=>whnf);repeat ((first|refine ix (by assumption) ?_|refine ae.k0 (rM H line hf dh) ?_|refine ⟨_,_,bo.here _,⟨Nat.le_of_ble_eq_true rfl,rfl⟩,?_⟩|intro (nb:Nat));conv=>whnf)
  refine ⟨fun h2=>?_,fun h2=>?_⟩<;>simp at h2
  ·rw [if_pos h2] at hE;rw [sU,fm,hE,if_neg h2];(conv=>whnf);repeat ((first|(refine ⟨_,_,.there (.here _),aR,?_⟩)|(refine ⟨_,_,.tail _ (.head _),rfl,?_⟩));conv=>whnf)
   exact uL _
  rw [if_neg (by omega)] at hE;obtain ⟨iP,LG,LH⟩:=DV h2;have RN:=mS (Lst.pM iP);have dw:=RN.bB;have kM:=RN.aA;obtain ⟨ws,yA⟩:∃ ws,ws=(ea H line).words:=⟨_,rfl⟩;rw [<- yA] at LG LH;have hF:Z=(lines.drop (i+1)).foldl (mc H) (ws.foldl (oX H) { z with T:=line.foldl im z.T }):=by rw [hF,yA];rfl
  (conv=>whnf);skip;refine bW rfl mixed [2,4,7,8,9,10,11,14,43,44,45,59,60,61] [] (fun m r h=>∃ (j:Nat) (T:List Int),r=[(2,[],.au (bu H)),(4,[],.bj rb 0),(7,[],.aQ tb 0 H.list.aA.length 1),(8,[],.int .i64 z.a),(9,[],.int .i64 z.b),(10,[],.int .i64 z.c),(11,[],.int .i64 z.d),(14,[],.au (kI (ea H line))),(43,[],.sl 1 none (lines.map rh)),(44,[],.int .i64 (lines.map rh).length),(45,[],.int .i64 i),(59,[],.sl 1 none (ints line)),(60,[],.int .i64 (ints line).length),(61,[],.int .i64 j)]/\h=(tb,.vec (T.map encI).flatten)::(rb,.vec [.aT,.int .i64 0,.int .i64 0])::[]/\m=line.length - j/\j<=line.length/\rf H (60*i+j) (60*i) { z with T:=T }/\line.foldl im z.T=(line.drop j).foldl im T) ?_ ?_
  ·(conv=>whnf);exact ⟨_,_,ao.refl _ _,_,0,z.T,rfl,rfl,rfl,by omega,hz,rfl⟩
  rintro m r h' ⟨j,T,rfl,rfl,rfl,hj,hT,vA⟩;have fH:T.length=H.list.aA.length:=hT.len;(conv=>whnf);refine ⟨fun ck=>?_,fun ck=>?_⟩<;>simp [cg] at ck
  ·obtain ⟨sg,hs⟩:=aL ck;have Be:=kM sg (List.mem_of_getElem? hs);obtain ⟨tv,LI⟩:=aL (l:=T) (i:=sg.toNat) (by omega);have vp:=hT.t tv (List.mem_of_getElem? LI);have eJ:T.getD sg.toNat 0=tv:=vj LI;rw [drop_cons hs,List.foldl_cons] at vA;(conv=>whnf);repeat ((first|refine ⟨ah ⟨by omega,by omega⟩,?_⟩|refine ix (by assumption) ?_|(refine ⟨sg.toNat,ah ⟨by omega,by omega⟩,?_⟩)|(refine eR tF (.head _) (by omega) LI ?_)|(refine py (tv+1) (by decide) tF (i:=sg.toNat) (by omega) (by omega) rfl (.here _) ?_));conv=>whnf)
   refine ⟨_,_,ao.refl _ _,_,(by omega),j+1,im T sg,rfl,?_,rfl,by omega,(hT.line sg).more (by omega) (Nat.le_refl _),vA⟩;unfold im;rw [eJ]
  rw [drop_nil (by omega)] at vA;have vA:line.foldl im z.T=T:=vA;rw [vA] at hF;(conv=>whnf);skip;refine bW rfl mixed [2,4,7,8,9,10,11,43,44,45,73,74,75] [] (fun m r h=>∃ (k:Nat) (y:LS),r=[(2,[],.au (bu H)),(4,[],.bj rb 0),(7,[],.aQ tb 0 H.list.aA.length 1),(8,[],.int .i64 y.a),(9,[],.int .i64 y.b),(10,[],.int .i64 y.c),(11,[],.int .i64 y.d),(43,[],.sl 1 none (lines.map rh)),(44,[],.int .i64 (lines.map rh).length),(45,[],.int .i64 i),(73,[],.sl 4 none (ws.map cr)),(74,[],.int .i64 (ws.map cr).length),(75,[],.int .i64 k)]/\h=(tb,.vec (y.T.map encI).flatten)::(rb,.vec [.aT,.int .i64 0,.int .i64 0])::[]/\m=ws.length - k/\k<=ws.length/\rf H (60*i+60) (60*i+k) y/\Z=(lines.drop (i+1)).foldl (mc H) ((ws.drop k).foldl (oX H) y)) ?_ ?_
  ·(conv=>whnf);exact ⟨_,_,ao.refl _ _,_,0,{ z with T:=T },by rw [yA];rfl,rfl,rfl,by omega,hT.more (by omega) (by omega),hF⟩
  clear hF;rintro m r h' ⟨k,y,rfl,rfl,rfl,hk,hy,hF⟩;have Y3:=hy.a;have Y4:=hy.c;(conv=>whnf);refine ⟨fun od=>?_,fun od=>?_⟩<;>simp at od
  ·obtain ⟨w,hw⟩:=aL od;obtain ⟨l2,zy⟩:=LH w (List.mem_of_getElem? hw);obtain ⟨_,tZ,jf⟩:=xq zy;have wI:=rG jf;have nK:=mn tZ;have Y5:=xp w.ai;have uF:=QQ w.ai (by omega);have ZC:=KM w.ai 4 (by unfold aw;omega);obtain ⟨c1,c2⟩:=Hi zy;rw [drop_cons hw,List.foldl_cons] at hF;(conv=>whnf);repeat ((first|refine ⟨ah ⟨by omega,by omega⟩,?_⟩|refine ix (by assumption) ?_|refine ae.k0 (uF) ?_|(refine dg w.form.entry.toNat (by have:=nK.entry;omega) (nZ nK.entry.1 nK.entry.2) ?_)|refine ⟨_,_,bo.here _,⟨Nat.le_of_ble_eq_true rfl,rfl⟩,?_⟩|intro (nb:Nat));conv=>whnf)
   refine ⟨fun q1=>?_,fun q1=>?_⟩
   ·have cV:nw H w=true:=q1;(conv=>whnf);repeat ((first|refine ⟨ah ⟨by omega,by omega⟩,?_⟩|refine ae.k0 (ZC) ?_);conv=>whnf)
    refine ⟨fun q2=>?_,fun q2=>?_⟩
    ·rw [if_pos q2] at c1;(conv=>whnf);repeat (refine ⟨ah ⟨by omega,by omega⟩,?_⟩;conv=>whnf)
     exact ⟨_,_,ao.refl _ _,_,(by omega),k+1,oX H y w,by unfold oX;rw [c1,cV];rfl,rfl,rfl,by omega,(hy.word zy).more (Nat.le_refl _) (by omega),hF⟩
    rw [if_neg (by rw [q2];decide)] at c1;(conv=>whnf);repeat (refine ⟨ah ⟨by omega,by omega⟩,?_⟩;conv=>whnf)
    exact ⟨_,_,ao.refl _ _,_,(by omega),k+1,oX H y w,by unfold oX;rw [c1,cV,Int.add_zero];rfl,rfl,rfl,by omega,(hy.word zy).more (Nat.le_refl _) (by omega),hF⟩
   have cV:nw H w=false:=q1;have nS:dv 4 w.ai=false:=by rw [<- Bool.not_eq_true];intro hq;have:=c2 hq;unfold nw at cV;rw [decide_eq_false this] at cV;cases cV
   rw [if_neg (by rw [nS];decide)] at c1;(conv=>whnf);repeat (refine ⟨ah ⟨by omega,by omega⟩,?_⟩;conv=>whnf)
   exact ⟨_,_,ao.refl _ _,_,(by omega),k+1,oX H y w,by unfold oX;rw [c1,cV,Int.add_zero,if_neg (by decide),Int.add_zero];rfl,rfl,rfl,by omega,(hy.word zy).more (Nat.le_refl _) (by omega),hF⟩
  rw [drop_nil (by omega)] at hF;(conv=>whnf);repeat (refine ⟨ah ⟨by omega,by omega⟩,?_⟩;conv=>whnf)
  exact ⟨_,_,ao.refl _ _,_,(by omega),i+1,y,rfl,rfl,rfl,by omega,hy.more (by omega) (by omega),hE,hF⟩
 rw [drop_nil (by omega)] at hE hF;have hE:wa H lines=0:=hE;have hF:Z=z:=hF;subst hF;rw [sU,fm,hE,if_pos rfl];have fH:=hz.len;(conv=>whnf);repeat ((first|refine ae.k0 (RM Z.a Z.b) ?_|refine ae.k0 (RM Z.c Z.d) ?_|(intro (cb:Nat))|refine ⟨_,_,.here _,aR,?_⟩);conv=>whnf)
 have RO:∀ n∈Z.T,0<=n/\n<=2400:=fun n hn=>by have:=hz.t n hn;omega
 refine bW rfl mixed [4,7,22,23,117,118,119] [] (fun m r h=>∃ (j:Nat) (mx:Int) (cb:Nat),r=[(4,[],.bj rb 0),(7,[],.aQ tb 0 H.list.aA.length 1),(22,[],.bj cb 0),(23,[],.int .i64 mx),(117,[],.aQ tb 0 H.list.aA.length 1),(118,[],.int .i64 H.list.aA.length),(119,[],.int .i64 j)]/\h=(cb,.vec [.aT,.int .i64 (jJ Z.a Z.b),.int .i64 (jJ Z.c Z.d)])::(tb,.vec (Z.T.map encI).flatten)::(rb,.vec [.aT,.int .i64 0,.int .i64 0])::[]/\m=H.list.aA.length - j/\j<=H.list.aA.length/\(0<=mx/\mx<=2400)/\zx Z.T=(Z.T.drop j).foldl max mx) ?_ ?_
 ·(conv=>whnf);exact ⟨_,_,ao.refl _ _,_,0,0,cb,rfl,rfl,rfl,by omega,⟨by omega,by omega⟩,rfl⟩
 rintro m r h' ⟨j,mx,cb,rfl,rfl,rfl,hj,LJ,Bs⟩;(conv=>whnf);refine ⟨fun ck=>?_,fun ck=>?_⟩<;>simp at ck
 ·obtain ⟨n,hn⟩:=aL (l:=Z.T) (i:=j) (by omega);have sH:=RO n (List.mem_of_getElem? hn);rw [drop_cons hn,List.foldl_cons] at Bs;(conv=>whnf);repeat ((first|refine ⟨ah ⟨by omega,by omega⟩,?_⟩|(refine fx (i:=j) (by omega) ?_)|(refine eR tF (.tail _ (.head _)) (by omega) hn ?_));conv=>whnf)
  exact ⟨_,_,ao.refl _ _,_,(by omega),j+1,max mx n,cb,rfl,rfl,rfl,by omega,⟨by omega,by omega⟩,Bs⟩
 rw [drop_nil (by omega)] at Bs;have Bs:zx Z.T=mx:=Bs;(conv=>whnf);skip;refine bW rfl mixed [4,22,23,127,128,129] [] (fun m r h=>∃ (j:Nat) (sv:AV) (sh:af) (cb:Nat),r=[(4,[],.bj rb 0),(22,[],.bj cb 0),(23,[],.int .i64 mx),(127,[],.aQ tb 0 H.list.aA.length 1),(128,[],.int .i64 H.list.aA.length),(129,[],.int .i64 j)]/\h=(cb,.vec [sv,.int .i64 (jJ Z.a Z.b),.int .i64 (jJ Z.c Z.d)])::(tb,.vec (Z.T.map encI).flatten)::(rb,.vec [.aT,.int .i64 0,.int .i64 0])::sh/\m=H.list.aA.length - j/\j<=H.list.aA.length/\Out 1 encI ((Z.T.take j).map (pY mx)) sv sh) ?_ ?_
 ·(conv=>whnf);exact ⟨_,_,ao.refl _ _,_,0,.aT,[],cb,rfl,rfl,rfl,by omega,.inl ⟨rfl,rfl,rfl⟩⟩
 rintro m r h' ⟨j,sv,sh,cb,rfl,rfl,rfl,hj,ho⟩;(conv=>whnf);refine ⟨fun od=>?_,fun od=>?_⟩<;>simp at od
 ·obtain ⟨n,hn⟩:=aL (l:=Z.T) (i:=j) (by omega);have sH:=RO n (List.mem_of_getElem? hn);have dG:(Z.T.take (j+1)).map (pY mx)=(Z.T.take j).map (pY mx)++[pY mx n]:=by rw [dj hn,List.map_append];rfl
  have pq:(((Z.T.take j).map (pY mx)).map encI).length<=200:=by rw [List.length_map,List.length_map,List.length_take];omega
  rcases ho with ⟨he,rfl,rfl⟩|⟨q,rfl,rfl⟩
  all_goals
   (conv=>whnf);repeat ((first|(refine fx (i:=j) (by omega) ?_)|(refine eR tF (.tail _ (.head _)) (by omega) hn ?_));conv=>whnf)
   refine ⟨fun q0=>?_,fun q0=>?_⟩<;>simp at q0
   ·have zz:pY mx n = -1:=by unfold pY;rw [if_pos q0]
    rw [zz] at dG;(conv=>whnf);repeat ((first|refine ⟨ah ⟨by omega,by omega⟩,?_⟩|(refine ⟨Nat.le_of_ble_eq_true rfl,fun q'=>?_⟩)|(refine ⟨(by rw [List.length_append,List.length_singleton];unfold aU;omega),fun q'=>⟨_,.there (.there (.there (.here _))),?_⟩⟩)|(refine ⟨_,_,.there (.here _),aR,?_⟩)|(refine ⟨_,_,.here _,aR,?_⟩)|refine ⟨_,_,.head _,rfl,?_⟩);conv=>whnf)
    first
     | exact ⟨_,_,ao.refl _ _,_,(by omega),j+1,_,[(q',.tok)],cb,rfl,rfl,rfl,by omega,.inr ⟨q',by rw [dG,List.map_append];rfl,rfl⟩⟩
     | exact ⟨_,_,ao.perm (List.perm_middle (l₁:=[_,_,_])).symm,_,(by omega),j+1,_,[(q',.tok)],cb,rfl,rfl,rfl,by omega,.inr ⟨q',by rw [dG,he];rfl,rfl⟩⟩
   have zz:pY mx n=min (mx - n) 1000:=by unfold pY;rw [if_neg q0]
   rw [zz] at dG;(conv=>whnf);repeat ((first|refine ⟨ah ⟨by omega,by omega⟩,?_⟩|(refine ⟨Nat.le_of_ble_eq_true rfl,fun q'=>?_⟩)|(refine ⟨(by rw [List.length_append,List.length_singleton];unfold aU;omega),fun q'=>⟨_,.there (.there (.there (.here _))),?_⟩⟩)|(refine ⟨_,_,.there (.here _),aR,?_⟩)|(refine ⟨_,_,.here _,aR,?_⟩)|refine ⟨_,_,.head _,rfl,?_⟩);conv=>whnf)
   first
    | exact ⟨_,_,ao.refl _ _,_,(by omega),j+1,_,[(q',.tok)],cb,rfl,rfl,rfl,by omega,.inr ⟨q',by rw [dG,List.map_append];rfl,rfl⟩⟩
    | exact ⟨_,_,ao.perm (List.perm_middle (l₁:=[_,_,_])).symm,_,(by omega),j+1,_,[(q',.tok)],cb,rfl,rfl,rfl,by omega,.inr ⟨q',by rw [dG,he];rfl,rfl⟩⟩
 rw [List.take_of_length_le (by omega)] at ho;unfold ra;rw [Bs];(conv=>whnf);repeat ((first|(refine ⟨_,_,.there (.there (.here _)),aR,?_⟩)|(refine ⟨_,_,.tail _ (.tail _ (.head _)),rfl,?_⟩)|refine ⟨_,_,.head _,rfl,?_⟩);conv=>whnf)
 exact ag.aH (.cons (ag.agg (.cons (ho.le (by decide)) (.cons (ag.refl _) (.cons (ag.refl _) .nil)))) (.cons (ag.refl _) .nil))
end Go.Abs.Wall.Spl
