/- What is proved: small laws for the walks of this seat, and contracts of its functions. No condition but those each theorem names. -/
import Derived.Test.YtbmcnieifibckaaGreatN41
import Derived.Test.YtbmcnieifibckaaGreatN37
import Derived.Test.YtbmcnieifibckaaGreatN20
import Derived.Test.YtbmcnieifibckaaGreatN38
set_option maxRecDepth 100000
set_option maxHeartbeats 2000000
set_option linter.unusedVariables false
set_option linter.unusedSimpArgs false
namespace Go.Abs.Wall.Spl
open Go Go.Abs Go.Proofs Go.Abs.Wall
open Go.Abs.Wall.Lst (ea cC eI fA gF gG mu CS Rows CT pH kJ tf pM xf Gv Dk)
def BD (H:aj) (B:bl):List Int->List bU->Prop
 | _,[]=>True
 | line,w::t=>kN H B (line.take w.ai.length) w=true/\BD H B (line.drop w.ai.length) t
theorem To {H:aj} {B:bl} {line:List Int}:∀ (ws:List bU) (i:Nat),gG (gx H B line) i (kJ H i ws)↔gG (bX H line) i (kJ H i ws)/\BD H B (line.drop i) ws
 | [],i=>by show i=(gx H B line).length↔i=(bX H line).length/\True;rw [Hj,oK];simp
 | w::t,i=>by
   have ih:=To (H:=H) (B:=B) (line:=line) t (i+w.ai.length);have hk:rZ H B line i (pK H i w)=kN H B ((line.drop i).take w.ai.length) w:=by unfold rZ;show kN H B ((line.take ((i:Int)+w.ai.length).toNat).drop i) w=_;rw [show ((i:Int)+w.ai.length).toNat=i+w.ai.length by omega,List.drop_take,Nat.add_sub_cancel_left]
   have eS:(pK H i w).to.toNat=i+w.ai.length:=by show ((i:Int)+w.ai.length).toNat=_;omega
   show (∃ es,(gx H B line)[i]?=some es/\pK H i w∈es/\gG (gx H B line) (pK H i w).to.toNat (kJ H (i+w.ai.length) t))↔(∃ es,(bX H line)[i]?=some es/\pK H i w∈es/\gG (bX H line) (pK H i w).to.toNat (kJ H (i+w.ai.length) t))/\(kN H B ((line.drop i).take w.ai.length) w=true/\BD H B ((line.drop i).drop w.ai.length) t);rw [eS,ih,List.drop_drop,<- hk];constructor
   ·rintro ⟨es,h1,h2,h3,h4⟩;obtain ⟨l,h5,rfl⟩:=DW h1;obtain ⟨h6,h7⟩:=List.mem_filter.1 h2;exact ⟨⟨l,h5,h6,h3⟩,h7,h4⟩
   rintro ⟨⟨es,h1,h2,h3⟩,h4,h5⟩;exact ⟨_,RP h1,List.mem_filter.2 ⟨h2,h4⟩,h3,h5⟩
theorem D7 {H:aj} {B:bl} {line:List Int} (hL:rF H line):Lst.Rows (gx H B line):=by
 intro i es bc j k x y CU hx hy;obtain ⟨l,h1,rfl⟩:=DW bc;have hr:=CT hL i l h1;have hp:l.Pairwise fun x y=>mY x.word y.word<0:=by rw [List.pairwise_iff_getElem];intro a b ha hb qI;exact hr a b _ _ qI (List.getElem?_eq_getElem ha) (List.getElem?_eq_getElem hb)
 have hp:=hp.filter (rZ H B line i);rw [List.pairwise_iff_getElem] at hp;obtain ⟨a1,rfl⟩:=List.getElem?_eq_some_iff.1 hx;obtain ⟨a2,rfl⟩:=List.getElem?_eq_some_iff.1 hy;exact hp j k a1 a2 CU
theorem D8 {H:aj} {B:bl} {line:List Int} (h:df H line=0) (h0:kR H B line=0) {p:lQ} (hp:p∈bk (gx H B line) 0):(nx H B line).cost<=p.1:=by
 obtain ⟨_,_,hg⟩:=oL h;obtain ⟨j,hj⟩:=List.mem_iff_getElem?.1 hp;have aI:=(List.getElem?_eq_some_iff.1 hj).1;obtain ⟨q,hq⟩:=aL (l:=bk (gx H B line) 0) (i:=0) (by omega);have hd:=drop_cons hq;rw [List.drop_zero] at hd;have hw:(nx H B line).cost=q.1:=by unfold nx;rw [if_pos h0];unfold fA;rw [hd];rfl
 rw [hw];rcases Nat.eq_zero_or_pos j with rfl|dK
 ·rw [hj] at hq;cases hq;exact Int.le_refl _
 have:=CS (DX hg) (D7 (mS (pM h))) (gx H B line).length 0 (by omega) 0 j q p dK hq hj;unfold Lst.AI at this;omega
theorem Tp {H:aj} {B:bl} {line:List Int} {ws:List bU} (hb:iB H B=0) (h:df H line=0) (hv:(kX H line ws).err=0) (hk:BD H B line ws) :
  kR H B line=0/\(nx H B line).cost<=(kX H line ws).cost:=by
 obtain ⟨_,_,hg⟩:=oL h;have cu:=Gv h hv;have Tq:=Dk (pM h) ws;have hl:cC H line 1=0:=by unfold cC;rw [if_neg (by omega),if_pos ⟨by decide,by decide⟩,if_neg];intro e;rw [e] at cu;cases cu
 have hp:((kX H line ws).cost,kJ H 0 ws)∈bk (gx H B line) 0:=
  (mu (DX hg) (gx H B line).length 0 (by omega) _).2 ⟨(To ws 0).2 ⟨Tq.1.1 hv,by rw [List.drop_zero];exact hk⟩,Tq.2 hv⟩
 have hw:kR H B line=0:=by unfold kR;rw [if_neg (by omega),if_neg (by omega),if_neg];intro e;rw [e] at hp;cases hp
 exact ⟨hw,D8 h hw hp⟩
theorem Tr {H:aj} {B:bl}:∀ {l:List aZ},(∀ f∈l,gX H B f 1=0)->BD H B (cq H B l) (l.map (ja H B))
 | [],_=>trivial
 | f::t,h=>by
   obtain ⟨h1,h2,_,h4,h3,_⟩:=Mi (h f (by simp));have hs:cq H B (f::t)=(dz H B f).aA++cq H B t:=by unfold cq;rw [List.map_cons,List.flatten_cons]
   have hlen:(ja H B f).ai.length=(dz H B f).aA.length:=h3.symm;rw [List.map_cons,hs];refine ⟨?_,?_⟩
   ·rw [hlen,List.take_left];exact h4
   rw [hlen,List.drop_left];exact Tr fun g hg=>h g (by simp [hg])
theorem D9 {H:aj} {line:List Int} (h:dX H line=0):df H line=0\/df H line=2:=by
 unfold df;rw [if_neg (by omega)];split
 ·exact .inr rfl
 exact .inl rfl
theorem E0 {H:aj} {B:bl} {l:List aZ} (h:iE H B l=0):kR H B (cq H B l)=2\/(kR H B (cq H B l)=0/\(nx H B (cq H B l)).cost<=((l.map fun f=>gC H (ja H B f)).sum)):=by
 obtain ⟨h1,h2,h3,h4,_⟩:=Eh h;have h0:=(vQ h1).1;have hv:=Mk h;rcases D9 (Hr h0 h4 (Mj h3)) with hg|hg
 ·right;have:=Tp h1 hg (ws:=l.map (ja H B)) (by rw [hv]) (Tr h3);rw [hv] at this;exact this
 left;have hl:cC H (cq H B l) 1=2:=by unfold cC;rw [if_pos (by omega),hg]
 unfold kR;rw [if_neg (by omega),if_pos (by omega),hl]
end Go.Abs.Wall.Spl
namespace Go.Abs.Wall.Spl
open Go Go.Abs Go.Proofs Go.Abs.Wall
open Go.Abs.Wall.Lst (ea cC eI fA gF gG mu pH rM FY CQ yP yQ)
def c15:az:=⟨[0,1,2,3,4,6,7,8,9,10,11,12,13,14,15,16,17,19,26,42,52,55,59,97],[],[10,15],[],[(16,[0,1,2,3,4,5,6,7,8,9,10,11,12],[15]),(17,[0,1,2,3,4,5,6,7,8,9,10,11,12,13,14,15,16,17,18,19,20,21,22,23,24,25],[]),(19,[0,1,2,3,4,5,6,7,8,9,10],[])],[]⟩
theorem E1 {H:aj} {B:bl} {l:List aZ} {i:Nat} {f:aZ} (h:l[i]?=some f):(cq H B (l.take i)).length+(dz H B f).aA.length<=(cq H B l).length/\((cq H B l).take ((cq H B (l.take i)).length+(dz H B f).aA.length)).drop (cq H B (l.take i)).length=(dz H B f).aA:=by
 have h1:cq H B l=cq H B (l.take i)++((dz H B f).aA++cq H B (l.drop (i+1))):=by
  conv=>lhs;rw [<- List.take_append_drop i l,drop_cons h]
  unfold cq;rw [List.map_append,List.flatten_append,List.map_cons,List.flatten_cons]
 rw [h1];refine ⟨by simp only [List.length_append];omega,?_⟩;rw [List.drop_take,List.drop_left,Nat.add_sub_cancel_left,List.take_left]
theorem E2 (H:aj) (B:bl) (l:List aZ) (hf:dU H) (hB:pS B) (hl:l.length<=1048576) (hc:∀ f∈l,f.ar.length<=1048576):ae Tryz.prog 15 [.agg (bu H),.agg (fN B),.sl 3 none (l.map eZ)] [] (.bool true):=by
 refine ae.of ?_;refine aG (F:=Tryz.f15) c15 rfl rfl rfl mixed rfl fun X=>?_;(conv=>whnf);repeat (refine ae.k0 (Zs H) ?_;conv=>whnf)
 refine ⟨fun h0=>?_,fun h0=>?_⟩
 ·(conv=>whnf);repeat (refine ae.k0 (tq) ?_;conv=>whnf)
  exact ag.refl _
 have h0:(DT H []||decide (5<((l.map eZ).length:Int)))=false:=h0;rw [Bool.or_eq_false_iff,decide_eq_false_iff_not,List.length_map] at h0;(conv=>whnf);repeat (refine ae.k0 (RI H B l hf hB hl hc) ?_;conv=>whnf)
 refine ⟨fun h1=>?_,fun h1=>?_⟩
 ·(conv=>whnf);repeat (refine ae.k0 (tq) ?_;conv=>whnf)
  exact ag.refl _
 have h1:(!decide (iE H B l=0)||decide (16<((ints (tE H B l)).length:Int)))=false:=h1;rw [Bool.or_eq_false_iff,Bool.not_eq_false',decide_eq_true_eq,decide_eq_false_iff_not,cg] at h1;obtain ⟨hE,E3⟩:=h1;obtain ⟨ze,_,nr,Tn,hS,hC⟩:=Eh hE;rw [hS] at E3 ⊢;rw [hC];(conv=>whnf);repeat ((first|refine ae.k0 (RZ H B (cq H B l) hf hB (by omega)) ?_|refine ⟨_,_,bo.here _,⟨Nat.le_of_ble_eq_true rfl,rfl⟩,?_⟩|intro (nb:Nat));conv=>whnf)
 refine ⟨fun h2=>?_,fun h2=>?_⟩<;>simp at h2
 ·(conv=>whnf);repeat (refine ae.k0 (tq) ?_;conv=>whnf)
  exact ag.refl _
 obtain ⟨yG,E4⟩:=(E0 hE).resolve_left h2;have Ei:=Mk hE;have wU:=Tm hl hc nr;(conv=>whnf);skip;refine cF (by rw [yG];rfl) ?_;(conv=>whnf);skip;refine bW rfl mixed [2,3,4,7,8,10,11,12,13,14] [] (fun m r h=>∃ (i:Nat) (v:AV) (hp:af),r=[(2,[],.sl 3 none (l.map eZ)),(3,[],.au (bu H)),(4,[],.au (fN B)),(7,[],.sl 1 none (ints (cq H B l))),(8,[],.int .i64 (rX H B l)),(10,[],.au (kI (nx H B (cq H B l)))),(11,[],v),(12,[],.int .i64 (cq H B (l.take i)).length),(13,[],.int .i64 (rX H B (l.take i))),(14,[],.int .i64 i)]/\h=hp/\m=l.length - i/\i<=l.length/\Out 4 cr ((l.take i).map (ja H B)) v hp) ?_ ?_
 ·(conv=>whnf);exact ⟨_,_,ao.refl _ _,_,0,.aT,[],rfl,rfl,rfl,by omega,.inl ⟨rfl,rfl,rfl⟩⟩
 rintro m r h' ⟨i,v,hp,rfl,rfl,rfl,hi,ho⟩;have cM:=Hg H B (l.take i);have uF:=LD H B (l.take i);rw [List.length_take] at cM uF;(conv=>whnf);refine ⟨fun ck=>?_,fun ck=>?_⟩<;>simp at ck
 ·obtain ⟨f,uK⟩:=aL ck;have Ts:=List.mem_of_getElem? uK;have gW:=LB (H:=H) (B:=B) uK;have rK:=RH (H:=H) (B:=B) uK;have oP:=dj uK;have hb:=DU H B f;have Zv:=LC H B f;obtain ⟨yJ,qc⟩:=E1 (H:=H) (B:=B) uK;have gQ:(((l.take i).map (ja H B)).map cr).length<=60:=by rw [List.length_map,List.length_map,List.length_take];omega
  have Be:=QN (dz H B f).aA (((cq H B l).take ((cq H B (l.take i)).length+(dz H B f).aA.length)).drop (cq H B (l.take i)).length) (by unfold aw;omega) (by rw [qc];unfold aw;omega);have bC:ints (((cq H B l).take ((cq H B (l.take i)).length+(dz H B f).aA.length)).drop (cq H B (l.take i)).length)=((ints (cq H B l)).take (((cq H B (l.take i)).length:Int)+((ints (dz H B f).aA).length:Int)).toNat).drop (((cq H B (l.take i)).length:Int)).toNat:=by rw [cg,Int.toNat_natCast,show (((cq H B (l.take i)).length:Int)+((dz H B f).aA.length:Int)).toNat=(cq H B (l.take i)).length+(dz H B f).aA.length by omega];unfold ints;rw [List.map_drop,List.map_take]
  rw [bC,qc] at Be;(conv=>whnf);repeat ((first|refine ix (by assumption) ?_|refine ba (KH H B f hf hB (by have:=hc _ Ts;unfold aw;omega)) ?_|(refine ⟨ah (by rw [cg];omega),?_⟩)|(refine ⟨ah ⟨by omega,by omega,by rw [cg,cg];omega⟩,?_⟩)|(refine ⟨_,ah (Be.wide _),?_⟩)|refine ⟨_,_,bo.here _,?_⟩|refine ⟨_,_,.here _,aR,?_⟩|refine And.intro (by show aP (aN Tryz.f15 _) _=true;decide +kernel) ?_|intro (nb:Nat));conv=>whnf)
  refine cF (by rw [nr f Ts,cg,cg,decide_eq_false (p:=(((cq H B l).length:Int)<_)) (by omega)];simp) ?_;have dG:(l.take (i+1)).map (ja H B)=(l.take i).map (ja H B)++[ja H B f]:=by rw [oP,List.map_append];rfl
  have hn:((cq H B (l.take (i+1))).length:Int)=(cq H B (l.take i)).length+(ints (dz H B f).aA).length:=by rw [gW,List.length_append,cg];omega
  rcases ho with ⟨ml,rfl,rfl⟩|⟨q,rfl,rfl⟩
  ·(conv=>whnf);repeat ((first|refine ⟨ah ⟨by omega,by omega⟩,?_⟩|refine ix (by assumption) ?_|(refine ⟨Nat.le_of_ble_eq_true rfl,fun q=>?_⟩)|(refine ⟨ah (by rw [cg];omega),?_⟩)|refine And.intro (by show aP (aN Tryz.f15 _) _=true;decide +kernel) ?_);conv=>whnf)
   rw [<- hn,<- rK];exact ⟨_,_,ao.refl _ _,_,(by omega),i+1,_,[(q,.tok)],rfl,rfl,rfl,by omega,.inr ⟨q,by rw [dG,ml];rfl,rfl⟩⟩
  (conv=>whnf);repeat ((first|refine ⟨ah ⟨by omega,by omega⟩,?_⟩|refine ix (by assumption) ?_|(refine ⟨(by rw [List.length_append,List.length_singleton];unfold aU;omega),fun q2=>⟨_,.here _,?_⟩⟩)|(refine ⟨ah (by rw [cg];omega),?_⟩)|refine And.intro (by show aP (aN Tryz.f15 _) _=true;decide +kernel) ?_);conv=>whnf)
  rw [<- hn,<- rK];exact ⟨_,_,ao.refl _ _,_,(by omega),i+1,_,[(q2,.tok)],rfl,rfl,rfl,by omega,.inr ⟨q2,by rw [dG,List.map_append];rfl,rfl⟩⟩
 rw [List.take_of_length_le (by omega)] at ho;have Ej:=ae.args (Of H (cq H B l) (l.map (ja H B)) hf (by omega) wU) (.cons (ag.refl _) (.cons (ag.refl _) (.cons (ho.le (by decide)) .nil)));rw [Ei] at Ej;rw [List.take_of_length_le (by omega)];(conv=>whnf);repeat ((refine (Ej.wide _).k ?_);conv=>whnf)
 (conv=>whnf);repeat (refine ba (tq) ?_;conv=>whnf)
 rw [decide_eq_true E4];simp [cg]
end Go.Abs.Wall.Spl
