/- What is proved: small laws for the walks of this seat, and contracts of its functions. No condition but those each theorem names. -/
import Derived.Test.YtbmcnieifibckaaGreatN7
import Derived.Test.YtbmcnieifibckaaGreatN8
set_option maxRecDepth 100000
set_option maxHeartbeats 2000000
set_option linter.unusedVariables false
set_option linter.unusedSimpArgs false
namespace Go.Abs.Wall
open Go Go.Abs Go.Proofs
def xT (p:bn):Nat:=10 ^ (3 - p.cl.length)
def kz (l:List bn):Nat:=(l.map xT).sum
theorem S4 (p:bn):1<=xT p:=Nat.one_le_pow _ _ (by omega)
theorem MU (a b:List bn):kz (a++b)=kz a+kz b:=by unfold kz;rw [List.map_append,List.sum_append]
theorem MV:∀ l:List bn,l.length<=kz l
 | []=>by simp
 | p::l=>by have h1:=MV l;have h2:=S4 p;unfold kz at h1 ⊢;rw [List.map_cons,List.sum_cons,List.length_cons];omega
theorem UX {p:bn} {u:ay} (h3:p.cl.length<3):∀ (l:List iT) (c:Int),kz (eW p u l c)<=l.length*10 ^ (2 - p.cl.length)
 | [],_=>by simp [eW,kz]
 | k::t,c=>by
   have ih:=UX (u:=u) h3 t (c+1);unfold eW;rw [MU,List.length_cons,Nat.succ_mul]
   have h1:kz (if gu k.text u.text=true then [(⟨p.bL++u.text,p.closed,p.cl++[c],u⟩:bn)] else [])<=10 ^ (2 - p.cl.length):=by
    split
    ·unfold kz xT;rw [List.map_cons,List.map_nil,List.sum_cons,List.sum_nil,List.length_append,List.length_singleton,show 3 - (p.cl.length+1)=2 - p.cl.length by omega];omega
    simp [kz]
   omega
theorem S5 {s:Sp} (hs:jN s) (p:bn) (u:ay):kz (aX s p u)<=xT p:=by
 have Pj:=hs.lex.many.2.2;have one:∀ q:bn,q.cl=p.cl->kz [q]<=xT p:=fun q hq=>by unfold kz xT;rw [List.map_cons,List.map_nil,List.sum_cons,List.sum_nil,hq];omega
 have BL:kz []<=xT p:=(by simp [kz]);unfold aX;split
 ·unfold iy;split
  ·split
   ·exact one _ rfl
   exact BL
  split
  ·rename_i h3;refine Nat.le_trans (UX h3 _ _) ?_;unfold xT;rw [show 3 - p.cl.length=(2 - p.cl.length)+1 by omega,Nat.pow_succ,Nat.mul_comm];refine Nat.mul_le_mul_left _ ?_;rw [List.length_drop];omega
  exact BL
 split
 ·split
  ·exact BL
  exact one _ rfl
 split
 ·split
  ·exact BL
  exact one _ rfl
 split
 ·split
  ·exact BL
  exact one _ rfl
 exact BL
theorem MW {s:Sp} (hs:jN s) (u:ay):∀ l:List bn,kz (l.flatMap fun p=>aX s p u)<=kz l
 | []=>by simp
 | p::l=>by have h1:=S5 hs p u;have h2:=MW hs u l;rw [List.flatMap_cons,MU];unfold kz at h2 h1 ⊢;rw [List.map_cons,List.sum_cons];omega
def um (H:aj) (s:Sp) (cl:List Int):List Int->List ay->List bn->Bool
 | n::t,u::us,st=>(gn H n).any (pI u)&&um H s cl t us (st.flatMap fun p=>aX s p u)
 | _,_,st=>st.any fun p=>mO s p&&decide (p.cl=cl)
def bD (H:aj) (f:aZ):Sp:=⟨H,bZ H.lex f.entry,ny H.lex f.entry f.ending⟩
def jl (H:aj) (line:List Int) (w:bU):Bool:=(bI line.length 1 12&&decide (line.length=w.ai.length))&&um H (bD H w.form) w.form.ar line w.ai [fI]
def c156:az:=⟨[0,1,2,3,4],[],[],[],[],[]⟩
def c223:az:=⟨[0,1,4,5,7,8,9,16],[],[],[],[],[]⟩
def c155:az:=⟨[0,1,4],[],[],[],[],[]⟩
def c94:az:=⟨[0,1,2,3,5,6,7,8,9,10,11,13,25,48,49,50,51,64,65,66,67,68],[],[7,13],[],[(3,[0,1,2,3,4,5,6,7,8,9,10,11,12,13,14,15,16,17,18,19,20,21],[7]),(8,[0,1,2,3,4,5,6,7,8,9],[]),(14,[0,1,2,3,4,5,6,7,8,9,10],[])],[]⟩
def c70:az:=⟨[0,1,2,3,5,6,7,8,9,14,22,28],[],[],[],[],[]⟩
theorem S6 (s:Sp) (p:bn) (w:bU) (hs:jN s) (hp:jP s p) (hw:w.form.ar.length<=aw):ae Tryz.prog 156 [.agg (fE p),.au [.au (ou s)],.au (cr w)] [] (.bool (mO s p&&decide (p.cl=w.form.ar))):=by
 have dw:=hp.bB;refine aG (F:=Tryz.f156) c156 rfl rfl rfl mixed rfl fun X=>?_;(conv=>whnf);repeat ((first|refine ae.k0 (MA s p hs hp) ?_|refine ba (I2 p.cl w.form.ar (by unfold aw;omega) hw) ?_);conv=>whnf)
 exact ⟨rfl,rfl⟩
theorem S7 (l:List bn) (hl:l.length<=aw) (f:FuncId) (bF:List AV) (p:bn->Bool) (hp:∀ w∈l,ae Tryz.prog f (.agg (fE w)::bF) [] (.bool (p w))) :
  ae Tryz.prog 223 [.sl 6 none (l.map fE),.fn f bF] [] (.int .i64 (kb p l)):=by
 refine aG (F:=Tryz.f223) c223 rfl rfl rfl mixed rfl fun X=>?_;(conv=>whnf);unfold aw at hl;refine bR rfl mixed [0,1,7,8] [] (fun m r h=>∃ (i:Nat),r=[(0,[],.sl 6 none (l.map fE)),(1,[],.fn f bF),(7,[],.int .i64 (l.map fE).length),(8,[],.int .i64 i)]/\h=[]/\m=l.length - i/\i<=l.length/\Below p l i) ?_ ?_
 ·(conv=>whnf);exact ⟨_,0,rfl,rfl,rfl,by omega,.zero⟩
 rintro m r h ⟨i,rfl,rfl,rfl,hi,hg⟩;(conv=>whnf);refine ⟨fun hc=>?_,fun hc=>?_⟩<;>simp at hc
 ·obtain ⟨x,hx⟩:=aL hc;(conv=>whnf);repeat ((first|refine ix (by assumption) ?_|(refine ae.k0 (hp x (List.mem_of_getElem? hx)) ?_));conv=>whnf)
  refine ⟨fun hd=>?_,fun hd=>?_⟩
  ·(conv=>whnf);exact ⟨by rw [hg.at hx hd],rfl⟩
  (conv=>whnf);repeat (refine ⟨ah ⟨by omega,by omega⟩,?_⟩;conv=>whnf)
  exact ⟨_,by omega,i+1,rfl,rfl,rfl,by omega,hg.succ hx hd⟩
 (conv=>whnf);exact ⟨by rw [hg.end hc],rfl⟩
theorem S8 (l:List bn) (hl:l.length<=aw) (f:FuncId) (bF:List AV) (p:bn->Bool) (hp:∀ w∈l,ae Tryz.prog f (.agg (fE w)::bF) [] (.bool (p w))) :
  ae Tryz.prog 155 [.sl 6 none (l.map fE),.fn f bF] [] (.bool (l.any p)):=by
 refine aG (F:=Tryz.f155) c155 rfl rfl rfl mixed rfl fun X=>?_;(conv=>whnf);refine ae.k0 (S7 l hl f bF p hp) ?_;(conv=>whnf);exact ⟨congrArg AV.bool (vP p l),rfl⟩
theorem S9 {H:aj} (hH:jg H) {f:aZ} (hf:lZ H.lex f):jN (bD H f):=by
 have hx:f.ending<H.lex.bO.length:=by rcases hf.ending with h|h<;>omega
 exact Ai (at_:=0) hH hf.entry.1 hf.entry.2 hx
theorem Og (H:aj) (line:List Int) (w:bU) (hH:jg H) (mG:∀ s∈line,0<=s/\s<H.list.aA.length) (hl:line.length<=1048576) (hf:lZ H.lex w.form) (hu:∀ u∈w.ai,u.text.length<=1048576) (gT:w.ai.length<=1048576) :
  ae Tryz.prog 94 [.agg (bu H),.sl 1 none (ints line),.agg (cr w)] [] (.bool (jl H line w)):=by
 have hs:=S9 hH hf;have dw:=hf.bB;have hx:w.form.ending<H.lex.bO.length:=by rcases hf.ending with h|h<;>omega
 have yu:jl H line w=((bI line.length 1 12&&decide (line.length=w.ai.length))&&um H (bD H w.form) w.form.ar line w.ai [fI]):=rfl;refine ae.zd ?_;refine aG (F:=Tryz.f94) c94 rfl rfl rfl mixed rfl fun X=>?_;(conv=>whnf);repeat (refine ae.k0 (within _ _ _) ?_;conv=>whnf)
 refine ⟨fun hq=>?_,fun hq=>?_⟩
 ·have hq:(!bI ((ints line).length:Int) 1 12||!decide (((ints line).length:Int)=((w.ai.map aV).length:Int)))=true:=hq;rw [List.length_map,cg] at hq
  have hz:(bI line.length 1 12&&decide (line.length=w.ai.length))=false:=by
   rw [Bool.or_eq_true,Bool.not_eq_true',Bool.not_eq_true',decide_eq_false_iff_not] at hq;rw [Bool.and_eq_false_iff,decide_eq_false_iff_not];rcases hq with hq|hq
   ·exact .inl hq
   exact .inr (by omega)
  rw [yu,hz];(conv=>whnf);skip;rfl
 have hq:(!bI ((ints line).length:Int) 1 12||!decide (((ints line).length:Int)=((w.ai.map aV).length:Int)))=false:=hq;rw [List.length_map,cg,Bool.or_eq_false_iff,Bool.not_eq_false',Bool.not_eq_false',decide_eq_true_eq] at hq;have a0K:=dY.1 hq.1;have Db:line.length=w.ai.length:=(by omega);have yu:jl H line w=um H (bD H w.form) w.form.ar line w.ai [fI]:=by rw [yu,hq.1,decide_eq_true Db];rfl
 (conv=>whnf);repeat ((first|(refine dg w.form.entry.toNat (by have:=hf.entry;omega) (nZ hf.entry.1 hf.entry.2) ?_)|refine ba (Uu H.lex w.form.entry w.form.ending hH.lex hf.entry.1 hf.entry.2 hx) ?_|refine ⟨_,_,bo.here _,?_⟩|refine ⟨_,_,.here _,aR,?_⟩|refine And.intro (by show aP (aN Tryz.f94 _) _=true;decide +kernel) ?_|intro (nb:Nat));conv=>whnf)
 refine bW rfl mixed [3,5,7,8,48,49,50] [] (fun m r h=>∃ (i:Nat) (st:List bn),r=[(3,[],.au (bu H)),(5,[],.au (cr w)),(7,[],.au [.au (ou (bD H w.form))]),(8,[],.sl 6 none (st.map fE)),(48,[],.sl 1 none (ints line)),(49,[],.int .i64 (ints line).length),(50,[],.int .i64 i)]/\h=[]/\m=line.length - i/\i<=line.length/\(∀ q∈st,jP (bD H w.form) q)/\kz st<=1000/\jl H line w=um H (bD H w.form) w.form.ar (line.drop i) (w.ai.drop i) st) ?_ ?_
 ·(conv=>whnf);exact ⟨_,_,ao.sF (.cons (ag.refl _) (.cons (ag.refl _) (.cons (ag.refl _) (.cons (ag.nT (.cons (.cons (ag.refl _) (.cons (ag.refl _) (.cons (ag.refl _) (.cons (ag.nil (by decide)) (.cons (ag.refl _) (.cons (ag.refl _) .nil)))))) .nil)) (jQ.refl _))))),_,0,[fI],rfl,rfl,rfl,by omega,fun q hq=>by cases List.mem_singleton.1 hq;exact An _,by decide,yu⟩
 rintro m r h' ⟨i,st,rfl,rfl,rfl,hi,aF,QH,hg⟩;have eu:=MV st;(conv=>whnf);refine ⟨fun aD=>?_,fun aD=>?_⟩<;>simp at aD
 ·obtain ⟨n,hn⟩:=aL aD;obtain ⟨u,dA⟩:=aL (l:=w.ai) (i:=i) (by omega);have sH:=mG n (List.mem_of_getElem? hn);have bd:=hu u (List.mem_of_getElem? dA);have kM:=vg sH.1 sH.2;have zz:=((qA hH.nN).each _ (List.mem_of_getElem? kM)).bB;have bf:=Cn (p:=H.period) ((qA hH.nN).each _ (List.mem_of_getElem? kM));rw [drop_cons hn,drop_cons dA,um] at hg;(conv=>whnf);repeat ((first|refine ix (by assumption) ?_|(refine ba (Mz H n (xn H n) sH.1 kM (by omega)) ?_)|(refine ba (I4 (oR H.period (xn H n)) u (by unfold aw;omega)) ?_)|refine And.intro (by show aP (aN Tryz.f94 _) _=true;decide +kernel) ?_);conv=>whnf)
  refine ⟨fun hq=>?_,fun hq=>?_⟩
  ·have hq:(!((gn H n).any (pI u)))=true:=hq;rw [Bool.not_eq_true'] at hq;rw [hg,hq];(conv=>whnf);skip;rfl
  have hq:(!((gn H n).any (pI u)))=false:=hq;rw [Bool.not_eq_false'] at hq;rw [hq,Bool.true_and] at hg;have kV:iu u:=by rw [List.any_eq_true] at hq;obtain ⟨x,hx,CG⟩:=hq;rw [AF,decide_eq_true_eq] at CG;subst CG;exact bf.2 _ hx
  (conv=>whnf);skip;refine bW rfl mixed [3,5,7,9,11,48,49,50,65,66,67] [] (fun m r h=>∃ (k:Nat) (v:AV) (hp:af),r=[(3,[],.au (bu H)),(5,[],.au (cr w)),(7,[],.au [.au (ou (bD H w.form))]),(9,[],.int .i64 i),(11,[],v),(48,[],.sl 1 none (ints line)),(49,[],.int .i64 (ints line).length),(50,[],.int .i64 i),(65,[],.sl 6 none (st.map fE)),(66,[],.int .i64 (st.map fE).length),(67,[],.int .i64 k)]/\h=hp/\m=st.length - k/\k<=st.length/\Out 6 fE ((st.take k).flatMap fun p=>aX (bD H w.form) p u) v hp) ?_ ?_
  ·(conv=>whnf);exact ⟨_,_,ao.refl _ _,_,0,_,_,rfl,rfl,rfl,by omega,.inl ⟨rfl,rfl,rfl⟩⟩
  rintro m r h' ⟨k,v,hp,rfl,rfl,rfl,hk,ho⟩;(conv=>whnf);refine ⟨fun bw=>?_,fun bw=>?_⟩<;>simp at bw
  ·obtain ⟨p,aY⟩:=aL bw;have T0:=aF p (List.mem_of_getElem? aY);have cj:((st.take (k+1)).flatMap fun p=>aX (bD H w.form) p u)=((st.take k).flatMap fun p=>aX (bD H w.form) p u)++aX (bD H w.form) p u:=(by rw [dj aY,List.flatMap_append,List.flatMap_singleton]);have gm:=Ce hs p u
   have dP:((st.take k).flatMap fun p=>aX (bD H w.form) p u).length<=1000:=by
    have h1:=MV ((st.take k).flatMap fun p=>aX (bD H w.form) p u);have h2:=MW hs u (st.take k);have h3:kz (st.take k)<=kz st:=by have:=MU (st.take k) (st.drop k);rw [List.take_append_drop] at this;omega
    omega
   rcases ho with ⟨he,rfl,rfl⟩|⟨q,rfl,rfl⟩
   all_goals
    (conv=>whnf);repeat ((first|refine ⟨ah ⟨by omega,by omega⟩,?_⟩|refine ix (by assumption) ?_|(refine ba (Uc (bD H w.form) p u hs T0 (by omega)) ?_)|(refine ⟨(by first|(simp;done)|(simp;unfold aU;omega)),fun q'=>?_⟩)|(refine ⟨(by rw [List.length_append,List.length_map,List.length_map];unfold aU;omega),fun q'=>⟨_,.here _,?_⟩⟩)|refine ⟨_,_,bo.here _,⟨Nat.le_of_ble_eq_true rfl,rfl⟩,?_⟩|refine And.intro (by show aP (aN Tryz.f94 _) _=true;decide +kernel) ?_|intro (nb:Nat));conv=>whnf)
    refine ⟨_,_,ao.refl _ _,_,(by omega),k+1,_,_,rfl,rfl,rfl,by omega,.inr ⟨q',?_,rfl⟩⟩;rw [cj,List.map_append];first|done|rfl|(rw [he];done)|(rw [he];rfl)
  rw [List.take_of_length_le bw] at ho;(conv=>whnf);repeat (refine ⟨ah ⟨by omega,by omega⟩,?_⟩;conv=>whnf)
  refine ⟨_,_,ao.trans (ao.sF (.cons (ag.refl _) (.cons (ag.refl _) (.cons (ag.refl _) (.cons (ho.le (by decide)) (jQ.refl _)))))) (ao.sub (h':=[]) (fun _ _ h=>by cases h) (fun _=>.nil)),_,(by omega),i+1,_,rfl,rfl,rfl,by omega,?_,?_,hg⟩
  ·intro q mX;obtain ⟨p,sS,tm⟩:=List.mem_flatMap.1 mX;exact wE hs (aF p sS) kV q tm
  have:=MW hs u st;omega
 rw [drop_nil aD,um] at hg;rw [hg];(conv=>whnf);repeat (refine ae.k0 (S8 st (by unfold aw;omega) _ _ (fun p=>mO (bD H w.form) p&&decide (p.cl=w.form.ar)) (fun p hp=>S6 (bD H w.form) p w hs (aF p hp) (by unfold aw;omega))) ?_;conv=>whnf)
 intro n t u us h1 h2;cases h1
def fQ (H:aj) (line:List Int) (w:bU):Int:=
 if dX H line≠0 then dX H line else if dZ H.lex w.form≠0 then dZ H.lex w.form else if jl H line w=true then 0 else 51
def vT (H:aj) (line:List Int) (w:bU):Int:=if fQ H line w=0 then gC H w else 0
theorem YH (H:aj) (line:List Int) (w:bU) (hf:dU H) (hl:line.length<=1048576) (hc:w.form.ar.length<=1048576) (hu:∀ u∈w.ai,u.text.length<=1048576) (gT:w.ai.length<=1048576) :
  ae Tryz.prog 70 [.agg (bu H),.sl 1 none (ints line),.agg (cr w)] [] (.aH [.int .i64 (vT H line w),.int .i64 (fQ H line w)]):=by
 refine aG (F:=Tryz.f70) c70 rfl rfl rfl mixed rfl fun X=>?_;(conv=>whnf);repeat (refine ae.k0 (Fy H line hf (by unfold aw;omega)) ?_;conv=>whnf)
 refine ⟨fun h1=>?_,fun h1=>?_⟩<;>simp at h1
 ·have he:fQ H line w=dX H line:=(by rw [fQ,if_pos h1]);(conv=>whnf);skip;exact ⟨by rw [vT,he,if_neg h1],rfl⟩
 have hL:=mS h1;(conv=>whnf);repeat (refine ae.k0 (Cp H.lex w.form hf.lex (by unfold aw;omega)) ?_;conv=>whnf)
 refine ⟨fun h2=>?_,fun h2=>?_⟩<;>simp at h2
 ·have he:fQ H line w=dZ H.lex w.form:=(by rw [fQ,if_neg (by omega),if_pos h2]);(conv=>whnf);skip;exact ⟨by rw [vT,he,if_neg h2],rfl⟩
 have hF:=mn h2;(conv=>whnf);repeat (refine ae.k0 (Og H line w hL.ia hL.aA hl hF hu gT) ?_;conv=>whnf)
 refine ⟨fun h3=>?_,fun h3=>?_⟩<;>simp at h3
 ·have he:fQ H line w=51:=(by rw [fQ,if_neg (by omega),if_neg (by omega),if_neg (by rw [h3];decide)]);(conv=>whnf);skip;exact ⟨by rw [vT,he,if_neg (by decide)],rfl⟩
 have he:fQ H line w=0:=(by rw [fQ,if_neg (by omega),if_neg (by omega),if_pos h3]);(conv=>whnf);repeat (refine ae.k0 (FB H w hf.lex hL.ia (by unfold aw;omega) hF.entry gT) ?_;conv=>whnf)
 exact ⟨by rw [vT,he,if_pos rfl],rfl⟩
end Go.Abs.Wall
namespace Go.Abs.Wall
open Go Go.Abs Go.Proofs
structure Es where
 form:aZ
 part:List UInt8
 done:Int
 all:List UInt8
 closed:Bool
 ai:List ay
def ei (h:Es):List AV:=[.int .i64 h.form.entry,.int .i64 h.form.ending,.sl 1 none (ints h.form.ar),.str h.part,.int .i64 h.done,.str h.all,.bool h.closed,.sl 2 none (h.ai.map aV)]
def nE (s:Sp) (cl:List Int):List UInt8:=match cl.getLast? with
 | some c=>(cQ s.H.lex c).text
 | none=>s.body
def jb (s:Sp) (cl:List Int):Nat:=(da s cl).length - (nE s cl).length
def fG (s:Sp) (f:aZ) (p:bn) (T:List ay):Es:=⟨⟨f.entry,f.ending,p.cl⟩,nE s p.cl,(p.bL.length:Int) - jb s p.cl,p.bL,p.closed,T⟩
theorem Et (s:Sp) (cl:List Int) (c:Int):nE s (cl++[c])=(cQ s.H.lex c).text:=by unfold nE;simp
theorem MX (s:Sp) (cl:List Int):∃ pre,da s cl=pre++nE s cl/\pre.length=jb s cl:=by
 rcases List.eq_nil_or_concat cl with rfl|⟨l,c,bz⟩
 ·refine ⟨[],?_,?_⟩
  ·simp [da,kd,nE]
  simp [jb,da,kd,nE]
 rw [List.concat_eq_append] at bz;subst bz;refine ⟨da s l,?_,?_⟩
 ·rw [Et,BI]
 unfold jb;rw [Et,BI,List.length_append];omega
theorem MY (s:Sp) (cl:List Int) (c:Int):jb s (cl++[c])=(da s cl).length:=by unfold jb;rw [Et,BI,List.length_append];omega
structure vc (s:Sp) (p:bn) (T:List ay):Prop where
 ok:jP s p
 base:jb s p.cl<=p.bL.length
 new:T=[]->p.last.kind=0
 last:T≠[]->T.getLast?=some p.last/\p.last.kind≠0
 bB:T.length<=12
 len:p.last.text.length<=8
theorem vc.part {s:Sp} {p:bn} {T:List ay} (h:vc s p T):kj s p=(nE s p.cl).drop ((p.bL.length:Int) - jb s p.cl).toNat/\(p.bL.length:Int) - jb s p.cl<=(nE s p.cl).length:=by obtain ⟨pre,h1,h2⟩:=MX s p.cl;have h3:=h.base;have h4:=h.ok.bL;rw [h1,List.length_append] at h4;refine ⟨?_,by omega⟩;unfold kj;rw [h1,List.drop_append,List.drop_eq_nil_of_le (by omega),List.nil_append];congr 1;omega
theorem UY {s:Sp} {p:bn} {u:ay} {T:List ay} (hp:vc s p T) (hu:iu u) (he:p.bL.length=(da s p.cl).length):∀ (l:List iT) (c:Int),∀ q∈eW p u l c,jb s q.cl<=q.bL.length/\q.last=u
 | [],_,q,hq=>by cases hq
 | k::t,c,q,hq=>by
   unfold eW at hq;rcases List.mem_append.1 hq with hq|hq
   ·split at hq
    ·cases List.mem_singleton.1 hq
     refine ⟨?_,rfl⟩;show jb s (p.cl++[c])<=(p.bL++u.text).length;rw [MY,List.length_append];omega
    cases hq
   exact UY hp hu he t (c+1) q hq
theorem IE {s:Sp} {p:bn} {u:ay} {T:List ay} (hs:jN s) (hp:vc s p T) (hu:iu u) (hT:T.length<12):∀ q∈aX s p u,vc s q (T++[u]):=by
 intro q hq;have hk:u.kind≠0:=by have:=hu.1;omega
 have bf:=wE hs hp.ok hu q hq
 have key:jb s q.cl<=q.bL.length/\q.last=u:=by
  unfold aX at hq;split at hq
  ·unfold iy at hq;split at hq
   ·split at hq
    ·cases List.mem_singleton.1 hq
     refine ⟨?_,rfl⟩;have:=hp.base;show jb s p.cl<=(p.bL++u.text).length;rw [List.length_append];omega
    cases hq
   rename_i h0;split at hq
   ·refine UY hp hu ?_ _ _ q hq;have h1:=hp.ok.bL;simp only [ne_eq,Decidable.not_not] at h0;unfold kj at h0;rw [List.drop_eq_nil_iff] at h0;omega
   cases hq
  split at hq
  ·split at hq
   ·cases hq
   rename_i hb;cases List.mem_singleton.1 hq
   refine ⟨?_,rfl⟩;rw [Bool.not_eq_true] at hb;unfold tH at hb;simp only [Bool.or_eq_false_iff,Bool.not_eq_false',decide_eq_true_eq] at hb;have:=(hp.ok.new hb.1).1;show jb s p.cl<=_;rw [this];simp [jb,da,kd,nE]
  split at hq
  ·split at hq
   ·cases hq
   cases List.mem_singleton.1 hq
   exact ⟨hp.base,rfl⟩
  split at hq
  ·split at hq
   ·cases hq
   cases List.mem_singleton.1 hq
   exact ⟨hp.base,rfl⟩
  cases hq
 refine ⟨bf,key.1,fun h=>absurd h (by simp),fun _=>⟨by rw [key.2];simp,by rw [key.2];exact hk⟩,by rw [List.length_append,List.length_singleton];omega,by rw [key.2];exact hu.2.2.2⟩
theorem yr (s:Sp):vc s fI []:=⟨An s,by simp [jb,da,kd,nE,fI],fun _=>rfl,fun h=>absurd rfl h,by simp,by simp [fI]⟩
def c240:az:=⟨[0,1,4],[],[],[],[],[]⟩
def c263:az:=⟨[0,1,4],[],[],[],[],[]⟩
def c241:az:=⟨[0,1,2,3,4,5,6,10,11],[],[10],[],[(2,[0,1,3,4,2,5,6,7],[])],[]⟩
def c242:az:=⟨[0,1,2,3,4,5,6,10],[],[5],[],[],[]⟩
def c191:az:=⟨[0,1,2,3,4,5,6,7,8,9,10,11,12,13,14,29,30,33,41,67,88,99,130,142,156,160,173,199],[],[9],[],[(7,[0,1,2,3,4,5,6,7],[]),(17,[0,1,2,3,4,5,6,7,8],[]),(18,[0,1,2,3,4,5,6,7,8,9,10,11,12,13,14,15,16,17,18],[])],[]⟩
def c192:az:=⟨[0,1,2],[],[],[],[],[]⟩
def c190:az:=⟨[0,1,2,3,6,7,19],[],[6],[],[(3,[0,1,2,3,4,5,6,7,8,9,10],[])],[]⟩
theorem MZ (t w:List UInt8) (ht:t.length<=aw) (hw:w.length<=aw):ae Tryz.prog 240 [.str t,.str w] [] (.bool (gu t w)):=by
 unfold aw at ht hw;refine aG (F:=Tryz.f240) c240 rfl rfl rfl mixed rfl fun X=>?_;(conv=>whnf);repeat ((refine And.intro ?_ ?_;(focus ((conv=>whnf);intro g0;have g0:=of_decide_eq_true g0;refine ⟨?_,?_,?_⟩<;>omega)));conv=>whnf)
 exact ⟨rfl,rfl⟩
theorem T1 (t w:List UInt8) (ht:t.length<=aw) (hw:w.length<=aw):ae Tryz.prog 263 [.str t,.str w] [] (.bool (rQ t w)):=by
 unfold aw at ht hw;refine aG (F:=Tryz.f263) c263 rfl rfl rfl mixed rfl fun X=>?_;(conv=>whnf);repeat ((first|refine ⟨ah ⟨by omega,by omega⟩,?_⟩|(refine And.intro ?_ ?_;(focus ((conv=>whnf);intro g0;have g0:=of_decide_eq_true g0;refine ⟨?_,?_,?_⟩<;>omega))));conv=>whnf)
 refine ⟨congrArg AV.bool ?_,rfl⟩;unfold rQ;rw [show (t.length:Int).toNat=t.length from rfl,List.take_length,show ((t.length:Int) - w.length).toNat=t.length - w.length by omega]
theorem BM (h:Es) (u:ay) (part all:List UInt8) (d:Int) (hu:h.ai.length<=1048576) :
  ae Tryz.prog 241 [.agg (ei h),.agg (aV u),.str part,.int .i64 d,.str all] [] (.agg (ei ⟨h.form,part,d,all,h.closed,h.ai++[u]⟩)):=by
 refine ae.of (aG (F:=Tryz.f241) c241 rfl rfl rfl mixed rfl fun X=>?_);(conv=>whnf);intro b1;(conv=>whnf);intro b2;(conv=>whnf);repeat ((first|(refine ⟨(by simp;unfold aU;omega),fun q=>?_⟩)|(refine ⟨_,.here _,?_⟩)|(refine ⟨_,_,.there (.here _),aR,?_⟩)|(refine ⟨_,_,bo.there (.there (.here _)),⟨Nat.le_of_ble_eq_true rfl,rfl⟩,?_⟩)|refine ⟨_,_,.tail _ (.head _),rfl,?_⟩|refine ⟨_,_,.here _,aR,?_⟩|refine And.intro (by show aP (aN Tryz.f241 _) _=true;decide +kernel) ?_);conv=>whnf)
 refine (show ag (.agg [.int .i64 h.form.entry,.int .i64 h.form.ending,.sl 1 none (ints h.form.ar),.str part,.int .i64 d,.str all,.bool h.closed,.sl 2 (some q) (h.ai.map aV++[aV u])]) (.agg (ei ⟨h.form,part,d,all,h.closed,h.ai++[u]⟩)) from ?_);refine ag.agg (.cons (ag.refl _) (.cons (ag.refl _) (.cons (ag.refl _) (.cons (ag.refl _) (.cons (ag.refl _) (.cons (ag.refl _) (.cons (ag.refl _) (.cons ?_ .nil))))))));show ag _ (.sl 2 none ((h.ai++[u]).map aV));rw [List.map_append];exact ag.sl
theorem T2 (h:Es) (u:ay) (l:ay) (hl:h.ai.getLast?=some l) (hu:h.ai.length<=1048576) (ha:h.all.length<=aw) (Au:u.text.length<=aw) (aI:l.text.length<=aw) :
  ae Tryz.prog 242 [.agg (ei h),.agg (aV u)] [] (.bool ((decide (l.kind=2)||(decide (l.kind=1)&&decide (2<=(l.text.length:Int))))&&decide ((u.text.length:Int)<=l.text.length)&&rQ h.all u.text)):=by
 have aJ:h.ai≠[]:=by intro e;rw [e] at hl;cases hl
 have hlen:0<h.ai.length:=List.length_pos_iff.2 aJ;have hg:h.ai[h.ai.length - 1]?=some l:=(by rw [<- hl,List.getLast?_eq_getElem?]);refine aG (F:=Tryz.f242) c242 rfl rfl rfl mixed rfl fun X=>?_;(conv=>whnf);skip;refine cF (by simp;omega) ?_;(conv=>whnf);repeat ((first|(refine dg (h.ai.length - 1) (by simp;omega) hg ?_)|refine ba (T1 h.all u.text ha Au) ?_|(refine ⟨ah ⟨by simp;omega,by simp;omega⟩,?_⟩)|refine ⟨_,_,bo.here _,⟨Nat.le_of_ble_eq_true rfl,rfl⟩,?_⟩|intro (nb:Nat));conv=>whnf)
 exact ⟨rfl,rfl⟩
theorem T3 (h:Es) (u:ay) (hl:h.ai=[]) :
  ae Tryz.prog 242 [.agg (ei h),.agg (aV u)] [] (.bool false):=by
 refine aG (F:=Tryz.f242) c242 rfl rfl rfl mixed rfl fun X=>?_;(conv=>whnf);skip;refine cT (by rw [hl];rfl) ?_;(conv=>whnf);exact ⟨rfl,rfl⟩
theorem ag.one {k:Nat} {t:Option Nat} {x y:List AV} (h:cW x y):ag (.sl k t [x]) (.sl k none [y]):=by refine fun c u hu=>ag.sl c u (ag.nT (.cons h .nil) c u hu)
theorem T4 {t w:List UInt8} {d:Int}:gu ((t.take (t.length:Int).toNat).drop d.toNat) w=gu (t.drop d.toNat) w:=by rw [show (t.length:Int).toNat=t.length from rfl,List.take_length]
set_option maxHeartbeats 1000000 in
theorem IF (s:Sp) (f:aZ) (p:bn) (T:List ay) (u:ay) (hs:jN s) (hp:vc s p T) (hu:iu u) (he:s.e=bZ s.H.lex f.entry) (hf:0<=f.entry/\f.entry<s.H.lex.entries.length) :
  ae Tryz.prog 191 [.agg (fq s.H.lex),.agg (ei (fG s f p T)),.agg (aV u)] [] (.sl 8 none ((aX s p u).map fun q=>ei (fG s f q (T++[u])))):=by
 have hb:=hs.body;have dw:=hp.ok.bB;have dG:=hp.ok.bL;have wi:=hs.da hp.ok.ed;have Au:=hu.2.2;obtain ⟨z,hh⟩:∃ z,z=fG s f p T:=⟨_,rfl⟩;rw [<- hh];have e1:z.form.entry=f.entry:=by rw [hh];rfl
 have e3:z.form.ar=p.cl:=by rw [hh];rfl
 have e4:z.part=nE s p.cl:=by rw [hh];rfl
 have e5:z.done=(p.bL.length:Int) - jb s p.cl:=by rw [hh];rfl
 have e6:z.all=p.bL:=by rw [hh];rfl
 have e7:z.closed=p.closed:=by rw [hh];rfl
 have e8:z.ai=T:=by rw [hh];rfl
 have fH:z.ai.length<=1048576:=by have:=hp.bB;rw [e8];omega
 have gT:u.text.length<=aw:=by unfold aw;omega
 have eP:(z.all++u.text).length<=aw:=by rw [e6,List.length_append];unfold aw;omega
 have Ub:=hs.lex.many.2.2;obtain ⟨Ig,T5⟩:=hp.part;rw [<- e4,<- e5] at Ig T5;have a0L:=hp.base;have hlp:z.part.length<=24:=by obtain ⟨pre,h1,h2⟩:=MX s p.cl;have:=congrArg List.length h1;rw [List.length_append] at this;rw [e4];omega
 refine ae.of (aG (F:=Tryz.f191) c191 rfl rfl rfl mixed rfl fun X=>?_);(conv=>whnf);repeat ((first|(refine dg f.entry.toNat (by omega) (nZ hf.1 hf.2) ?_)|(intro (b9:Nat))|refine ⟨_,_,bo.here _,⟨Nat.le_of_ble_eq_true rfl,rfl⟩,?_⟩);conv=>whnf)
 rcases (show u.kind=1\/u.kind=2\/u.kind=3\/u.kind=4 by have:=hu.1;have:=hu.2.1;omega) with hk|hk|hk|hk
 ·refine cT (by simp [hk]) ?_;have na:aX s p u=iy s p u:=(by rw [aX,if_pos hk]);(conv=>whnf);skip;refine ⟨fun hw=>?_,fun hw=>?_⟩
  ·have hw:(!decide (z.done=(z.part.length:Int)))=true:=hw;rw [Bool.not_eq_true',decide_eq_false_iff_not] at hw;have hc:kj s p≠[]:=by rw [Ig,ne_eq,List.drop_eq_nil_iff];omega
   have hm:aX s p u=if gu (kj s p) u.text=true then [⟨p.bL++u.text,p.closed,p.cl,u⟩] else []:=(by rw [na,iy,if_pos hc]);have pP:=MZ ((z.part.take (z.part.length:Int).toNat).drop z.done.toNat) u.text (by simp;unfold aw;omega) gT;rw [T4,<- Ig] at pP;(conv=>whnf);repeat ((first|refine ⟨ah ⟨by omega,by omega⟩,?_⟩|(refine ba pP ?_)|refine And.intro (by show aP (aN Tryz.f191 _) _=true;decide +kernel) ?_);conv=>whnf)
   refine ⟨fun hq=>?_,fun hq=>?_⟩
   ·have hq:gu (kj s p) u.text=true:=hq;rw [hm,if_pos hq];(conv=>whnf);repeat ((first|refine ⟨ah ⟨by omega,by omega⟩,?_⟩|refine ae.k0 (BM z u z.part (z.all++u.text) (z.done+(u.text.length:Int)) fH) ?_|(refine ⟨ah eP,?_⟩)|(refine ⟨Nat.le_of_ble_eq_true rfl,fun q3=>?_⟩));conv=>whnf)
    refine ag.one ?_;rw [hh];unfold ei fG;simp only [List.length_append];rw [show (((p.bL.length+u.text.length:Nat):Int) - (jb s p.cl:Int))=(p.bL.length:Int) - jb s p.cl+u.text.length by omega];exact cW.refl _
   have hq:gu (kj s p) u.text=false:=hq;rw [hm,if_neg (by rw [hq];decide)];(conv=>whnf);skip;exact ag.nil (by decide)
  have hw:(!decide (z.done=(z.part.length:Int)))=false:=hw;rw [Bool.not_eq_false',decide_eq_true_eq] at hw;have hc:kj s p=[]:=by rw [Ig,List.drop_eq_nil_iff];omega
  have aF:p.bL.length=(da s p.cl).length:=by unfold kj at hc;rw [List.drop_eq_nil_iff] at hc;omega
  have hm:aX s p u=if p.cl.length<3 then eW p u (s.H.lex.ar.drop (fp p.cl).toNat) (fp p.cl) else []:=(by rw [na,iy,if_neg (by simpa using hc)]);have iU:=Ga hp.ok;(conv=>whnf);skip;refine ⟨fun hn=>?_,fun hn=>?_⟩
  ·have hn:decide (0<((ints z.form.ar).length:Int))=true:=hn;rw [e3] at hn;simp at hn;obtain ⟨c,bz⟩:=aL (l:=z.form.ar) (i:=z.form.ar.length - 1) (by rw [e3];omega);have Na:c+1=fp p.cl:=by unfold fp;rw [<- e3,List.getLast?_eq_getElem?,bz]
   (conv=>whnf);repeat ((first|refine ⟨ah ⟨by omega,by omega⟩,?_⟩|(refine dg (z.form.ar.length - 1) (by rw [cg,e3];omega) bz ?_)|(refine ⟨ah ⟨by rw [cg,e3];omega,by rw [cg,e3];omega⟩,?_⟩));conv=>whnf)
   refine bW rfl mixed [3,4,5,7,12] [] (fun m r h=>∃ (c:Int) (o:List bn) (v:AV) (fP:af),r=[(3,[],.au (fq s.H.lex)),(4,[],.au (ei z)),(5,[],.au (aV u)),(7,[],v),(12,[],.int .i64 c)]/\h=fP/\m=(s.H.lex.ar.length - c).toNat/\0<=c/\c<=s.H.lex.ar.length/\Out 8 (fun q=>ei (fG s f q (T++[u]))) o v fP/\o.length<=c/\aX s p u=o++(if p.cl.length<3 then eW p u (s.H.lex.ar.drop c.toNat) c else [])) ?_ ?_
   ·(conv=>whnf);exact ⟨_,_,ao.refl _ _,_,fp p.cl,[],_,[],by rw [<- Na],rfl,rfl,iU.1,iU.2,.inl ⟨rfl,rfl,rfl⟩,by simpa using iU.1,by rw [hm];rfl⟩
   rintro m r h' ⟨c,o,v,fP,rfl,rfl,rfl,kY,zH,hv,mW,cG⟩;have jC:o.length+1<=aU:=by have:=hs.lex.many;unfold aU;omega
   (conv=>whnf);skip;refine ⟨fun aD=>?_,fun aD=>?_⟩
   ·have de:c<s.H.lex.ar.length/\p.cl.length<3:=by
     have aD:(decide (c<((s.H.lex.ar.map ib).length:Int))&&decide (((ints z.form.ar).length:Int)<3))=true:=aD;rw [e3] at aD;simp at aD;exact ⟨aD.1,by omega⟩
    have uF:=np (hs.lex.cQ kY de.1).text;have bz:(cQ s.H.lex c).text.length<=aw:=by unfold aw;omega
    rw [if_pos de.2,drop_cons (ll kY de.1),eW,show ((c.toNat:Nat)+1)=(c+1).toNat by omega] at cG;(conv=>whnf);repeat ((first|(refine dg c.toNat (by omega) (ll kY de.1) ?_)|refine ba (MZ (cQ s.H.lex c).text u.text bz gT) ?_|refine And.intro (by show aP (aN Tryz.f191 _) _=true;decide +kernel) ?_);conv=>whnf)
    refine ⟨fun hq=>?_,fun hq=>?_⟩
    ·have hq:gu (cQ s.H.lex c).text u.text=true:=hq;rw [if_pos hq] at cG;obtain ⟨qn,Eu⟩:∃ q:bn,q=⟨p.bL++u.text,p.closed,p.cl++[c],u⟩:=⟨_,rfl⟩;rw [<- Eu] at cG;have ju:ei (fG s f qn (T++[u]))=[.int .i64 z.form.entry,.int .i64 z.form.ending,.sl 1 none (ints (p.cl++[c])),.str (cQ s.H.lex c).text,.int .i64 u.text.length,.str (z.all++u.text),.bool z.closed,.sl 2 none ((z.ai++[u]).map aV)]:=by rw [Eu,hh];unfold ei fG;simp only [Et,MY,List.length_append];rw [show (((p.bL.length+u.text.length:Nat):Int) - ((da s p.cl).length:Int))=(u.text.length:Int) by omega]
     have hle:∀ t,cW [.int .i64 z.form.entry,.int .i64 z.form.ending,.sl 1 t (ints z.form.ar++[[.int .i64 c]]),.str (cQ s.H.lex c).text,.int .i64 u.text.length,.str (z.all++u.text),.bool z.closed,.sl 2 none ((z.ai++[u]).map aV)] (ei (fG s f qn (T++[u]))):=fun t=>by rw [ju,e3];exact .cons (ag.refl _) (.cons (ag.refl _) (.cons uO (cW.refl _)))
     rcases hv with ⟨Nb,rfl,rfl⟩|⟨qv,rfl,rfl⟩
     all_goals
      (conv=>whnf);repeat ((first|refine ⟨ah ⟨by omega,by omega⟩,?_⟩|(refine dg c.toNat (by omega) (ll kY de.1) ?_)|refine ba (BM z u (cQ s.H.lex c).text (z.all++u.text) (u.text.length:Int) fH) ?_|(refine ⟨ah eP,?_⟩)|(intro (T6:Nat))|(refine ⟨(by rw [e3];simp;unfold aU;omega),fun q3=>?_⟩)|(refine ⟨_,.here _,?_⟩)|(refine ⟨_,.there (.there (.here _)),?_⟩)|refine ⟨_,_,.tail _ (.head _),rfl,?_⟩|refine ⟨_,_,.here _,aR,?_⟩|refine ⟨_,_,.there (.here _),aR,?_⟩|refine And.intro (by show aP (aN Tryz.f191 _) _=true;decide +kernel) ?_);conv=>whnf)
      refine ⟨[(3,[],.au (fq s.H.lex)),(4,[],.au (ei z)),(5,[],.au (aV u)),(7,[],.sl 8 (some q3) ((o++[qn]).map fun q=>ei (fG s f q (T++[u])))),(12,[],.int .i64 (c+1))],[(q3,.tok)],?_,_,(by omega),c+1,_,_,[(q3,.tok)],rfl,rfl,rfl,by omega,by omega,.inr ⟨_,rfl,rfl⟩,by simp;omega,by rw [if_pos de.2,cG,List.append_assoc]⟩;refine ao.one (.cons (ag.refl _) (.cons (ag.refl _) (.cons (ag.refl _) (.cons ?_ (jQ.refl _))))) (by simp)
      first
       | (rw [Nb];exact ag.nT (.cons (hle _) .nil))
       | (rw [List.map_append (f:=fun q=>ei (fG s f q (T++[u])))];exact ag.nT (iR.snoc (hle _)))
    have hq:gu (cQ s.H.lex c).text u.text=false:=hq;rw [if_neg (by rw [hq];decide),List.nil_append] at cG;(conv=>whnf);repeat (refine ⟨ah ⟨by omega,by omega⟩,?_⟩;conv=>whnf)
    exact ⟨_,_,ao.refl _ _,_,(by omega),c+1,o,_,_,rfl,rfl,rfl,by omega,by omega,hv,by omega,by rw [if_pos de.2];exact cG⟩
   have zX:aX s p u=o:=by
    rw [cG];have aD:(decide (c<((s.H.lex.ar.map ib).length:Int))&&decide (((ints z.form.ar).length:Int)<3))=false:=aD;rw [e3] at aD;simp at aD;split
    ·rename_i h3;rw [drop_nil (by omega)];simp [eW]
    simp
   rw [zX];(conv=>whnf);skip;exact hv.le (by decide)
  have hn:decide (0<((ints z.form.ar).length:Int))=false:=hn;rw [e3] at hn;simp at hn;have Na:(-1:Int)+1=fp p.cl:=by rw [hn];rfl
  (conv=>whnf);repeat (refine ⟨ah ⟨by omega,by omega⟩,?_⟩;conv=>whnf)
  refine bW rfl mixed [3,4,5,7,12] [] (fun m r h=>∃ (c:Int) (o:List bn) (v:AV) (fP:af),r=[(3,[],.au (fq s.H.lex)),(4,[],.au (ei z)),(5,[],.au (aV u)),(7,[],v),(12,[],.int .i64 c)]/\h=fP/\m=(s.H.lex.ar.length - c).toNat/\0<=c/\c<=s.H.lex.ar.length/\Out 8 (fun q=>ei (fG s f q (T++[u]))) o v fP/\o.length<=c/\aX s p u=o++(if p.cl.length<3 then eW p u (s.H.lex.ar.drop c.toNat) c else [])) ?_ ?_
  ·(conv=>whnf);exact ⟨_,_,ao.refl _ _,_,fp p.cl,[],_,[],by rw [<- Na],rfl,rfl,iU.1,iU.2,.inl ⟨rfl,rfl,rfl⟩,by simpa using iU.1,by rw [hm];rfl⟩
  rintro m r h' ⟨c,o,v,fP,rfl,rfl,rfl,kY,zH,hv,mW,cG⟩;have jC:o.length+1<=aU:=by have:=hs.lex.many;unfold aU;omega
  (conv=>whnf);skip;refine ⟨fun aD=>?_,fun aD=>?_⟩
  ·have de:c<s.H.lex.ar.length/\p.cl.length<3:=by
    have aD:(decide (c<((s.H.lex.ar.map ib).length:Int))&&decide (((ints z.form.ar).length:Int)<3))=true:=aD;rw [e3] at aD;simp at aD;exact ⟨aD.1,by omega⟩
   have uF:=np (hs.lex.cQ kY de.1).text;have bz:(cQ s.H.lex c).text.length<=aw:=by unfold aw;omega
   rw [if_pos de.2,drop_cons (ll kY de.1),eW,show ((c.toNat:Nat)+1)=(c+1).toNat by omega] at cG;(conv=>whnf);repeat ((first|(refine dg c.toNat (by omega) (ll kY de.1) ?_)|refine ba (MZ (cQ s.H.lex c).text u.text bz gT) ?_|refine And.intro (by show aP (aN Tryz.f191 _) _=true;decide +kernel) ?_);conv=>whnf)
   refine ⟨fun hq=>?_,fun hq=>?_⟩
   ·have hq:gu (cQ s.H.lex c).text u.text=true:=hq;rw [if_pos hq] at cG;obtain ⟨qn,Eu⟩:∃ q:bn,q=⟨p.bL++u.text,p.closed,p.cl++[c],u⟩:=⟨_,rfl⟩;rw [<- Eu] at cG;have ju:ei (fG s f qn (T++[u]))=[.int .i64 z.form.entry,.int .i64 z.form.ending,.sl 1 none (ints (p.cl++[c])),.str (cQ s.H.lex c).text,.int .i64 u.text.length,.str (z.all++u.text),.bool z.closed,.sl 2 none ((z.ai++[u]).map aV)]:=by rw [Eu,hh];unfold ei fG;simp only [Et,MY,List.length_append];rw [show (((p.bL.length+u.text.length:Nat):Int) - ((da s p.cl).length:Int))=(u.text.length:Int) by omega]
    have hle:∀ t,cW [.int .i64 z.form.entry,.int .i64 z.form.ending,.sl 1 t (ints z.form.ar++[[.int .i64 c]]),.str (cQ s.H.lex c).text,.int .i64 u.text.length,.str (z.all++u.text),.bool z.closed,.sl 2 none ((z.ai++[u]).map aV)] (ei (fG s f qn (T++[u]))):=fun t=>by rw [ju,e3];exact .cons (ag.refl _) (.cons (ag.refl _) (.cons uO (cW.refl _)))
    rcases hv with ⟨Nb,rfl,rfl⟩|⟨qv,rfl,rfl⟩
    all_goals
     (conv=>whnf);repeat ((first|refine ⟨ah ⟨by omega,by omega⟩,?_⟩|(refine dg c.toNat (by omega) (ll kY de.1) ?_)|refine ba (BM z u (cQ s.H.lex c).text (z.all++u.text) (u.text.length:Int) fH) ?_|(refine ⟨ah eP,?_⟩)|(intro (T6:Nat))|(refine ⟨(by rw [e3];simp;unfold aU;omega),fun q3=>?_⟩)|(refine ⟨_,.here _,?_⟩)|(refine ⟨_,.there (.there (.here _)),?_⟩)|refine ⟨_,_,.tail _ (.head _),rfl,?_⟩|refine ⟨_,_,.here _,aR,?_⟩|refine ⟨_,_,.there (.here _),aR,?_⟩|refine And.intro (by show aP (aN Tryz.f191 _) _=true;decide +kernel) ?_);conv=>whnf)
     refine ⟨[(3,[],.au (fq s.H.lex)),(4,[],.au (ei z)),(5,[],.au (aV u)),(7,[],.sl 8 (some q3) ((o++[qn]).map fun q=>ei (fG s f q (T++[u])))),(12,[],.int .i64 (c+1))],[(q3,.tok)],?_,_,(by omega),c+1,_,_,[(q3,.tok)],rfl,rfl,rfl,by omega,by omega,.inr ⟨_,rfl,rfl⟩,by simp;omega,by rw [if_pos de.2,cG,List.append_assoc]⟩;refine ao.one (.cons (ag.refl _) (.cons (ag.refl _) (.cons (ag.refl _) (.cons ?_ (jQ.refl _))))) (by simp)
     first
      | (rw [Nb];exact ag.nT (.cons (hle _) .nil))
      | (rw [List.map_append (f:=fun q=>ei (fG s f q (T++[u])))];exact ag.nT (iR.snoc (hle _)))
   have hq:gu (cQ s.H.lex c).text u.text=false:=hq;rw [if_neg (by rw [hq];decide),List.nil_append] at cG;(conv=>whnf);repeat (refine ⟨ah ⟨by omega,by omega⟩,?_⟩;conv=>whnf)
   exact ⟨_,_,ao.refl _ _,_,(by omega),c+1,o,_,_,rfl,rfl,rfl,by omega,by omega,hv,by omega,by rw [if_pos de.2];exact cG⟩
  have zX:aX s p u=o:=by
   rw [cG];have aD:(decide (c<((s.H.lex.ar.map ib).length:Int))&&decide (((ints z.form.ar).length:Int)<3))=false:=aD;rw [e3] at aD;simp at aD;split
   ·rename_i h3;rw [drop_nil (by omega)];simp [eW]
   simp
  rw [zX];(conv=>whnf);skip;exact hv.le (by decide)
 ·refine cF (by simp [hk]) ?_;have na:aX s p u=if tH s p u=true then [] else [⟨u.text,p.closed,p.cl,u⟩]:=by rw [aX,if_neg (by omega),if_pos hk]
  have hz:(decide (((z.ai.map aV).length:Int)=0)&&decide (u.text=(bZ s.H.lex f.entry).root))=!tH s p u:=by
   unfold tH;rw [<- he,Bool.not_or,Bool.not_not,Bool.not_not,List.length_map,e8];congr 1;rw [decide_eq_decide];refine ⟨fun h=>hp.new (List.eq_nil_of_length_eq_zero (by omega)),fun h=>?_⟩;by_cases hT:T=[]
   ·rw [hT];rfl
   exact absurd h (hp.last hT).2
  (conv=>whnf);skip;refine cT (by simp [hk]) ?_;(conv=>whnf);skip;refine ⟨fun hq=>?_,fun hq=>?_⟩
  ·have hq:=hz.symm.trans hq;rw [Bool.not_eq_true'] at hq;rw [na,if_neg (by rw [hq];decide)];have dF:p.last.kind=0:=by unfold tH at hq;simp only [Bool.or_eq_false_iff,Bool.not_eq_false',decide_eq_true_eq] at hq;exact hq.1
   have T7:=(hp.ok.new dF).1;(conv=>whnf);repeat ((first|refine ae.k0 (BM z u z.part u.text (u.text.length:Int) fH) ?_|(refine ⟨Nat.le_of_ble_eq_true rfl,fun q3=>?_⟩));conv=>whnf)
   refine ag.one ?_;rw [hh];unfold ei fG;simp only;rw [show (u.text.length:Int) - (jb s p.cl:Int)=u.text.length by rw [T7];simp [jb,da,kd,nE]];exact cW.refl _
  have hq:=hz.symm.trans hq;rw [Bool.not_eq_false'] at hq;rw [na,if_pos hq];(conv=>whnf);skip;exact ag.nil (by decide)
 ·refine cF (by simp [hk]) ?_;have na:aX s p u=if qd p u=true then [] else [⟨p.bL,p.closed,p.cl,u⟩]:=by rw [aX,if_neg (by omega),if_neg (by omega),if_pos hk]
  have lU:ae Tryz.prog 242 [.agg (ei z),.agg (aV u)] [] (.bool (!qd p u)):=by
   by_cases hT:T=[]
   ·have dF:=hp.new hT;have:qd p u=true:=by unfold qd zG;rw [dF];rfl
    rw [this];exact T3 z u (by rw [e8,hT])
   obtain ⟨h1,h2⟩:=hp.last hT;have:=T2 z u p.last (by rw [e8];exact h1) fH (by rw [e6];unfold aw;omega) gT (by have:=hp.len;unfold aw;omega);rw [e6] at this;have hz:((decide (p.last.kind=2)||(decide (p.last.kind=1)&&decide (2<=(p.last.text.length:Int))))&&decide ((u.text.length:Int)<=p.last.text.length)&&rQ p.bL u.text)=!qd p u:=by unfold qd zG;rw [Bool.not_or,Bool.not_or,Bool.not_not,Bool.not_not];congr 2;rw [Bool.eq_iff_iff];simp
   rw [hz] at this;exact this
  (conv=>whnf);skip;refine cF (by simp [hk]) ?_;(conv=>whnf);skip;refine cT (by simp [hk]) ?_;(conv=>whnf);repeat ((refine ae.k0 lU ?_);conv=>whnf)
  refine ⟨fun hq=>?_,fun hq=>?_⟩
  ·have hq:(!qd p u)=true:=hq;rw [Bool.not_eq_true'] at hq;rw [na,if_neg (by rw [hq];decide)];(conv=>whnf);repeat ((first|refine ae.k0 (BM z u z.part z.all z.done fH) ?_|(refine ⟨Nat.le_of_ble_eq_true rfl,fun q3=>?_⟩));conv=>whnf)
   refine ag.one ?_;rw [hh];exact cW.refl _
  have hq:(!qd p u)=false:=hq;rw [Bool.not_eq_false'] at hq;rw [na,if_pos hq];(conv=>whnf);skip;exact ag.nil (by decide)
 refine cF (by simp [hk]) ?_;have na:aX s p u=if vZ s p u=true then [] else [⟨p.bL,true,p.cl,u⟩]:=by rw [aX,if_neg (by omega),if_neg (by omega),if_neg (by omega),if_pos hk]
 have hz:(decide (z.done=(z.part.length:Int))&&decide (((ints z.form.ar).length:Int)=0)&&!z.closed&&!decide ((bZ s.H.lex f.entry).cls=[])&&decide (u.text=(bZ s.H.lex f.entry).cls))=!vZ s p u:=by
  unfold vZ;rw [<- he,e3,e4,e5,e7,cg];by_cases bz:p.cl=[]
  ·have h1:((p.bL.length:Int) - jb s p.cl=((nE s p.cl).length:Int))↔((p.bL.length:Int)=s.body.length):=by
    rw [bz];simp [jb,da,kd,nE]
   rw [decide_eq_decide.2 h1,bz];cases p.closed<;>cases decide (s.e.cls=[])<;>cases decide (u.text=s.e.cls)<;>cases decide ((p.bL.length:Int)=s.body.length)<;>rfl
  have h1:0<p.cl.length:=List.length_pos_iff.2 bz;rw [decide_eq_false (show ¬ ((p.cl.length:Int)=0) by omega),decide_eq_true (show (0:Int)<p.cl.length by omega)];simp
 (conv=>whnf);skip;refine cF (by simp [hk]) ?_;(conv=>whnf);skip;refine cF (by simp [hk]) ?_;(conv=>whnf);skip;refine cT (by simp [hk]) ?_;(conv=>whnf);skip;refine ⟨fun hq=>?_,fun hq=>?_⟩
 ·have hq:=hz.symm.trans hq;rw [Bool.not_eq_true'] at hq;rw [na,if_neg (by rw [hq];decide)];(conv=>whnf);repeat ((first|refine ae.k0 (BM z u z.part z.all z.done fH) ?_|(refine ⟨Nat.le_of_ble_eq_true rfl,fun q3=>?_⟩)|(intro (bt:Nat))|refine ⟨_,_,.head _,rfl,?_⟩|refine ⟨_,_,.here _,aR,?_⟩);conv=>whnf)
  refine ag.one (x:=[.int .i64 z.form.entry,.int .i64 z.form.ending,.sl 1 none (ints z.form.ar),.str z.part,.int .i64 z.done,.str z.all,.bool true,.sl 2 none ((z.ai++[u]).map aV)]) ?_;rw [hh];exact cW.refl _
 have hq:=hz.symm.trans hq;rw [Bool.not_eq_false'] at hq;rw [na,if_pos hq];(conv=>whnf);skip;exact ag.nil (by decide)
end Go.Abs.Wall
namespace Go.Abs.Wall
open Go Go.Abs Go.Proofs
def c132:az:=⟨[0,1,2,3,4,5,7,8,31,39,40,47,54,61,68],[],[],[],[],[]⟩
theorem Vw (s:Sp) (f:aZ) (p:bn) (T:List ay) (hp:vc s p T):ae Tryz.prog 192 [.agg (ei (fG s f p T))] [] (.bool (mO s p&&decide (0<(T.length:Int)))):=by refine aG (F:=Tryz.f192) c192 rfl rfl rfl mixed rfl fun X=>?_;(conv=>whnf);skip;refine ⟨congrArg AV.bool ?_,rfl⟩;show (decide ((p.bL.length:Int) - jb s p.cl=((nE s p.cl).length:Int))&&decide (0<((T.map aV).length:Int)))=_;rw [List.length_map];congr 1;unfold mO;rw [decide_eq_decide];obtain ⟨pre,h1,h2⟩:=MX s p.cl;have h3:=congrArg List.length h1;rw [List.length_append] at h3;have h4:=hp.base;omega
theorem VC (H:aj) (f:aZ) (hx:qh H.lex) (hf:0<=f.entry/\f.entry<H.lex.entries.length) (hn:f.ending<H.lex.bO.length) (bz:True) :
  ae Tryz.prog 190 [.agg (fq H.lex),.int .i64 f.entry,.int .i64 f.ending] [] (.agg (ei (fG (bD H f) f fI []))):=by
 have hr:=np (hx.bZ hf.1 hf.2).root;have h0:fG (bD H f) f fI []=⟨⟨f.entry,f.ending,[]⟩,ny H.lex f.entry f.ending,0,[],false,[]⟩:=by unfold fG fI;simp [nE,jb,da,kd,bD]
 rw [h0];refine ae.of (aG (F:=Tryz.f190) c190 rfl rfl rfl mixed rfl fun X=>?_);(conv=>whnf);intro b1;(conv=>whnf);repeat ((first|(refine dg f.entry.toNat (by omega) (nZ hf.1 hf.2) ?_)|(intro (b2:Nat))|refine ⟨_,_,.here _,aR,?_⟩);conv=>whnf)
 refine ⟨fun he=>?_,fun he=>?_⟩<;>simp at he
 ·have ht:=np (hx.iq he hn).text;have hb:ny H.lex f.entry f.ending=(bZ H.lex f.entry).root++(iq H.lex f.ending).text:=(by rw [ny,if_neg (by omega)]);(conv=>whnf);repeat ((first|(refine dg f.ending.toNat (by omega) (BG he hn) ?_)|(refine ⟨ah (by rw [List.length_append];unfold aw;omega),?_⟩)|(refine ⟨⟨Nat.le_of_ble_eq_true rfl,rfl⟩,?_⟩)|refine ⟨_,_,bo.there (.here _),?_⟩|refine ⟨_,_,.head _,rfl,?_⟩|refine ⟨_,_,.here _,aR,?_⟩|refine And.intro (by show aP (aN Tryz.f190 _) _=true;decide +kernel) ?_);conv=>whnf)
  rw [hb];exact ag.agg (.cons (ag.refl _) (.cons (ag.refl _) (.cons (ag.nil (k:=1) (by decide)) (.cons (ag.refl _) (.cons (ag.refl _) (.cons (ag.refl _) (.cons (ag.refl _) (.cons (ag.nil (k:=2) (by decide)) .nil))))))))
 have hb:ny H.lex f.entry f.ending=(bZ H.lex f.entry).root:=(by rw [ny,if_pos he]);(conv=>whnf);repeat ((first|(refine ⟨⟨Nat.le_of_ble_eq_true rfl,rfl⟩,?_⟩)|refine ⟨_,_,bo.there (.here _),?_⟩|refine ⟨_,_,.head _,rfl,?_⟩);conv=>whnf)
 rw [hb];exact ag.agg (.cons (ag.refl _) (.cons (ag.refl _) (.cons (ag.nil (k:=1) (by decide)) (.cons (ag.refl _) (.cons (ag.refl _) (.cons (ag.refl _) (.cons (ag.refl _) (.cons (ag.nil (k:=2) (by decide)) .nil))))))))
theorem Vx (H:aj) (w:bU) (hx:rT H.lex) (hH:jg H) (hf:w.form.ar.length<=aw) (he:0<=w.form.entry/\w.form.entry<H.lex.entries.length) (hu:w.ai.length<=1048576) :
  ae Tryz.prog 132 [.agg (bu H),.agg (cr w)] [] (.int .i64 (gC H w)):=by
 have K5:=MC (x:=H.lex) (f:=w.form);have dq:=hH.ct H.ct.nY (by simp [iV]);refine aG (F:=Tryz.f132) c132 rfl rfl rfl mixed rfl fun X=>?_;(conv=>whnf);repeat ((first|refine ae.k0 (P7 H.lex w.form hx hf) ?_|(refine dg w.form.entry.toNat (by omega) (nZ he.1 he.2) ?_));conv=>whnf)
 refine bR rfl mixed [2,3,5,7,8] [] (fun m r h=>∃ (i:Nat) (n:Int) (cl:Bool),r=[(2,[],.au (bu H)),(3,[],.au (cr w)),(5,[],.int .i64 n),(7,[],.bool (!decide ((bZ H.lex w.form.entry).cls=[])&&!cl)),(8,[],.int .i64 i)]/\h=[]/\m=w.ai.length - i/\i<=w.ai.length/\n=uI H.lex w.form+mf H.ct (w.ai.take i)/\cl=uM (w.ai.take i)) ?_ ?_
 ·(conv=>whnf);exact ⟨_,0,uI H.lex w.form,false,by rw [Bool.not_false,Bool.and_true];rfl,rfl,rfl,by omega,by simp [mf],by simp [uM]⟩
 rintro m r h' ⟨i,n,cl,rfl,rfl,rfl,hi,hn,bz⟩;have hb:=Dz hH (w.ai.take i);rw [List.length_take] at hb;(conv=>whnf);skip;refine ⟨fun aD=>?_,fun aD=>?_⟩<;>simp at aD
 ·obtain ⟨u,dA⟩:=aL aD;have lC:=dj dA;have gJ:=MB hH u;have gi:=Uf (c:=H.ct) (l:=w.ai.take i) (u:=u);have eu:=Ug (l:=w.ai.take i) (u:=u);rw [<- lC] at gi eu;unfold tI at gi gJ;(conv=>whnf);repeat (refine ix (by assumption) ?_;conv=>whnf)
  refine ⟨fun hk=>?_,fun hk=>?_⟩<;>simp only [decide_eq_true_eq,decide_eq_false_iff_not] at hk
  ·rw [if_pos hk] at gi gJ;(conv=>whnf);repeat (refine ⟨ah ⟨by omega,by omega⟩,?_⟩;conv=>whnf)
   exact ⟨_,by omega,i+1,_,_,rfl,rfl,rfl,by omega,by rw [gi,hn];show _+_=_;omega,by rw [eu,bz,decide_eq_false (by omega),Bool.or_false]⟩
  rw [if_neg hk] at gi gJ;(conv=>whnf);skip;refine ⟨fun bw=>?_,fun bw=>?_⟩<;>simp only [decide_eq_true_eq,decide_eq_false_iff_not] at bw
  ·rw [if_pos bw] at gi gJ;(conv=>whnf);repeat (refine ⟨ah ⟨by omega,by omega⟩,?_⟩;conv=>whnf)
   exact ⟨_,by omega,i+1,_,_,rfl,rfl,rfl,by omega,by rw [gi,hn];show _+_=_;omega,by rw [eu,bz,decide_eq_false (by omega),Bool.or_false]⟩
  rw [if_neg bw] at gi gJ;(conv=>whnf);skip;refine ⟨fun ot=>?_,fun ot=>?_⟩<;>simp only [decide_eq_true_eq,decide_eq_false_iff_not] at ot
  ·rw [if_pos ot] at gi gJ;(conv=>whnf);repeat (refine ⟨ah ⟨by omega,by omega⟩,?_⟩;conv=>whnf)
   exact ⟨_,by omega,i+1,_,_,rfl,rfl,rfl,by omega,by rw [gi,hn];show _+_=_;omega,by rw [eu,bz,decide_eq_false (by omega),Bool.or_false]⟩
  rw [if_neg ot] at gi gJ;(conv=>whnf);skip;refine ⟨fun me=>?_,fun me=>?_⟩<;>simp only [decide_eq_true_eq,decide_eq_false_iff_not] at me
  ·rw [if_pos me] at gi gJ;(conv=>whnf);repeat (refine ⟨ah ⟨by omega,by omega⟩,?_⟩;conv=>whnf)
   exact ⟨_,by omega,i+1,n+H.ct.cls,true,by rw [Bool.not_true,Bool.and_false];rfl,rfl,rfl,by omega,by rw [gi,hn];show _+_=_;omega,by rw [eu,decide_eq_true me,Bool.or_true]⟩
  rw [if_neg me] at gi gJ;(conv=>whnf);repeat (refine ⟨ah ⟨by omega,by omega⟩,?_⟩;conv=>whnf)
  exact ⟨_,by omega,i+1,_,_,rfl,rfl,rfl,by omega,by rw [gi,hn];omega,by rw [eu,bz,decide_eq_false me,Bool.or_false]⟩
 rw [List.take_of_length_le aD] at hn bz hb;(conv=>whnf);skip;refine ⟨fun hq=>?_,fun hq=>?_⟩
 ·have hq:(!decide ((bZ H.lex w.form.entry).cls=[])&&!cl)=true:=hq;rw [bz,Bool.and_comm] at hq;(conv=>whnf);repeat (refine ⟨ah ⟨by omega,by omega⟩,?_⟩;conv=>whnf)
  refine ⟨congrArg (AV.int .i64) ?_,rfl⟩;rw [gC,if_pos hq,hn]
 have hq:(!decide ((bZ H.lex w.form.entry).cls=[])&&!cl)=false:=hq;rw [bz,Bool.and_comm] at hq;(conv=>whnf);skip;refine ⟨congrArg (AV.int .i64) ?_,rfl⟩;rw [gC,if_neg (by rw [hq];decide),hn];omega
theorem VR {H:aj} (hh:dU H) (h0:eo H=0) {line:List Int} (hl:line.length<=aw):ae Tryz.prog 130 [.agg (qf H.list),.sl 1 none (ints line)] [] (.int .i64 (dX H line)):=by have:=P8 H.list line hh.list hl;rwa [show iE H.list line=dX H line by rw [dX,if_neg (by omega)];rfl] at this
end Go.Abs.Wall
namespace Go.Abs.Wall
open Go Go.Abs Go.Proofs
end Go.Abs.Wall
namespace Go.Abs.Wall
open Go Go.Abs Go.Proofs
def qk:List Int->List Int->Int
 | x::s,y::t=>if x≠y then x - y else qk s t
 | s,t=>(s.length:Int) - t.length
def tO (a b:aZ):Int:=if a.entry≠b.entry then a.entry - b.entry else if a.ending≠b.ending then a.ending - b.ending else qk a.ar b.ar
structure Nc (f:aZ):Prop where
 entry:-1<=f.entry/\f.entry<=1048576
 ending:-1<=f.ending/\f.ending<=1048576
 cl:∀ c∈f.ar,-1<=c/\c<=1048576
 bB:f.ar.length<=1048576
def c141:az:=⟨[0,1,2,3,4,5,10,20,37,50],[],[],[],[(8,[0,1,2,3,4,5,6,7,8,9,10],[]),(9,[0,1,2,3,4,5,6,7,8,9,10,11],[])],[]⟩
def c212:az:=⟨[0,1,2,3,4,5,6,13,27,34,47],[],[],[],[(9,[0,1,2,3,4,5,6,7,8,9,10],[]),(10,[0,1,2,3,4,5,6,7,8,9,10,11],[])],[]⟩
theorem T8 (a b:aZ) (ha:Nc a) (hb:Nc b):ae Tryz.prog 141 [.agg (eZ a),.agg (eZ b)] [] (.int .i64 (tO a b)):=by
 have h1:=ha.entry;have h2:=hb.entry;have h3:=ha.ending;have h4:=hb.ending;have h5:=ha.bB;have h6:=hb.bB;refine aG (F:=Tryz.f141) c141 rfl rfl rfl mixed rfl fun X=>?_;(conv=>whnf);skip;refine ⟨fun hq=>?_,fun hq=>?_⟩<;>simp at hq
 ·(conv=>whnf);repeat (refine ⟨ah ⟨by omega,by omega⟩,?_⟩;conv=>whnf)
  exact ⟨by rw [tO,if_pos hq],rfl⟩
 (conv=>whnf);skip;refine ⟨fun hr=>?_,fun hr=>?_⟩<;>simp at hr
 ·(conv=>whnf);repeat (refine ⟨ah ⟨by omega,by omega⟩,?_⟩;conv=>whnf)
  exact ⟨by rw [tO,if_neg (by simpa using hq),if_pos hr],rfl⟩
 have h0:tO a b=qk a.ar b.ar:=(by rw [tO,if_neg (by simpa using hq),if_neg (by simpa using hr)]);(conv=>whnf);skip;refine bR rfl mixed [2,3,5] [] (fun m r h=>∃ (i:Nat),r=[(2,[],.au (eZ a)),(3,[],.au (eZ b)),(5,[],.int .i64 i)]/\h=[]/\m=a.ar.length - i/\i<=a.ar.length/\i<=b.ar.length/\tO a b=qk (a.ar.drop i) (b.ar.drop i)) ?_ ?_
 ·(conv=>whnf);exact ⟨_,0,rfl,rfl,rfl,by omega,by omega,h0⟩
 rintro m r h ⟨i,rfl,rfl,rfl,hi,hj,hg⟩;(conv=>whnf);skip;refine ⟨fun hc=>?_,fun hc=>?_⟩
 ·have hc:(decide ((i:Int)<((ints a.ar).length:Int))&&decide ((i:Int)<((ints b.ar).length:Int)))=true:=hc;simp at hc;obtain ⟨x,hx⟩:=aL hc.1;obtain ⟨y,hy⟩:=aL hc.2;have fk:=ha.cl x (List.mem_of_getElem? hx);have HF:=hb.cl y (List.mem_of_getElem? hy);rw [drop_cons hx,drop_cons hy,qk] at hg;(conv=>whnf);repeat ((first|refine ix (by assumption) ?_|refine And.intro (by show aP (aN Tryz.f141 _) _=true;decide +kernel) ?_);conv=>whnf)
  refine ⟨fun he=>?_,fun he=>?_⟩<;>simp at he
  ·rw [if_pos he] at hg;(conv=>whnf);repeat ((first|refine ⟨ah ⟨by omega,by omega⟩,?_⟩|refine ix (by assumption) ?_|refine And.intro (by show aP (aN Tryz.f141 _) _=true;decide +kernel) ?_);conv=>whnf)
   exact ⟨by rw [hg],rfl⟩
  rw [if_neg (by simpa using he)] at hg;(conv=>whnf);repeat (refine ⟨ah ⟨by omega,by omega⟩,?_⟩;conv=>whnf)
  exact ⟨_,by omega,i+1,rfl,rfl,rfl,by omega,by omega,hg⟩
 have hc:(decide ((i:Int)<((ints a.ar).length:Int))&&decide ((i:Int)<((ints b.ar).length:Int)))=false:=hc;simp at hc
 have hz:tO a b=(a.ar.length:Int) - b.ar.length:=by
  rw [hg];have lS:((a.ar.drop i).length:Int)=a.ar.length - i:=by rw [List.length_drop];omega
  have mL:((b.ar.drop i).length:Int)=b.ar.length - i:=by rw [List.length_drop];omega
  cases h1:a.ar.drop i with
  | nil=>rw [h1] at lS;unfold qk;rw [lS,mL];omega
  | cons x s=>
    cases h2:b.ar.drop i with
    | nil=>rw [h2] at mL;unfold qk;rw [<- h1,lS,mL];omega
    | cons y t=>
      rw [h1] at lS;rw [h2] at mL;simp at lS mL;omega
 (conv=>whnf);repeat ((refine ⟨ah ⟨by rw [cg,cg];omega,by rw [cg,cg];omega⟩,?_⟩);conv=>whnf)
 exact ⟨by rw [hz,cg,cg],rfl⟩
theorem UZ:∀ (s t:List Int),(qk s t<0↔cL cB s t<0)/\(qk s t=0↔cL cB s t=0)
 | [],[]=>by simp [qk,cL]
 | [],y::t=>by simp [qk,cL];omega
 | x::s,[]=>by simp [qk,cL];omega
 | x::s,y::t=>by
   have ih:=UZ s t;unfold qk cL;by_cases h:x=y
   ·rw [if_neg (by simpa using h),if_neg (by rw [ne_eq,si];simpa using h)];exact ih
   rw [if_pos h,if_pos (by rw [ne_eq,si];exact h),xN,si];omega
def Ev (a b:bU):Bool:=decide (mY a b<0)
theorem Va (a b:bU):mY a b=if cB a.ai.length b.ai.length≠0 then cB a.ai.length b.ai.length else if cB a.form.entry b.form.entry≠0 then cB a.form.entry b.form.entry else if cB a.form.ending b.form.ending≠0 then cB a.form.ending b.form.ending else if cL cB a.form.ar b.form.ar≠0 then cL cB a.form.ar b.form.ar else cL mb a.ai b.ai:=by unfold mY;rw [ig,ig,ig,HL]
theorem T9 (a b:bU) (h:a.ai.length=b.ai.length):(tO a.form b.form≠0->(tO a.form b.form<0↔mY a b<0))/\(tO a.form b.form=0->mY a b=cL mb a.ai b.ai):=by
 have hc:=UZ a.form.ar b.form.ar;have h0:¬ cB (a.ai.length:Int) b.ai.length≠0:=by rw [ne_eq,si];omega
 rw [Va,if_neg h0];unfold tO;by_cases h1:a.form.entry=b.form.entry
 ·have k1:¬ cB a.form.entry b.form.entry≠0:=by rw [ne_eq,si];simpa using h1
  have k2:¬ a.form.entry≠b.form.entry:=(by simpa using h1);rw [if_neg k1,if_neg k2];by_cases h2:a.form.ending=b.form.ending
  ·have k3:¬ cB a.form.ending b.form.ending≠0:=by rw [ne_eq,si];simpa using h2
   have k4:¬ a.form.ending≠b.form.ending:=(by simpa using h2);rw [if_neg k3,if_neg k4];by_cases h3:qk a.form.ar b.form.ar=0
   ·have k5:¬ cL cB a.form.ar b.form.ar≠0:=by rw [ne_eq,<- hc.2];simpa using h3
    rw [if_neg k5];exact ⟨fun h=>absurd h3 h,fun _=>rfl⟩
   have k5:cL cB a.form.ar b.form.ar≠0:=by rw [ne_eq,<- hc.2];exact h3
   rw [if_pos k5];exact ⟨fun _=>hc.1,fun h=>absurd h h3⟩
  have k3:cB a.form.ending b.form.ending≠0:=by rw [ne_eq,si];exact h2
  have k4:a.form.ending≠b.form.ending:=h2;rw [if_pos k3,if_pos k4,xN];exact ⟨fun _=>by omega,fun h=>by omega⟩
 have k1:cB a.form.entry b.form.entry≠0:=by rw [ne_eq,si];exact h1
 have k2:a.form.entry≠b.form.entry:=h1;rw [if_pos k1,if_pos k2,xN];exact ⟨fun _=>by omega,fun h=>by omega⟩
structure Ch (w:bU):Prop where
 form:Nc w.form
 ai:w.ai.length<=1048576
theorem VF (a b:bU) (ha:Ch a) (hb:Ch b):ae Tryz.prog 212 [.agg (cr a),.agg (cr b)] [] (.bool (Ev a b)):=by
 have h1:=ha.ai;have h2:=hb.ai;refine aG (F:=Tryz.f212) c212 rfl rfl rfl mixed rfl fun X=>?_;(conv=>whnf);skip;refine ⟨fun hq=>?_,fun hq=>?_⟩<;>simp at hq
 ·(conv=>whnf);skip;refine ⟨congrArg AV.bool ?_,rfl⟩;unfold Ev;rw [Va,if_pos (by rw [ne_eq,si];omega),List.length_map,List.length_map,decide_eq_decide,xN]
 have hl:a.ai.length=b.ai.length:=(by omega);obtain ⟨fM,U0⟩:=T9 a b hl;(conv=>whnf);repeat (refine ae.k0 (T8 a.form b.form ha.form hb.form) ?_;conv=>whnf)
 refine ⟨fun hr=>?_,fun hr=>?_⟩<;>simp at hr
 ·(conv=>whnf);skip;refine ⟨congrArg AV.bool ?_,rfl⟩;unfold Ev;rw [decide_eq_decide];exact fM hr
 have hz:=U0 hr;(conv=>whnf);skip;refine bR rfl mixed [2,3,6] [] (fun m r h=>∃ (i:Nat),r=[(2,[],.au (cr a)),(3,[],.au (cr b)),(6,[],.int .i64 i)]/\h=[]/\m=a.ai.length - i/\i<=a.ai.length/\mY a b=cL mb (a.ai.drop i) (b.ai.drop i)) ?_ ?_
 ·(conv=>whnf);exact ⟨_,0,rfl,rfl,rfl,by omega,hz⟩
 rintro m r h ⟨i,rfl,rfl,rfl,hi,hg⟩;(conv=>whnf);skip;refine ⟨fun hc=>?_,fun hc=>?_⟩<;>simp at hc
 ·obtain ⟨x,hx⟩:=aL hc;obtain ⟨y,hy⟩:=aL (l:=b.ai) (i:=i) (by omega);rw [drop_cons hx,drop_cons hy,cL] at hg;(conv=>whnf);repeat ((first|refine ix (by assumption) ?_|(refine ⟨My,?_⟩)|refine And.intro (by show aP (aN Tryz.f212 _) _=true;decide +kernel) ?_);conv=>whnf)
  refine ⟨fun he=>?_,fun he=>?_⟩
  ·have he:(!pI x y)=true:=he;rw [AF,Bool.not_eq_true',decide_eq_false_iff_not] at he;rw [if_pos (by rw [ne_eq,zU.zero];exact he)] at hg;(conv=>whnf);repeat ((first|refine ix (by assumption) ?_|refine ba (MP x y) ?_|refine And.intro (by show aP (aN Tryz.f212 _) _=true;decide +kernel) ?_);conv=>whnf)
   refine ⟨congrArg AV.bool ?_,rfl⟩;unfold Ev nD;rw [hg]
  have he:(!pI x y)=false:=he;rw [AF,Bool.not_eq_false',decide_eq_true_eq] at he;rw [if_neg (by rw [ne_eq,zU.zero];simpa using he)] at hg;(conv=>whnf);repeat (refine ⟨ah ⟨by omega,by omega⟩,?_⟩;conv=>whnf)
  exact ⟨_,by omega,i+1,rfl,rfl,rfl,by omega,hg⟩
 rw [drop_nil hc,drop_nil (by omega),cL] at hg;(conv=>whnf);skip;refine ⟨congrArg AV.bool ?_,rfl⟩;unfold Ev;rw [hg];rfl
end Go.Abs.Wall
