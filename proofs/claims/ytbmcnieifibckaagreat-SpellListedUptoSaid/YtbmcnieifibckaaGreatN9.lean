/- What is proved: small laws for the walks of this seat, and contracts of its functions. No condition but those each theorem names. -/
import Derived.Test.YtbmcnieifibckaaGreatN7
import Derived.Test.YtbmcnieifibckaaGreatN8
set_option maxRecDepth 100000
set_option maxHeartbeats 2000000
set_option linter.unusedVariables false
set_option linter.unusedSimpArgs false
namespace Go.Abs.Wall
open Go Go.Abs Go.Proofs
def xa (p:bg):Nat:=10 ^ (3 - p.cl.length)
def jU (l:List bg):Nat:=(l.map xa).sum
theorem I4 (p:bg):1<=xa p:=Nat.one_le_pow _ _ (by omega)
theorem Ls (a b:List bg):jU (a++b)=jU a+jU b:=by unfold jU;rw [List.map_append,List.sum_append]
theorem Lt:∀ l:List bg,l.length<=jU l
 | []=>by simp
 | p::l=>by have h1:=Lt l;have h2:=I4 p;unfold jU at h1 ⊢;rw [List.map_cons,List.sum_cons,List.length_cons];omega
theorem Te {p:bg} {u:ao} (h3:p.cl.length<3):∀ (l:List iO) (c:Int),jU (fk p u l c)<=l.length*10 ^ (2 - p.cl.length)
 | [],_=>by simp [fk,jU]
 | k::t,c=>by
   have ih:=Te (u:=u) h3 t (c+1);unfold fk;rw [Ls,List.length_cons,Nat.succ_mul]
   have h1:jU (if fG k.text u.text=true then [(⟨p.bH++u.text,p.closed,p.cl++[c],u⟩:bg)] else [])<=10 ^ (2 - p.cl.length):=by
    split
    ·unfold jU xa;rw [List.map_cons,List.map_nil,List.sum_cons,List.sum_nil,List.length_append,List.length_singleton,show 3 - (p.cl.length+1)=2 - p.cl.length by omega];omega
    simp [jU]
   omega
theorem I5 {s:Sp} (hs:jx s) (p:bg) (u:ao):jU (aU s p u)<=xa p:=by
 have Nz:=hs.lex.many.2.2;have one:∀ q:bg,q.cl=p.cl->jU [q]<=xa p:=fun q hq=>by unfold jU xa;rw [List.map_cons,List.map_nil,List.sum_cons,List.sum_nil,hq];omega
 have AJ:jU []<=xa p:=(by simp [jU]);unfold aU;split
 ·unfold gM;split
  ·split
   ·exact one _ rfl
   exact AJ
  split
  ·rename_i h3;refine Nat.le_trans (Te h3 _ _) ?_;unfold xa;rw [show 3 - p.cl.length=(2 - p.cl.length)+1 by omega,Nat.pow_succ,Nat.mul_comm];refine Nat.mul_le_mul_left _ ?_;rw [List.length_drop];omega
  exact AJ
 split
 ·split
  ·exact AJ
  exact one _ rfl
 split
 ·split
  ·exact AJ
  exact one _ rfl
 split
 ·split
  ·exact AJ
  exact one _ rfl
 exact AJ
theorem Lu {s:Sp} (hs:jx s) (u:ao):∀ l:List bg,jU (l.flatMap fun p=>aU s p u)<=jU l
 | []=>by simp
 | p::l=>by have h1:=I5 hs p u;have h2:=Lu hs u l;rw [List.flatMap_cons,Ls];unfold jU at h2 h1 ⊢;rw [List.map_cons,List.sum_cons];omega
def tF (H:ax) (s:Sp) (cl:List Int):List Int->List ao->List bg->Bool
 | n::t,u::us,st=>(fg H n).any (mg u)&&tF H s cl t us (st.flatMap fun p=>aU s p u)
 | _,_,st=>st.any fun p=>ll s p&&decide (p.cl=cl)
def bx (H:ax) (f:bc):Sp:=⟨H,cd H.lex f.entry,mS H.lex f.entry f.ending⟩
def kC (H:ax) (line:List Int) (w:cO):Bool:=(bG line.length 1 12&&decide (line.length=w.aj.length))&&tF H (bx H w.form) w.form.ah line w.aj [fS]
def c156:aw:=⟨[0,1,2,3,4],[],[],[],[],[]⟩
def c223:aw:=⟨[0,1,4,5,7,8,9,16],[],[],[],[],[]⟩
def c155:aw:=⟨[0,1,4],[],[],[],[],[]⟩
def c94:aw:=⟨[0,1,2,3,5,6,7,8,9,10,11,13,25,48,49,50,51,64,65,66,67,68],[],[7,13],[],[(3,[0,1,2,3,4,5,6,7,8,9,10,11,12,13,14,15,16,17,18,19,20,21],[7]),(8,[0,1,2,3,4,5,6,7,8,9],[]),(14,[0,1,2,3,4,5,6,7,8,9,10],[])],[]⟩
def c70:aw:=⟨[0,1,2,3,5,6,7,8,9,14,22,28],[],[],[],[],[]⟩
theorem I6 (s:Sp) (p:bg) (w:cO) (hs:jx s) (hp:jz s p) (hw:w.form.ah.length<=aq):ae Tryz.prog 156 [.agg (fo p),.au [.au (nR s)],.au (du w)] [] (.bool (ll s p&&decide (p.cl=w.form.ah))):=by
 have dI:=hp.bE;refine aG (F:=Tryz.f156) c156 rfl rfl rfl mixed rfl fun X=>?_;(conv=>whnf);repeat ((first|refine ae.k0 (KV s p hs hp) ?_|refine aX (u9 p.cl w.form.ah (by unfold aq;omega) hw) ?_);conv=>whnf)
 exact ⟨rfl,rfl⟩
theorem I7 (l:List bg) (hl:l.length<=aq) (f:FuncId) (bB:List AV) (p:bg->Bool) (hp:∀ w∈l,ae Tryz.prog f (.agg (fo w)::bB) [] (.bool (p w))) :
  ae Tryz.prog 223 [.sl 6 none (l.map fo),.fn f bB] [] (.int .i64 (jK p l)):=by
 refine aG (F:=Tryz.f223) c223 rfl rfl rfl mixed rfl fun X=>?_;(conv=>whnf);unfold aq at hl;refine bM rfl mixed [0,1,7,8] [] (fun m r h=>∃ (i:Nat),r=[(0,[],.sl 6 none (l.map fo)),(1,[],.fn f bB),(7,[],.int .i64 (l.map fo).length),(8,[],.int .i64 i)]/\h=[]/\m=l.length - i/\i<=l.length/\Below p l i) ?_ ?_
 ·(conv=>whnf);exact ⟨_,0,rfl,rfl,rfl,by omega,.zero⟩
 rintro m r h ⟨i,rfl,rfl,rfl,hi,hg⟩;(conv=>whnf);refine ⟨fun hc=>?_,fun hc=>?_⟩<;>simp at hc
 ·obtain ⟨x,hx⟩:=aN hc;(conv=>whnf);repeat ((first|refine ix (by assumption) ?_|(refine ae.k0 (hp x (List.mem_of_getElem? hx)) ?_));conv=>whnf)
  refine ⟨fun hd=>?_,fun hd=>?_⟩
  ·(conv=>whnf);exact ⟨by rw [hg.at hx hd],rfl⟩
  (conv=>whnf);repeat (refine ⟨af ⟨by omega,by omega⟩,?_⟩;conv=>whnf)
  exact ⟨_,by omega,i+1,rfl,rfl,rfl,by omega,hg.succ hx hd⟩
 (conv=>whnf);exact ⟨by rw [hg.end hc],rfl⟩
theorem I8 (l:List bg) (hl:l.length<=aq) (f:FuncId) (bB:List AV) (p:bg->Bool) (hp:∀ w∈l,ae Tryz.prog f (.agg (fo w)::bB) [] (.bool (p w))) :
  ae Tryz.prog 155 [.sl 6 none (l.map fo),.fn f bB] [] (.bool (l.any p)):=by
 refine aG (F:=Tryz.f155) c155 rfl rfl rfl mixed rfl fun X=>?_;(conv=>whnf);refine ae.k0 (I7 l hl f bB p hp) ?_;(conv=>whnf);exact ⟨congrArg AV.bool (vc p l),rfl⟩
theorem I9 {H:ax} (hH:ic H) {f:bc} (hf:kL H.lex f):jx (bx H f):=by
 have hx:f.ending<H.lex.bL.length:=by rcases hf.ending with h|h<;>omega
 exact zc (at_:=0) hH hf.entry.1 hf.entry.2 hx
theorem J0 (H:ax) (line:List Int) (w:cO) (hH:ic H) (AH:∀ s∈line,0<=s/\s<H.list.aB.length) (hl:line.length<=1048576) (hf:kL H.lex w.form) (hu:∀ u∈w.aj,u.text.length<=1048576) (ke:w.aj.length<=1048576) :
  ae Tryz.prog 94 [.agg (bJ H),.sl 1 none (ints line),.agg (du w)] [] (.bool (kC H line w)):=by
 have hs:=I9 hH hf;have dI:=hf.bE;have hx:w.form.ending<H.lex.bL.length:=by rcases hf.ending with h|h<;>omega
 have xF:kC H line w=((bG line.length 1 12&&decide (line.length=w.aj.length))&&tF H (bx H w.form) w.form.ah line w.aj [fS]):=rfl;refine ae.yk ?_;refine aG (F:=Tryz.f94) c94 rfl rfl rfl mixed rfl fun X=>?_;(conv=>whnf);repeat (refine ae.k0 (within _ _ _) ?_;conv=>whnf)
 refine ⟨fun hq=>?_,fun hq=>?_⟩
 ·have hq:(!bG ((ints line).length:Int) 1 12||!decide (((ints line).length:Int)=((w.aj.map aT).length:Int)))=true:=hq;rw [List.length_map,dB] at hq
  have hz:(bG line.length 1 12&&decide (line.length=w.aj.length))=false:=by
   rw [Bool.or_eq_true,Bool.not_eq_true',Bool.not_eq_true',decide_eq_false_iff_not] at hq;rw [Bool.and_eq_false_iff,decide_eq_false_iff_not];rcases hq with hq|hq
   ·exact .inl hq
   exact .inr (by omega)
  rw [xF,hz];(conv=>whnf);skip;rfl
 have hq:(!bG ((ints line).length:Int) 1 12||!decide (((ints line).length:Int)=((w.aj.map aT).length:Int)))=false:=hq;rw [List.length_map,dB,Bool.or_eq_false_iff,Bool.not_eq_false',Bool.not_eq_false',decide_eq_true_eq] at hq;have X3:=dS.1 hq.1;have BU:line.length=w.aj.length:=(by omega);have xF:kC H line w=tF H (bx H w.form) w.form.ah line w.aj [fS]:=by rw [xF,hq.1,decide_eq_true BU];rfl
 (conv=>whnf);repeat ((first|(refine cj w.form.entry.toNat (by have:=hf.entry;omega) (oB hf.entry.1 hf.entry.2) ?_)|refine aX (SC H.lex w.form.entry w.form.ending hH.lex hf.entry.1 hf.entry.2 hx) ?_|refine ⟨_,_,aK.here _,?_⟩|refine ⟨_,_,.here _,aF,?_⟩|refine And.intro (by show aJ (aH Tryz.f94 _) _=true;decide +kernel) ?_|intro (nb:Nat));conv=>whnf)
 refine cy rfl mixed [3,5,7,8,48,49,50] [] (fun m r h=>∃ (i:Nat) (st:List bg),r=[(3,[],.au (bJ H)),(5,[],.au (du w)),(7,[],.au [.au (nR (bx H w.form))]),(8,[],.sl 6 none (st.map fo)),(48,[],.sl 1 none (ints line)),(49,[],.int .i64 (ints line).length),(50,[],.int .i64 i)]/\h=[]/\m=line.length - i/\i<=line.length/\(∀ q∈st,jz (bx H w.form) q)/\jU st<=1000/\kC H line w=tF H (bx H w.form) w.form.ah (line.drop i) (w.aj.drop i) st) ?_ ?_
 ·(conv=>whnf);exact ⟨_,_,ar.qP (.cons (ag.refl _) (.cons (ag.refl _) (.cons (ag.refl _) (.cons (ag.nx (.cons (.cons (ag.refl _) (.cons (ag.refl _) (.cons (ag.refl _) (.cons (ag.nil (by decide)) (.cons (ag.refl _) (.cons (ag.refl _) .nil)))))) .nil)) (je.refl _))))),_,0,[fS],rfl,rfl,rfl,by omega,fun q hq=>by cases List.mem_singleton.1 hq;exact zg _,by decide,xF⟩
 rintro m r h' ⟨i,st,rfl,rfl,rfl,hi,aA,Pf,hg⟩;have gn:=Lt st;(conv=>whnf);refine ⟨fun aD=>?_,fun aD=>?_⟩<;>simp at aD
 ·obtain ⟨n,hn⟩:=aN aD;obtain ⟨u,dj⟩:=aN (l:=w.aj) (i:=i) (by omega);have uz:=AH n (List.mem_of_getElem? hn);have ba:=hu u (List.mem_of_getElem? dj);have mL:=uA uz.1 uz.2;have Ld:=((rO hH.oV).each _ (List.mem_of_getElem? mL)).bE;have bf:=Bm (p:=H.period) ((rO hH.oV).each _ (List.mem_of_getElem? mL));rw [drop_cons hn,drop_cons dj,tF] at hg;(conv=>whnf);repeat ((first|refine ix (by assumption) ?_|(refine aX (KU H n (wE H n) uz.1 mL (by omega)) ?_)|(refine aX (v8 (nz H.period (wE H n)) u (by unfold aq;omega)) ?_)|refine And.intro (by show aJ (aH Tryz.f94 _) _=true;decide +kernel) ?_);conv=>whnf)
  refine ⟨fun hq=>?_,fun hq=>?_⟩
  ·have hq:(!((fg H n).any (mg u)))=true:=hq;rw [Bool.not_eq_true'] at hq;rw [hg,hq];(conv=>whnf);skip;rfl
  have hq:(!((fg H n).any (mg u)))=false:=hq;rw [Bool.not_eq_false'] at hq;rw [hq,Bool.true_and] at hg;have ig:gG u:=by rw [List.any_eq_true] at hq;obtain ⟨x,hx,BF⟩:=hq;rw [tE,decide_eq_true_eq] at BF;subst BF;exact bf.2 _ hx
  (conv=>whnf);skip;refine cy rfl mixed [3,5,7,9,11,48,49,50,65,66,67] [] (fun m r h=>∃ (k:Nat) (v:AV) (hp:ab),r=[(3,[],.au (bJ H)),(5,[],.au (du w)),(7,[],.au [.au (nR (bx H w.form))]),(9,[],.int .i64 i),(11,[],v),(48,[],.sl 1 none (ints line)),(49,[],.int .i64 (ints line).length),(50,[],.int .i64 i),(65,[],.sl 6 none (st.map fo)),(66,[],.int .i64 (st.map fo).length),(67,[],.int .i64 k)]/\h=hp/\m=st.length - k/\k<=st.length/\Out 6 fo ((st.take k).flatMap fun p=>aU (bx H w.form) p u) v hp) ?_ ?_
  ·(conv=>whnf);exact ⟨_,_,ar.refl _ _,_,0,_,_,rfl,rfl,rfl,by omega,.inl ⟨rfl,rfl,rfl⟩⟩
  rintro m r h' ⟨k,v,hp,rfl,rfl,rfl,hk,ho⟩;(conv=>whnf);refine ⟨fun bo=>?_,fun bo=>?_⟩<;>simp at bo
  ·obtain ⟨p,aZ⟩:=aN bo;have J1:=aA p (List.mem_of_getElem? aZ);have ch:((st.take (k+1)).flatMap fun p=>aU (bx H w.form) p u)=((st.take k).flatMap fun p=>aU (bx H w.form) p u)++aU (bx H w.form) p u:=(by rw [dg aZ,List.flatMap_append,List.flatMap_singleton]);have fR:=Be hs p u
   have eO:((st.take k).flatMap fun p=>aU (bx H w.form) p u).length<=1000:=by
    have h1:=Lt ((st.take k).flatMap fun p=>aU (bx H w.form) p u);have h2:=Lu hs u (st.take k);have h3:jU (st.take k)<=jU st:=by have:=Ls (st.take k) (st.drop k);rw [List.take_append_drop] at this;omega
    omega
   rcases ho with ⟨he,rfl,rfl⟩|⟨q,rfl,rfl⟩
   all_goals
    (conv=>whnf);repeat ((first|refine ⟨af ⟨by omega,by omega⟩,?_⟩|refine ix (by assumption) ?_|(refine aX (Sk (bx H w.form) p u hs J1 (by omega)) ?_)|(refine ⟨(by first|(simp;done)|(simp;unfold aV;omega)),fun q'=>?_⟩)|(refine ⟨(by rw [List.length_append,List.length_map,List.length_map];unfold aV;omega),fun q'=>⟨_,.here _,?_⟩⟩)|refine ⟨_,_,aK.here _,⟨Nat.le_of_ble_eq_true rfl,rfl⟩,?_⟩|refine And.intro (by show aJ (aH Tryz.f94 _) _=true;decide +kernel) ?_|intro (nb:Nat));conv=>whnf)
    refine ⟨_,_,ar.refl _ _,_,(by omega),k+1,_,_,rfl,rfl,rfl,by omega,.inr ⟨q',?_,rfl⟩⟩;rw [ch,List.map_append];first|done|rfl|(rw [he];done)|(rw [he];rfl)
  rw [List.take_of_length_le bo] at ho;(conv=>whnf);repeat (refine ⟨af ⟨by omega,by omega⟩,?_⟩;conv=>whnf)
  refine ⟨_,_,ar.trans (ar.qP (.cons (ag.refl _) (.cons (ag.refl _) (.cons (ag.refl _) (.cons (ho.le (by decide)) (je.refl _)))))) (ar.sub (h':=[]) (fun _ _ h=>by cases h) (fun _=>.nil)),_,(by omega),i+1,_,rfl,rfl,rfl,by omega,?_,?_,hg⟩
  ·intro q mF;obtain ⟨p,uH,tT⟩:=List.mem_flatMap.1 mF;exact vO hs (aA p uH) ig q tT
  have:=Lu hs u st;omega
 rw [drop_nil aD,tF] at hg;rw [hg];(conv=>whnf);repeat (refine ae.k0 (I8 st (by unfold aq;omega) _ _ (fun p=>ll (bx H w.form) p&&decide (p.cl=w.form.ah)) (fun p hp=>I6 (bx H w.form) p w hs (aA p hp) (by unfold aq;omega))) ?_;conv=>whnf)
 intro n t u us h1 h2;cases h1
def jN (H:ax) (line:List Int) (w:cO):Int:=
 if eb H line≠0 then eb H line else if dT H.lex w.form≠0 then dT H.lex w.form else if kC H line w=true then 0 else 51
def vh (H:ax) (line:List Int) (w:cO):Int:=if jN H line w=0 then iM H w else 0
theorem WT (H:ax) (line:List Int) (w:cO) (hf:eP H) (hl:line.length<=1048576) (hc:w.form.ah.length<=1048576) (hu:∀ u∈w.aj,u.text.length<=1048576) (ke:w.aj.length<=1048576) :
  ae Tryz.prog 70 [.agg (bJ H),.sl 1 none (ints line),.agg (du w)] [] (.aQ [.int .i64 (vh H line w),.int .i64 (jN H line w)]):=by
 refine aG (F:=Tryz.f70) c70 rfl rfl rfl mixed rfl fun X=>?_;(conv=>whnf);repeat (refine ae.k0 (GY H line hf (by unfold aq;omega)) ?_;conv=>whnf)
 refine ⟨fun h1=>?_,fun h1=>?_⟩<;>simp at h1
 ·have he:jN H line w=eb H line:=(by rw [jN,if_pos h1]);(conv=>whnf);skip;exact ⟨by rw [vh,he,if_neg h1],rfl⟩
 have hL:=qS h1;(conv=>whnf);repeat (refine ae.k0 (Fe H.lex w.form hf.lex (by unfold aq;omega)) ?_;conv=>whnf)
 refine ⟨fun h2=>?_,fun h2=>?_⟩<;>simp at h2
 ·have he:jN H line w=dT H.lex w.form:=(by rw [jN,if_neg (by omega),if_pos h2]);(conv=>whnf);skip;exact ⟨by rw [vh,he,if_neg h2],rfl⟩
 have hF:=mG h2;(conv=>whnf);repeat (refine ae.k0 (J0 H line w hL.jc hL.aB hl hF hu ke) ?_;conv=>whnf)
 refine ⟨fun h3=>?_,fun h3=>?_⟩<;>simp at h3
 ·have he:jN H line w=51:=(by rw [jN,if_neg (by omega),if_neg (by omega),if_neg (by rw [h3];decide)]);(conv=>whnf);skip;exact ⟨by rw [vh,he,if_neg (by decide)],rfl⟩
 have he:jN H line w=0:=(by rw [jN,if_neg (by omega),if_neg (by omega),if_pos h3]);(conv=>whnf);repeat (refine ae.k0 (KZ H w hf.lex hL.jc (by unfold aq;omega) hF.entry ke) ?_;conv=>whnf)
 exact ⟨by rw [vh,he,if_pos rfl],rfl⟩
end Go.Abs.Wall
namespace Go.Abs.Wall
open Go Go.Abs Go.Proofs
structure Dp where
 form:bc
 part:List UInt8
 done:Int
 all:List UInt8
 closed:Bool
 aj:List ao
def dW (h:Dp):List AV:=[.int .i64 h.form.entry,.int .i64 h.form.ending,.sl 1 none (ints h.form.ah),.str h.part,.int .i64 h.done,.str h.all,.bool h.closed,.sl 2 none (h.aj.map aT)]
def mW (s:Sp) (cl:List Int):List UInt8:=match cl.getLast? with
 | some c=>(cE s.H.lex c).text
 | none=>s.body
def iE (s:Sp) (cl:List Int):Nat:=(cQ s cl).length - (mW s cl).length
def fq (s:Sp) (f:bc) (p:bg) (T:List ao):Dp:=⟨⟨f.entry,f.ending,p.cl⟩,mW s p.cl,(p.bH.length:Int) - iE s p.cl,p.bH,p.closed,T⟩
theorem Dq (s:Sp) (cl:List Int) (c:Int):mW s (cl++[c])=(cE s.H.lex c).text:=by unfold mW;simp
theorem Lv (s:Sp) (cl:List Int):∃ pre,cQ s cl=pre++mW s cl/\pre.length=iE s cl:=by
 rcases List.eq_nil_or_concat cl with rfl|⟨l,c,bw⟩
 ·refine ⟨[],?_,?_⟩
  ·simp [cQ,jq,mW]
  simp [iE,cQ,jq,mW]
 rw [List.concat_eq_append] at bw;subst bw;refine ⟨cQ s l,?_,?_⟩
 ·rw [Dq,AF]
 unfold iE;rw [Dq,AF,List.length_append];omega
theorem Lw (s:Sp) (cl:List Int) (c:Int):iE s (cl++[c])=(cQ s cl).length:=by unfold iE;rw [Dq,AF,List.length_append];omega
structure uo (s:Sp) (p:bg) (T:List ao):Prop where
 ok:jz s p
 base:iE s p.cl<=p.bH.length
 new:T=[]->p.last.kind=0
 last:T≠[]->T.getLast?=some p.last/\p.last.kind≠0
 bE:T.length<=12
 len:p.last.text.length<=8
theorem uo.part {s:Sp} {p:bg} {T:List ao} (h:uo s p T):jO s p=(mW s p.cl).drop ((p.bH.length:Int) - iE s p.cl).toNat/\(p.bH.length:Int) - iE s p.cl<=(mW s p.cl).length:=by obtain ⟨pre,h1,h2⟩:=Lv s p.cl;have h3:=h.base;have h4:=h.ok.bH;rw [h1,List.length_append] at h4;refine ⟨?_,by omega⟩;unfold jO;rw [h1,List.drop_append,List.drop_eq_nil_of_le (by omega),List.nil_append];congr 1;omega
theorem Tf {s:Sp} {p:bg} {u:ao} {T:List ao} (hp:uo s p T) (hu:gG u) (he:p.bH.length=(cQ s p.cl).length):∀ (l:List iO) (c:Int),∀ q∈fk p u l c,iE s q.cl<=q.bH.length/\q.last=u
 | [],_,q,hq=>by cases hq
 | k::t,c,q,hq=>by
   unfold fk at hq;rcases List.mem_append.1 hq with hq|hq
   ·split at hq
    ·cases List.mem_singleton.1 hq
     refine ⟨?_,rfl⟩;show iE s (p.cl++[c])<=(p.bH++u.text).length;rw [Lw,List.length_append];omega
    cases hq
   exact Tf hp hu he t (c+1) q hq
theorem GP {s:Sp} {p:bg} {u:ao} {T:List ao} (hs:jx s) (hp:uo s p T) (hu:gG u) (hT:T.length<12):∀ q∈aU s p u,uo s q (T++[u]):=by
 intro q hq;have hk:u.kind≠0:=by have:=hu.1;omega
 have bf:=vO hs hp.ok hu q hq
 have key:iE s q.cl<=q.bH.length/\q.last=u:=by
  unfold aU at hq;split at hq
  ·unfold gM at hq;split at hq
   ·split at hq
    ·cases List.mem_singleton.1 hq
     refine ⟨?_,rfl⟩;have:=hp.base;show iE s p.cl<=(p.bH++u.text).length;rw [List.length_append];omega
    cases hq
   rename_i h0;split at hq
   ·refine Tf hp hu ?_ _ _ q hq;have h1:=hp.ok.bH;simp only [ne_eq,Decidable.not_not] at h0;unfold jO at h0;rw [List.drop_eq_nil_iff] at h0;omega
   cases hq
  split at hq
  ·split at hq
   ·cases hq
   rename_i hb;cases List.mem_singleton.1 hq
   refine ⟨?_,rfl⟩;rw [Bool.not_eq_true] at hb;unfold rk at hb;simp only [Bool.or_eq_false_iff,Bool.not_eq_false',decide_eq_true_eq] at hb;have:=(hp.ok.new hb.1).1;show iE s p.cl<=_;rw [this];simp [iE,cQ,jq,mW]
  split at hq
  ·split at hq
   ·cases hq
   cases List.mem_singleton.1 hq
   exact ⟨hp.base,rfl⟩
  split at hq
  ·split at hq
   ·cases hq
   cases List.mem_singleton.1 hq
   exact ⟨hp.base,rfl⟩
  cases hq
 refine ⟨bf,key.1,fun h=>absurd h (by simp),fun _=>⟨by rw [key.2];simp,by rw [key.2];exact hk⟩,by rw [List.length_append,List.length_singleton];omega,by rw [key.2];exact hu.2.2.2⟩
theorem xE (s:Sp):uo s fS []:=⟨zg s,by simp [iE,cQ,jq,mW,fS],fun _=>rfl,fun h=>absurd rfl h,by simp,by simp [fS]⟩
def c240:aw:=⟨[0,1,4],[],[],[],[],[]⟩
def c263:aw:=⟨[0,1,4],[],[],[],[],[]⟩
def c241:aw:=⟨[0,1,2,3,4,5,6,10,11],[],[10],[],[(2,[0,1,3,4,2,5,6,7],[])],[]⟩
def c242:aw:=⟨[0,1,2,3,4,5,6,10],[],[5],[],[],[]⟩
def c191:aw:=⟨[0,1,2,3,4,5,6,7,8,9,10,11,12,13,14,29,30,33,41,67,88,99,130,142,156,160,173,199],[],[9],[],[(7,[0,1,2,3,4,5,6,7],[]),(17,[0,1,2,3,4,5,6,7,8],[]),(18,[0,1,2,3,4,5,6,7,8,9,10,11,12,13,14,15,16,17,18],[])],[]⟩
def c192:aw:=⟨[0,1,2],[],[],[],[],[]⟩
def c190:aw:=⟨[0,1,2,3,6,7,19],[],[6],[],[(3,[0,1,2,3,4,5,6,7,8,9,10],[])],[]⟩
theorem Lx (t w:List UInt8) (ht:t.length<=aq) (hw:w.length<=aq):ae Tryz.prog 240 [.str t,.str w] [] (.bool (fG t w)):=by
 unfold aq at ht hw;refine aG (F:=Tryz.f240) c240 rfl rfl rfl mixed rfl fun X=>?_;(conv=>whnf);repeat ((refine And.intro ?_ ?_;(focus ((conv=>whnf);intro g0;have g0:=of_decide_eq_true g0;refine ⟨?_,?_,?_⟩<;>omega)));conv=>whnf)
 exact ⟨rfl,rfl⟩
theorem J2 (t w:List UInt8) (ht:t.length<=aq) (hw:w.length<=aq):ae Tryz.prog 263 [.str t,.str w] [] (.bool (qg t w)):=by
 unfold aq at ht hw;refine aG (F:=Tryz.f263) c263 rfl rfl rfl mixed rfl fun X=>?_;(conv=>whnf);repeat ((first|refine ⟨af ⟨by omega,by omega⟩,?_⟩|(refine And.intro ?_ ?_;(focus ((conv=>whnf);intro g0;have g0:=of_decide_eq_true g0;refine ⟨?_,?_,?_⟩<;>omega))));conv=>whnf)
 refine ⟨congrArg AV.bool ?_,rfl⟩;unfold qg;rw [show (t.length:Int).toNat=t.length from rfl,List.take_length,show ((t.length:Int) - w.length).toNat=t.length - w.length by omega]
theorem AK (h:Dp) (u:ao) (part all:List UInt8) (d:Int) (hu:h.aj.length<=1048576) :
  ae Tryz.prog 241 [.agg (dW h),.agg (aT u),.str part,.int .i64 d,.str all] [] (.agg (dW ⟨h.form,part,d,all,h.closed,h.aj++[u]⟩)):=by
 refine ae.of (aG (F:=Tryz.f241) c241 rfl rfl rfl mixed rfl fun X=>?_);(conv=>whnf);intro b1;(conv=>whnf);intro b2;(conv=>whnf);repeat ((first|(refine ⟨(by simp;unfold aV;omega),fun q=>?_⟩)|(refine ⟨_,.here _,?_⟩)|(refine ⟨_,_,.there (.here _),aF,?_⟩)|(refine ⟨_,_,aK.there (.there (.here _)),⟨Nat.le_of_ble_eq_true rfl,rfl⟩,?_⟩)|refine ⟨_,_,.tail _ (.head _),rfl,?_⟩|refine ⟨_,_,.here _,aF,?_⟩|refine And.intro (by show aJ (aH Tryz.f241 _) _=true;decide +kernel) ?_);conv=>whnf)
 refine (show ag (.agg [.int .i64 h.form.entry,.int .i64 h.form.ending,.sl 1 none (ints h.form.ah),.str part,.int .i64 d,.str all,.bool h.closed,.sl 2 (some q) (h.aj.map aT++[aT u])]) (.agg (dW ⟨h.form,part,d,all,h.closed,h.aj++[u]⟩)) from ?_);refine ag.agg (.cons (ag.refl _) (.cons (ag.refl _) (.cons (ag.refl _) (.cons (ag.refl _) (.cons (ag.refl _) (.cons (ag.refl _) (.cons (ag.refl _) (.cons ?_ .nil))))))));show ag _ (.sl 2 none ((h.aj++[u]).map aT));rw [List.map_append];exact ag.sl
theorem J3 (h:Dp) (u:ao) (l:ao) (hl:h.aj.getLast?=some l) (hu:h.aj.length<=1048576) (ha:h.all.length<=aq) (EP:u.text.length<=aq) (aL:l.text.length<=aq) :
  ae Tryz.prog 242 [.agg (dW h),.agg (aT u)] [] (.bool ((decide (l.kind=2)||(decide (l.kind=1)&&decide (2<=(l.text.length:Int))))&&decide ((u.text.length:Int)<=l.text.length)&&qg h.all u.text)):=by
 have aI:h.aj≠[]:=by intro e;rw [e] at hl;cases hl
 have hlen:0<h.aj.length:=List.length_pos_iff.2 aI;have hg:h.aj[h.aj.length - 1]?=some l:=(by rw [<- hl,List.getLast?_eq_getElem?]);refine aG (F:=Tryz.f242) c242 rfl rfl rfl mixed rfl fun X=>?_;(conv=>whnf);skip;refine cF (by simp;omega) ?_;(conv=>whnf);repeat ((first|(refine cj (h.aj.length - 1) (by simp;omega) hg ?_)|refine aX (J2 h.all u.text ha EP) ?_|(refine ⟨af ⟨by simp;omega,by simp;omega⟩,?_⟩)|refine ⟨_,_,aK.here _,⟨Nat.le_of_ble_eq_true rfl,rfl⟩,?_⟩|intro (nb:Nat));conv=>whnf)
 exact ⟨rfl,rfl⟩
theorem J4 (h:Dp) (u:ao) (hl:h.aj=[]) :
  ae Tryz.prog 242 [.agg (dW h),.agg (aT u)] [] (.bool false):=by
 refine aG (F:=Tryz.f242) c242 rfl rfl rfl mixed rfl fun X=>?_;(conv=>whnf);skip;refine cT (by rw [hl];rfl) ?_;(conv=>whnf);exact ⟨rfl,rfl⟩
theorem ag.one {k:Nat} {t:Option Nat} {x y:List AV} (h:cP x y):ag (.sl k t [x]) (.sl k none [y]):=by refine fun c u hu=>ag.sl c u (ag.nx (.cons h .nil) c u hu)
theorem J5 {t w:List UInt8} {d:Int}:fG ((t.take (t.length:Int).toNat).drop d.toNat) w=fG (t.drop d.toNat) w:=by rw [show (t.length:Int).toNat=t.length from rfl,List.take_length]
set_option maxHeartbeats 1000000 in
theorem GQ (s:Sp) (f:bc) (p:bg) (T:List ao) (u:ao) (hs:jx s) (hp:uo s p T) (hu:gG u) (he:s.e=cd s.H.lex f.entry) (hf:0<=f.entry/\f.entry<s.H.lex.entries.length) :
  ae Tryz.prog 191 [.agg (eV s.H.lex),.agg (dW (fq s f p T)),.agg (aT u)] [] (.sl 8 none ((aU s p u).map fun q=>dW (fq s f q (T++[u])))):=by
 have hb:=hs.body;have dI:=hp.ok.bE;have gJ:=hp.ok.bH;have CS:=hs.cQ hp.ok.dO;have EP:=hu.2.2;obtain ⟨z,hh⟩:∃ z,z=fq s f p T:=⟨_,rfl⟩;rw [<- hh];have e1:z.form.entry=f.entry:=by rw [hh];rfl
 have e3:z.form.ah=p.cl:=by rw [hh];rfl
 have e4:z.part=mW s p.cl:=by rw [hh];rfl
 have e5:z.done=(p.bH.length:Int) - iE s p.cl:=by rw [hh];rfl
 have e6:z.all=p.bH:=by rw [hh];rfl
 have e7:z.closed=p.closed:=by rw [hh];rfl
 have e8:z.aj=T:=by rw [hh];rfl
 have fQ:z.aj.length<=1048576:=by have:=hp.bE;rw [e8];omega
 have ke:u.text.length<=aq:=by unfold aq;omega
 have eD:(z.all++u.text).length<=aq:=by rw [e6,List.length_append];unfold aq;omega
 have Sj:=hs.lex.many.2.2;obtain ⟨Gs,J6⟩:=hp.part;rw [<- e4,<- e5] at Gs J6;have X4:=hp.base;have X5:z.part.length<=24:=by obtain ⟨pre,h1,h2⟩:=Lv s p.cl;have:=congrArg List.length h1;rw [List.length_append] at this;rw [e4];omega
 refine ae.of (aG (F:=Tryz.f191) c191 rfl rfl rfl mixed rfl fun X=>?_);(conv=>whnf);repeat ((first|(refine cj f.entry.toNat (by omega) (oB hf.1 hf.2) ?_)|(intro (b9:Nat))|refine ⟨_,_,aK.here _,⟨Nat.le_of_ble_eq_true rfl,rfl⟩,?_⟩);conv=>whnf)
 rcases (show u.kind=1\/u.kind=2\/u.kind=3\/u.kind=4 by have:=hu.1;have:=hu.2.1;omega) with hk|hk|hk|hk
 ·refine cT (by simp [hk]) ?_;have mI:aU s p u=gM s p u:=(by rw [aU,if_pos hk]);(conv=>whnf);skip;refine ⟨fun hw=>?_,fun hw=>?_⟩
  ·have hw:(!decide (z.done=(z.part.length:Int)))=true:=hw;rw [Bool.not_eq_true',decide_eq_false_iff_not] at hw;have hc:jO s p≠[]:=by rw [Gs,ne_eq,List.drop_eq_nil_iff];omega
   have hm:aU s p u=if fG (jO s p) u.text=true then [⟨p.bH++u.text,p.closed,p.cl,u⟩] else []:=(by rw [mI,gM,if_pos hc]);have pt:=Lx ((z.part.take (z.part.length:Int).toNat).drop z.done.toNat) u.text (by simp;unfold aq;omega) ke;rw [J5,<- Gs] at pt;(conv=>whnf);repeat ((first|refine ⟨af ⟨by omega,by omega⟩,?_⟩|(refine aX pt ?_)|refine And.intro (by show aJ (aH Tryz.f191 _) _=true;decide +kernel) ?_);conv=>whnf)
   refine ⟨fun hq=>?_,fun hq=>?_⟩
   ·have hq:fG (jO s p) u.text=true:=hq;rw [hm,if_pos hq];(conv=>whnf);repeat ((first|refine ⟨af ⟨by omega,by omega⟩,?_⟩|refine ae.k0 (AK z u z.part (z.all++u.text) (z.done+(u.text.length:Int)) fQ) ?_|(refine ⟨af eD,?_⟩)|(refine ⟨Nat.le_of_ble_eq_true rfl,fun q3=>?_⟩));conv=>whnf)
    refine ag.one ?_;rw [hh];unfold dW fq;simp only [List.length_append];rw [show (((p.bH.length+u.text.length:Nat):Int) - (iE s p.cl:Int))=(p.bH.length:Int) - iE s p.cl+u.text.length by omega];exact cP.refl _
   have hq:fG (jO s p) u.text=false:=hq;rw [hm,if_neg (by rw [hq];decide)];(conv=>whnf);skip;exact ag.nil (by decide)
  have hw:(!decide (z.done=(z.part.length:Int)))=false:=hw;rw [Bool.not_eq_false',decide_eq_true_eq] at hw;have hc:jO s p=[]:=by rw [Gs,List.drop_eq_nil_iff];omega
  have aA:p.bH.length=(cQ s p.cl).length:=by unfold jO at hc;rw [List.drop_eq_nil_iff] at hc;omega
  have hm:aU s p u=if p.cl.length<3 then fk p u (s.H.lex.ah.drop (dD p.cl).toNat) (dD p.cl) else []:=(by rw [mI,gM,if_neg (by simpa using hc)]);have kg:=Eu hp.ok;(conv=>whnf);skip;refine ⟨fun hn=>?_,fun hn=>?_⟩
  ·have hn:decide (0<((ints z.form.ah).length:Int))=true:=hn;rw [e3] at hn;simp at hn;obtain ⟨c,bw⟩:=aN (l:=z.form.ah) (i:=z.form.ah.length - 1) (by rw [e3];omega);have Ly:c+1=dD p.cl:=by unfold dD;rw [<- e3,List.getLast?_eq_getElem?,bw]
   (conv=>whnf);repeat ((first|refine ⟨af ⟨by omega,by omega⟩,?_⟩|(refine cj (z.form.ah.length - 1) (by rw [dB,e3];omega) bw ?_)|(refine ⟨af ⟨by rw [dB,e3];omega,by rw [dB,e3];omega⟩,?_⟩));conv=>whnf)
   refine cy rfl mixed [3,4,5,7,12] [] (fun m r h=>∃ (c:Int) (o:List bg) (v:AV) (gq:ab),r=[(3,[],.au (eV s.H.lex)),(4,[],.au (dW z)),(5,[],.au (aT u)),(7,[],v),(12,[],.int .i64 c)]/\h=gq/\m=(s.H.lex.ah.length - c).toNat/\0<=c/\c<=s.H.lex.ah.length/\Out 8 (fun q=>dW (fq s f q (T++[u]))) o v gq/\o.length<=c/\aU s p u=o++(if p.cl.length<3 then fk p u (s.H.lex.ah.drop c.toNat) c else [])) ?_ ?_
   ·(conv=>whnf);exact ⟨_,_,ar.refl _ _,_,dD p.cl,[],_,[],by rw [<- Ly],rfl,rfl,kg.1,kg.2,.inl ⟨rfl,rfl,rfl⟩,by simpa using kg.1,by rw [hm];rfl⟩
   rintro m r h' ⟨c,o,v,gq,rfl,rfl,rfl,jJ,KW,hv,mE,bS⟩;have jm:o.length+1<=aV:=by have:=hs.lex.many;unfold aV;omega
   (conv=>whnf);skip;refine ⟨fun aD=>?_,fun aD=>?_⟩
   ·have cI:c<s.H.lex.ah.length/\p.cl.length<3:=by
     have aD:(decide (c<((s.H.lex.ah.map gI).length:Int))&&decide (((ints z.form.ah).length:Int)<3))=true:=aD;rw [e3] at aD;simp at aD;exact ⟨aD.1,by omega⟩
    have zT:=mR (hs.lex.cE jJ cI.1).text;have bw:(cE s.H.lex c).text.length<=aq:=by unfold aq;omega
    rw [if_pos cI.2,drop_cons (kM jJ cI.1),fk,show ((c.toNat:Nat)+1)=(c+1).toNat by omega] at bS;(conv=>whnf);repeat ((first|(refine cj c.toNat (by omega) (kM jJ cI.1) ?_)|refine aX (Lx (cE s.H.lex c).text u.text bw ke) ?_|refine And.intro (by show aJ (aH Tryz.f191 _) _=true;decide +kernel) ?_);conv=>whnf)
    refine ⟨fun hq=>?_,fun hq=>?_⟩
    ·have hq:fG (cE s.H.lex c).text u.text=true:=hq;rw [if_pos hq] at bS;obtain ⟨qn,Dr⟩:∃ q:bg,q=⟨p.bH++u.text,p.closed,p.cl++[c],u⟩:=⟨_,rfl⟩;rw [<- Dr] at bS;have jf:dW (fq s f qn (T++[u]))=[.int .i64 z.form.entry,.int .i64 z.form.ending,.sl 1 none (ints (p.cl++[c])),.str (cE s.H.lex c).text,.int .i64 u.text.length,.str (z.all++u.text),.bool z.closed,.sl 2 none ((z.aj++[u]).map aT)]:=by rw [Dr,hh];unfold dW fq;simp only [Dq,Lw,List.length_append];rw [show (((p.bH.length+u.text.length:Nat):Int) - ((cQ s p.cl).length:Int))=(u.text.length:Int) by omega]
     have hle:∀ t,cP [.int .i64 z.form.entry,.int .i64 z.form.ending,.sl 1 t (ints z.form.ah++[[.int .i64 c]]),.str (cE s.H.lex c).text,.int .i64 u.text.length,.str (z.all++u.text),.bool z.closed,.sl 2 none ((z.aj++[u]).map aT)] (dW (fq s f qn (T++[u]))):=fun t=>by rw [jf,e3];exact .cons (ag.refl _) (.cons (ag.refl _) (.cons ua (cP.refl _)))
     rcases hv with ⟨Lz,rfl,rfl⟩|⟨qv,rfl,rfl⟩
     all_goals
      (conv=>whnf);repeat ((first|refine ⟨af ⟨by omega,by omega⟩,?_⟩|(refine cj c.toNat (by omega) (kM jJ cI.1) ?_)|refine aX (AK z u (cE s.H.lex c).text (z.all++u.text) (u.text.length:Int) fQ) ?_|(refine ⟨af eD,?_⟩)|(intro (J7:Nat))|(refine ⟨(by rw [e3];simp;unfold aV;omega),fun q3=>?_⟩)|(refine ⟨_,.here _,?_⟩)|(refine ⟨_,.there (.there (.here _)),?_⟩)|refine ⟨_,_,.tail _ (.head _),rfl,?_⟩|refine ⟨_,_,.here _,aF,?_⟩|refine ⟨_,_,.there (.here _),aF,?_⟩|refine And.intro (by show aJ (aH Tryz.f191 _) _=true;decide +kernel) ?_);conv=>whnf)
      refine ⟨[(3,[],.au (eV s.H.lex)),(4,[],.au (dW z)),(5,[],.au (aT u)),(7,[],.sl 8 (some q3) ((o++[qn]).map fun q=>dW (fq s f q (T++[u])))),(12,[],.int .i64 (c+1))],[(q3,.tok)],?_,_,(by omega),c+1,_,_,[(q3,.tok)],rfl,rfl,rfl,by omega,by omega,.inr ⟨_,rfl,rfl⟩,by simp;omega,by rw [if_pos cI.2,bS,List.append_assoc]⟩;refine ar.one (.cons (ag.refl _) (.cons (ag.refl _) (.cons (ag.refl _) (.cons ?_ (je.refl _))))) (by simp)
      first
       | (rw [Lz];exact ag.nx (.cons (hle _) .nil))
       | (rw [List.map_append (f:=fun q=>dW (fq s f q (T++[u])))];exact ag.nx (iy.snoc (hle _)))
    have hq:fG (cE s.H.lex c).text u.text=false:=hq;rw [if_neg (by rw [hq];decide),List.nil_append] at bS;(conv=>whnf);repeat (refine ⟨af ⟨by omega,by omega⟩,?_⟩;conv=>whnf)
    exact ⟨_,_,ar.refl _ _,_,(by omega),c+1,o,_,_,rfl,rfl,rfl,by omega,by omega,hv,by omega,by rw [if_pos cI.2];exact bS⟩
   have yR:aU s p u=o:=by
    rw [bS];have aD:(decide (c<((s.H.lex.ah.map gI).length:Int))&&decide (((ints z.form.ah).length:Int)<3))=false:=aD;rw [e3] at aD;simp at aD;split
    ·rename_i h3;rw [drop_nil (by omega)];simp [fk]
    simp
   rw [yR];(conv=>whnf);skip;exact hv.le (by decide)
  have hn:decide (0<((ints z.form.ah).length:Int))=false:=hn;rw [e3] at hn;simp at hn;have Ly:(-1:Int)+1=dD p.cl:=by rw [hn];rfl
  (conv=>whnf);repeat (refine ⟨af ⟨by omega,by omega⟩,?_⟩;conv=>whnf)
  refine cy rfl mixed [3,4,5,7,12] [] (fun m r h=>∃ (c:Int) (o:List bg) (v:AV) (gq:ab),r=[(3,[],.au (eV s.H.lex)),(4,[],.au (dW z)),(5,[],.au (aT u)),(7,[],v),(12,[],.int .i64 c)]/\h=gq/\m=(s.H.lex.ah.length - c).toNat/\0<=c/\c<=s.H.lex.ah.length/\Out 8 (fun q=>dW (fq s f q (T++[u]))) o v gq/\o.length<=c/\aU s p u=o++(if p.cl.length<3 then fk p u (s.H.lex.ah.drop c.toNat) c else [])) ?_ ?_
  ·(conv=>whnf);exact ⟨_,_,ar.refl _ _,_,dD p.cl,[],_,[],by rw [<- Ly],rfl,rfl,kg.1,kg.2,.inl ⟨rfl,rfl,rfl⟩,by simpa using kg.1,by rw [hm];rfl⟩
  rintro m r h' ⟨c,o,v,gq,rfl,rfl,rfl,jJ,KW,hv,mE,bS⟩;have jm:o.length+1<=aV:=by have:=hs.lex.many;unfold aV;omega
  (conv=>whnf);skip;refine ⟨fun aD=>?_,fun aD=>?_⟩
  ·have cI:c<s.H.lex.ah.length/\p.cl.length<3:=by
    have aD:(decide (c<((s.H.lex.ah.map gI).length:Int))&&decide (((ints z.form.ah).length:Int)<3))=true:=aD;rw [e3] at aD;simp at aD;exact ⟨aD.1,by omega⟩
   have zT:=mR (hs.lex.cE jJ cI.1).text;have bw:(cE s.H.lex c).text.length<=aq:=by unfold aq;omega
   rw [if_pos cI.2,drop_cons (kM jJ cI.1),fk,show ((c.toNat:Nat)+1)=(c+1).toNat by omega] at bS;(conv=>whnf);repeat ((first|(refine cj c.toNat (by omega) (kM jJ cI.1) ?_)|refine aX (Lx (cE s.H.lex c).text u.text bw ke) ?_|refine And.intro (by show aJ (aH Tryz.f191 _) _=true;decide +kernel) ?_);conv=>whnf)
   refine ⟨fun hq=>?_,fun hq=>?_⟩
   ·have hq:fG (cE s.H.lex c).text u.text=true:=hq;rw [if_pos hq] at bS;obtain ⟨qn,Dr⟩:∃ q:bg,q=⟨p.bH++u.text,p.closed,p.cl++[c],u⟩:=⟨_,rfl⟩;rw [<- Dr] at bS;have jf:dW (fq s f qn (T++[u]))=[.int .i64 z.form.entry,.int .i64 z.form.ending,.sl 1 none (ints (p.cl++[c])),.str (cE s.H.lex c).text,.int .i64 u.text.length,.str (z.all++u.text),.bool z.closed,.sl 2 none ((z.aj++[u]).map aT)]:=by rw [Dr,hh];unfold dW fq;simp only [Dq,Lw,List.length_append];rw [show (((p.bH.length+u.text.length:Nat):Int) - ((cQ s p.cl).length:Int))=(u.text.length:Int) by omega]
    have hle:∀ t,cP [.int .i64 z.form.entry,.int .i64 z.form.ending,.sl 1 t (ints z.form.ah++[[.int .i64 c]]),.str (cE s.H.lex c).text,.int .i64 u.text.length,.str (z.all++u.text),.bool z.closed,.sl 2 none ((z.aj++[u]).map aT)] (dW (fq s f qn (T++[u]))):=fun t=>by rw [jf,e3];exact .cons (ag.refl _) (.cons (ag.refl _) (.cons ua (cP.refl _)))
    rcases hv with ⟨Lz,rfl,rfl⟩|⟨qv,rfl,rfl⟩
    all_goals
     (conv=>whnf);repeat ((first|refine ⟨af ⟨by omega,by omega⟩,?_⟩|(refine cj c.toNat (by omega) (kM jJ cI.1) ?_)|refine aX (AK z u (cE s.H.lex c).text (z.all++u.text) (u.text.length:Int) fQ) ?_|(refine ⟨af eD,?_⟩)|(intro (J7:Nat))|(refine ⟨(by rw [e3];simp;unfold aV;omega),fun q3=>?_⟩)|(refine ⟨_,.here _,?_⟩)|(refine ⟨_,.there (.there (.here _)),?_⟩)|refine ⟨_,_,.tail _ (.head _),rfl,?_⟩|refine ⟨_,_,.here _,aF,?_⟩|refine ⟨_,_,.there (.here _),aF,?_⟩|refine And.intro (by show aJ (aH Tryz.f191 _) _=true;decide +kernel) ?_);conv=>whnf)
     refine ⟨[(3,[],.au (eV s.H.lex)),(4,[],.au (dW z)),(5,[],.au (aT u)),(7,[],.sl 8 (some q3) ((o++[qn]).map fun q=>dW (fq s f q (T++[u])))),(12,[],.int .i64 (c+1))],[(q3,.tok)],?_,_,(by omega),c+1,_,_,[(q3,.tok)],rfl,rfl,rfl,by omega,by omega,.inr ⟨_,rfl,rfl⟩,by simp;omega,by rw [if_pos cI.2,bS,List.append_assoc]⟩;refine ar.one (.cons (ag.refl _) (.cons (ag.refl _) (.cons (ag.refl _) (.cons ?_ (je.refl _))))) (by simp)
     first
      | (rw [Lz];exact ag.nx (.cons (hle _) .nil))
      | (rw [List.map_append (f:=fun q=>dW (fq s f q (T++[u])))];exact ag.nx (iy.snoc (hle _)))
   have hq:fG (cE s.H.lex c).text u.text=false:=hq;rw [if_neg (by rw [hq];decide),List.nil_append] at bS;(conv=>whnf);repeat (refine ⟨af ⟨by omega,by omega⟩,?_⟩;conv=>whnf)
   exact ⟨_,_,ar.refl _ _,_,(by omega),c+1,o,_,_,rfl,rfl,rfl,by omega,by omega,hv,by omega,by rw [if_pos cI.2];exact bS⟩
  have yR:aU s p u=o:=by
   rw [bS];have aD:(decide (c<((s.H.lex.ah.map gI).length:Int))&&decide (((ints z.form.ah).length:Int)<3))=false:=aD;rw [e3] at aD;simp at aD;split
   ·rename_i h3;rw [drop_nil (by omega)];simp [fk]
   simp
  rw [yR];(conv=>whnf);skip;exact hv.le (by decide)
 ·refine cF (by simp [hk]) ?_;have mI:aU s p u=if rk s p u=true then [] else [⟨u.text,p.closed,p.cl,u⟩]:=by rw [aU,if_neg (by omega),if_pos hk]
  have hz:(decide (((z.aj.map aT).length:Int)=0)&&decide (u.text=(cd s.H.lex f.entry).root))=!rk s p u:=by
   unfold rk;rw [<- he,Bool.not_or,Bool.not_not,Bool.not_not,List.length_map,e8];congr 1;rw [decide_eq_decide];refine ⟨fun h=>hp.new (List.eq_nil_of_length_eq_zero (by omega)),fun h=>?_⟩;by_cases hT:T=[]
   ·rw [hT];rfl
   exact absurd h (hp.last hT).2
  (conv=>whnf);skip;refine cT (by simp [hk]) ?_;(conv=>whnf);skip;refine ⟨fun hq=>?_,fun hq=>?_⟩
  ·have hq:=hz.symm.trans hq;rw [Bool.not_eq_true'] at hq;rw [mI,if_neg (by rw [hq];decide)];have ep:p.last.kind=0:=by unfold rk at hq;simp only [Bool.or_eq_false_iff,Bool.not_eq_false',decide_eq_true_eq] at hq;exact hq.1
   have J8:=(hp.ok.new ep).1;(conv=>whnf);repeat ((first|refine ae.k0 (AK z u z.part u.text (u.text.length:Int) fQ) ?_|(refine ⟨Nat.le_of_ble_eq_true rfl,fun q3=>?_⟩));conv=>whnf)
   refine ag.one ?_;rw [hh];unfold dW fq;simp only;rw [show (u.text.length:Int) - (iE s p.cl:Int)=u.text.length by rw [J8];simp [iE,cQ,jq,mW]];exact cP.refl _
  have hq:=hz.symm.trans hq;rw [Bool.not_eq_false'] at hq;rw [mI,if_pos hq];(conv=>whnf);skip;exact ag.nil (by decide)
 ·refine cF (by simp [hk]) ?_;have mI:aU s p u=if pE p u=true then [] else [⟨p.bH,p.closed,p.cl,u⟩]:=by rw [aU,if_neg (by omega),if_neg (by omega),if_pos hk]
  have lG:ae Tryz.prog 242 [.agg (dW z),.agg (aT u)] [] (.bool (!pE p u)):=by
   by_cases hT:T=[]
   ·have ep:=hp.new hT;have:pE p u=true:=by unfold pE FE;rw [ep];rfl
    rw [this];exact J4 z u (by rw [e8,hT])
   obtain ⟨h1,h2⟩:=hp.last hT;have:=J3 z u p.last (by rw [e8];exact h1) fQ (by rw [e6];unfold aq;omega) ke (by have:=hp.len;unfold aq;omega);rw [e6] at this;have hz:((decide (p.last.kind=2)||(decide (p.last.kind=1)&&decide (2<=(p.last.text.length:Int))))&&decide ((u.text.length:Int)<=p.last.text.length)&&qg p.bH u.text)=!pE p u:=by unfold pE FE;rw [Bool.not_or,Bool.not_or,Bool.not_not,Bool.not_not];congr 2;rw [Bool.eq_iff_iff];simp
   rw [hz] at this;exact this
  (conv=>whnf);skip;refine cF (by simp [hk]) ?_;(conv=>whnf);skip;refine cT (by simp [hk]) ?_;(conv=>whnf);repeat ((refine ae.k0 lG ?_);conv=>whnf)
  refine ⟨fun hq=>?_,fun hq=>?_⟩
  ·have hq:(!pE p u)=true:=hq;rw [Bool.not_eq_true'] at hq;rw [mI,if_neg (by rw [hq];decide)];(conv=>whnf);repeat ((first|refine ae.k0 (AK z u z.part z.all z.done fQ) ?_|(refine ⟨Nat.le_of_ble_eq_true rfl,fun q3=>?_⟩));conv=>whnf)
   refine ag.one ?_;rw [hh];exact cP.refl _
  have hq:(!pE p u)=false:=hq;rw [Bool.not_eq_false'] at hq;rw [mI,if_pos hq];(conv=>whnf);skip;exact ag.nil (by decide)
 refine cF (by simp [hk]) ?_;have mI:aU s p u=if vp s p u=true then [] else [⟨p.bH,true,p.cl,u⟩]:=by rw [aU,if_neg (by omega),if_neg (by omega),if_neg (by omega),if_pos hk]
 have hz:(decide (z.done=(z.part.length:Int))&&decide (((ints z.form.ah).length:Int)=0)&&!z.closed&&!decide ((cd s.H.lex f.entry).cls=[])&&decide (u.text=(cd s.H.lex f.entry).cls))=!vp s p u:=by
  unfold vp;rw [<- he,e3,e4,e5,e7,dB];by_cases bw:p.cl=[]
  ·have h1:((p.bH.length:Int) - iE s p.cl=((mW s p.cl).length:Int))↔((p.bH.length:Int)=s.body.length):=by
    rw [bw];simp [iE,cQ,jq,mW]
   rw [decide_eq_decide.2 h1,bw];cases p.closed<;>cases decide (s.e.cls=[])<;>cases decide (u.text=s.e.cls)<;>cases decide ((p.bH.length:Int)=s.body.length)<;>rfl
  have h1:0<p.cl.length:=List.length_pos_iff.2 bw;rw [decide_eq_false (show ¬ ((p.cl.length:Int)=0) by omega),decide_eq_true (show (0:Int)<p.cl.length by omega)];simp
 (conv=>whnf);skip;refine cF (by simp [hk]) ?_;(conv=>whnf);skip;refine cF (by simp [hk]) ?_;(conv=>whnf);skip;refine cT (by simp [hk]) ?_;(conv=>whnf);skip;refine ⟨fun hq=>?_,fun hq=>?_⟩
 ·have hq:=hz.symm.trans hq;rw [Bool.not_eq_true'] at hq;rw [mI,if_neg (by rw [hq];decide)];(conv=>whnf);repeat ((first|refine ae.k0 (AK z u z.part z.all z.done fQ) ?_|(refine ⟨Nat.le_of_ble_eq_true rfl,fun q3=>?_⟩)|(intro (bt:Nat))|refine ⟨_,_,.head _,rfl,?_⟩|refine ⟨_,_,.here _,aF,?_⟩);conv=>whnf)
  refine ag.one (x:=[.int .i64 z.form.entry,.int .i64 z.form.ending,.sl 1 none (ints z.form.ah),.str z.part,.int .i64 z.done,.str z.all,.bool true,.sl 2 none ((z.aj++[u]).map aT)]) ?_;rw [hh];exact cP.refl _
 have hq:=hz.symm.trans hq;rw [Bool.not_eq_false'] at hq;rw [mI,if_pos hq];(conv=>whnf);skip;exact ag.nil (by decide)
end Go.Abs.Wall
namespace Go.Abs.Wall
open Go Go.Abs Go.Proofs
def c132:aw:=⟨[0,1,2,3,4,5,7,8,31,39,40,47,54,61,68],[],[],[],[],[]⟩
theorem TD (s:Sp) (f:bc) (p:bg) (T:List ao) (hp:uo s p T):ae Tryz.prog 192 [.agg (dW (fq s f p T))] [] (.bool (ll s p&&decide (0<(T.length:Int)))):=by refine aG (F:=Tryz.f192) c192 rfl rfl rfl mixed rfl fun X=>?_;(conv=>whnf);skip;refine ⟨congrArg AV.bool ?_,rfl⟩;show (decide ((p.bH.length:Int) - iE s p.cl=((mW s p.cl).length:Int))&&decide (0<((T.map aT).length:Int)))=_;rw [List.length_map];congr 1;unfold ll;rw [decide_eq_decide];obtain ⟨pre,h1,h2⟩:=Lv s p.cl;have h3:=congrArg List.length h1;rw [List.length_append] at h3;have h4:=hp.base;omega
theorem TK (H:ax) (f:bc) (hx:pI H.lex) (hf:0<=f.entry/\f.entry<H.lex.entries.length) (hn:f.ending<H.lex.bL.length) (bw:True) :
  ae Tryz.prog 190 [.agg (eV H.lex),.int .i64 f.entry,.int .i64 f.ending] [] (.agg (dW (fq (bx H f) f fS []))):=by
 have hr:=mR (hx.cd hf.1 hf.2).root;have h0:fq (bx H f) f fS []=⟨⟨f.entry,f.ending,[]⟩,mS H.lex f.entry f.ending,0,[],false,[]⟩:=by unfold fq fS;simp [mW,iE,cQ,jq,bx]
 rw [h0];refine ae.of (aG (F:=Tryz.f190) c190 rfl rfl rfl mixed rfl fun X=>?_);(conv=>whnf);intro b1;(conv=>whnf);repeat ((first|(refine cj f.entry.toNat (by omega) (oB hf.1 hf.2) ?_)|(intro (b2:Nat))|refine ⟨_,_,.here _,aF,?_⟩);conv=>whnf)
 refine ⟨fun he=>?_,fun he=>?_⟩<;>simp at he
 ·have ht:=mR (hx.gT he hn).text;have hb:mS H.lex f.entry f.ending=(cd H.lex f.entry).root++(gT H.lex f.ending).text:=(by rw [mS,if_neg (by omega)]);(conv=>whnf);repeat ((first|(refine cj f.ending.toNat (by omega) (AD he hn) ?_)|(refine ⟨af (by rw [List.length_append];unfold aq;omega),?_⟩)|(refine ⟨⟨Nat.le_of_ble_eq_true rfl,rfl⟩,?_⟩)|refine ⟨_,_,aK.there (.here _),?_⟩|refine ⟨_,_,.head _,rfl,?_⟩|refine ⟨_,_,.here _,aF,?_⟩|refine And.intro (by show aJ (aH Tryz.f190 _) _=true;decide +kernel) ?_);conv=>whnf)
  rw [hb];exact ag.agg (.cons (ag.refl _) (.cons (ag.refl _) (.cons (ag.nil (k:=1) (by decide)) (.cons (ag.refl _) (.cons (ag.refl _) (.cons (ag.refl _) (.cons (ag.refl _) (.cons (ag.nil (k:=2) (by decide)) .nil))))))))
 have hb:mS H.lex f.entry f.ending=(cd H.lex f.entry).root:=(by rw [mS,if_pos he]);(conv=>whnf);repeat ((first|(refine ⟨⟨Nat.le_of_ble_eq_true rfl,rfl⟩,?_⟩)|refine ⟨_,_,aK.there (.here _),?_⟩|refine ⟨_,_,.head _,rfl,?_⟩);conv=>whnf)
 rw [hb];exact ag.agg (.cons (ag.refl _) (.cons (ag.refl _) (.cons (ag.nil (k:=1) (by decide)) (.cons (ag.refl _) (.cons (ag.refl _) (.cons (ag.refl _) (.cons (ag.refl _) (.cons (ag.nil (k:=2) (by decide)) .nil))))))))
theorem TE (H:ax) (w:cO) (hx:rh H.lex) (hH:ic H) (hf:w.form.ah.length<=aq) (he:0<=w.form.entry/\w.form.entry<H.lex.entries.length) (hu:w.aj.length<=1048576) :
  ae Tryz.prog 132 [.agg (bJ H),.agg (du w)] [] (.int .i64 (iM H w)):=by
 have A5:=KY (x:=H.lex) (f:=w.form);have de:=hH.cq H.cq.nH (by simp [iB]);refine aG (F:=Tryz.f132) c132 rfl rfl rfl mixed rfl fun X=>?_;(conv=>whnf);repeat ((first|refine ae.k0 (F4 H.lex w.form hx hf) ?_|(refine cj w.form.entry.toNat (by omega) (oB he.1 he.2) ?_));conv=>whnf)
 refine bM rfl mixed [2,3,5,7,8] [] (fun m r h=>∃ (i:Nat) (n:Int) (cl:Bool),r=[(2,[],.au (bJ H)),(3,[],.au (du w)),(5,[],.int .i64 n),(7,[],.bool (!decide ((cd H.lex w.form.entry).cls=[])&&!cl)),(8,[],.int .i64 i)]/\h=[]/\m=w.aj.length - i/\i<=w.aj.length/\n=tW H.lex w.form+lR H.cq (w.aj.take i)/\cl=tY (w.aj.take i)) ?_ ?_
 ·(conv=>whnf);exact ⟨_,0,tW H.lex w.form,false,by rw [Bool.not_false,Bool.and_true];rfl,rfl,rfl,by omega,by simp [lR],by simp [tY]⟩
 rintro m r h' ⟨i,n,cl,rfl,rfl,rfl,hi,hn,bw⟩;have hb:=Cu hH (w.aj.take i);rw [List.length_take] at hb;(conv=>whnf);skip;refine ⟨fun aD=>?_,fun aD=>?_⟩<;>simp at aD
 ·obtain ⟨u,dj⟩:=aN aD;have lf:=dg dj;have fH:=KX hH u;have fL:=Sn (c:=H.cq) (l:=w.aj.take i) (u:=u);have gn:=Sq (l:=w.aj.take i) (u:=u);rw [<- lf] at fL gn;unfold sL at fL fH;(conv=>whnf);repeat (refine ix (by assumption) ?_;conv=>whnf)
  refine ⟨fun hk=>?_,fun hk=>?_⟩<;>simp only [decide_eq_true_eq,decide_eq_false_iff_not] at hk
  ·rw [if_pos hk] at fL fH;(conv=>whnf);repeat (refine ⟨af ⟨by omega,by omega⟩,?_⟩;conv=>whnf)
   exact ⟨_,by omega,i+1,_,_,rfl,rfl,rfl,by omega,by rw [fL,hn];show _+_=_;omega,by rw [gn,bw,decide_eq_false (by omega),Bool.or_false]⟩
  rw [if_neg hk] at fL fH;(conv=>whnf);skip;refine ⟨fun bo=>?_,fun bo=>?_⟩<;>simp only [decide_eq_true_eq,decide_eq_false_iff_not] at bo
  ·rw [if_pos bo] at fL fH;(conv=>whnf);repeat (refine ⟨af ⟨by omega,by omega⟩,?_⟩;conv=>whnf)
   exact ⟨_,by omega,i+1,_,_,rfl,rfl,rfl,by omega,by rw [fL,hn];show _+_=_;omega,by rw [gn,bw,decide_eq_false (by omega),Bool.or_false]⟩
  rw [if_neg bo] at fL fH;(conv=>whnf);skip;refine ⟨fun nQ=>?_,fun nQ=>?_⟩<;>simp only [decide_eq_true_eq,decide_eq_false_iff_not] at nQ
  ·rw [if_pos nQ] at fL fH;(conv=>whnf);repeat (refine ⟨af ⟨by omega,by omega⟩,?_⟩;conv=>whnf)
   exact ⟨_,by omega,i+1,_,_,rfl,rfl,rfl,by omega,by rw [fL,hn];show _+_=_;omega,by rw [gn,bw,decide_eq_false (by omega),Bool.or_false]⟩
  rw [if_neg nQ] at fL fH;(conv=>whnf);skip;refine ⟨fun lQ=>?_,fun lQ=>?_⟩<;>simp only [decide_eq_true_eq,decide_eq_false_iff_not] at lQ
  ·rw [if_pos lQ] at fL fH;(conv=>whnf);repeat (refine ⟨af ⟨by omega,by omega⟩,?_⟩;conv=>whnf)
   exact ⟨_,by omega,i+1,n+H.cq.cls,true,by rw [Bool.not_true,Bool.and_false];rfl,rfl,rfl,by omega,by rw [fL,hn];show _+_=_;omega,by rw [gn,decide_eq_true lQ,Bool.or_true]⟩
  rw [if_neg lQ] at fL fH;(conv=>whnf);repeat (refine ⟨af ⟨by omega,by omega⟩,?_⟩;conv=>whnf)
  exact ⟨_,by omega,i+1,_,_,rfl,rfl,rfl,by omega,by rw [fL,hn];omega,by rw [gn,bw,decide_eq_false lQ,Bool.or_false]⟩
 rw [List.take_of_length_le aD] at hn bw hb;(conv=>whnf);skip;refine ⟨fun hq=>?_,fun hq=>?_⟩
 ·have hq:(!decide ((cd H.lex w.form.entry).cls=[])&&!cl)=true:=hq;rw [bw,Bool.and_comm] at hq;(conv=>whnf);repeat (refine ⟨af ⟨by omega,by omega⟩,?_⟩;conv=>whnf)
  refine ⟨congrArg (AV.int .i64) ?_,rfl⟩;rw [iM,if_pos hq,hn]
 have hq:(!decide ((cd H.lex w.form.entry).cls=[])&&!cl)=false:=hq;rw [bw,Bool.and_comm] at hq;(conv=>whnf);skip;refine ⟨congrArg (AV.int .i64) ?_,rfl⟩;rw [iM,if_neg (by rw [hq];decide),hn];omega
theorem Ua {H:ax} (hh:eP H) (h0:eG H=0) {line:List Int} (hl:line.length<=aq):ae Tryz.prog 130 [.agg (pG H.list),.sl 1 none (ints line)] [] (.int .i64 (eb H line)):=by have:=F5 H.list line hh.list hl;rwa [show Ak H.list line=eb H line by rw [eb,if_neg (by omega)];rfl] at this
end Go.Abs.Wall
namespace Go.Abs.Wall
open Go Go.Abs Go.Proofs
end Go.Abs.Wall
namespace Go.Abs.Wall
open Go Go.Abs Go.Proofs
def pK:List Int->List Int->Int
 | x::s,y::t=>if x≠y then x - y else pK s t
 | s,t=>(s.length:Int) - t.length
def oE (a b:bc):Int:=if a.entry≠b.entry then a.entry - b.entry else if a.ending≠b.ending then a.ending - b.ending else pK a.ah b.ah
structure FT (f:bc):Prop where
 entry:-1<=f.entry/\f.entry<=1048576
 ending:-1<=f.ending/\f.ending<=1048576
 cl:∀ c∈f.ah,-1<=c/\c<=1048576
 bE:f.ah.length<=1048576
def c141:aw:=⟨[0,1,2,3,4,5,10,20,37,50],[],[],[],[(8,[0,1,2,3,4,5,6,7,8,9,10],[]),(9,[0,1,2,3,4,5,6,7,8,9,10,11],[])],[]⟩
def c212:aw:=⟨[0,1,2,3,4,5,6,13,27,34,47],[],[],[],[(9,[0,1,2,3,4,5,6,7,8,9,10],[]),(10,[0,1,2,3,4,5,6,7,8,9,10,11],[])],[]⟩
theorem J9 (a b:bc) (ha:FT a) (hb:FT b):ae Tryz.prog 141 [.agg (dm a),.agg (dm b)] [] (.int .i64 (oE a b)):=by
 have h1:=ha.entry;have h2:=hb.entry;have h3:=ha.ending;have h4:=hb.ending;have h5:=ha.bE;have h6:=hb.bE;refine aG (F:=Tryz.f141) c141 rfl rfl rfl mixed rfl fun X=>?_;(conv=>whnf);skip;refine ⟨fun hq=>?_,fun hq=>?_⟩<;>simp at hq
 ·(conv=>whnf);repeat (refine ⟨af ⟨by omega,by omega⟩,?_⟩;conv=>whnf)
  exact ⟨by rw [oE,if_pos hq],rfl⟩
 (conv=>whnf);skip;refine ⟨fun hr=>?_,fun hr=>?_⟩<;>simp at hr
 ·(conv=>whnf);repeat (refine ⟨af ⟨by omega,by omega⟩,?_⟩;conv=>whnf)
  exact ⟨by rw [oE,if_neg (by simpa using hq),if_pos hr],rfl⟩
 have h0:oE a b=pK a.ah b.ah:=(by rw [oE,if_neg (by simpa using hq),if_neg (by simpa using hr)]);(conv=>whnf);skip;refine bM rfl mixed [2,3,5] [] (fun m r h=>∃ (i:Nat),r=[(2,[],.au (dm a)),(3,[],.au (dm b)),(5,[],.int .i64 i)]/\h=[]/\m=a.ah.length - i/\i<=a.ah.length/\i<=b.ah.length/\oE a b=pK (a.ah.drop i) (b.ah.drop i)) ?_ ?_
 ·(conv=>whnf);exact ⟨_,0,rfl,rfl,rfl,by omega,by omega,h0⟩
 rintro m r h ⟨i,rfl,rfl,rfl,hi,hj,hg⟩;(conv=>whnf);skip;refine ⟨fun hc=>?_,fun hc=>?_⟩
 ·have hc:(decide ((i:Int)<((ints a.ah).length:Int))&&decide ((i:Int)<((ints b.ah).length:Int)))=true:=hc;simp at hc;obtain ⟨x,hx⟩:=aN hc.1;obtain ⟨y,hy⟩:=aN hc.2;have ee:=ha.cl x (List.mem_of_getElem? hx);have yI:=hb.cl y (List.mem_of_getElem? hy);rw [drop_cons hx,drop_cons hy,pK] at hg;(conv=>whnf);repeat ((first|refine ix (by assumption) ?_|refine And.intro (by show aJ (aH Tryz.f141 _) _=true;decide +kernel) ?_);conv=>whnf)
  refine ⟨fun he=>?_,fun he=>?_⟩<;>simp at he
  ·rw [if_pos he] at hg;(conv=>whnf);repeat ((first|refine ⟨af ⟨by omega,by omega⟩,?_⟩|refine ix (by assumption) ?_|refine And.intro (by show aJ (aH Tryz.f141 _) _=true;decide +kernel) ?_);conv=>whnf)
   exact ⟨by rw [hg],rfl⟩
  rw [if_neg (by simpa using he)] at hg;(conv=>whnf);repeat (refine ⟨af ⟨by omega,by omega⟩,?_⟩;conv=>whnf)
  exact ⟨_,by omega,i+1,rfl,rfl,rfl,by omega,by omega,hg⟩
 have hc:(decide ((i:Int)<((ints a.ah).length:Int))&&decide ((i:Int)<((ints b.ah).length:Int)))=false:=hc;simp at hc
 have hz:oE a b=(a.ah.length:Int) - b.ah.length:=by
  rw [hg];have kE:((a.ah.drop i).length:Int)=a.ah.length - i:=by rw [List.length_drop];omega
  have hD:((b.ah.drop i).length:Int)=b.ah.length - i:=by rw [List.length_drop];omega
  cases h1:a.ah.drop i with
  | nil=>rw [h1] at kE;unfold pK;rw [kE,hD];omega
  | cons x s=>
    cases h2:b.ah.drop i with
    | nil=>rw [h2] at hD;unfold pK;rw [<- h1,kE,hD];omega
    | cons y t=>
      rw [h1] at kE;rw [h2] at hD;simp at kE hD;omega
 (conv=>whnf);repeat ((refine ⟨af ⟨by rw [dB,dB];omega,by rw [dB,dB];omega⟩,?_⟩);conv=>whnf)
 exact ⟨by rw [hz,dB,dB],rfl⟩
theorem KI:∀ (s t:List Int),(pK s t<0↔cu bN s t<0)/\(pK s t=0↔cu bN s t=0)
 | [],[]=>by simp [pK,cu]
 | [],y::t=>by simp [pK,cu];omega
 | x::s,[]=>by simp [pK,cu];omega
 | x::s,y::t=>by
   have ih:=KI s t;unfold pK cu;by_cases h:x=y
   ·rw [if_neg (by simpa using h),if_neg (by rw [ne_eq,kT];simpa using h)];exact ih
   rw [if_pos h,if_pos (by rw [ne_eq,kT];exact h),sN,kT];omega
def Ds (a b:cO):Bool:=decide (ny a b<0)
theorem Tg (a b:cO):ny a b=if bN a.aj.length b.aj.length≠0 then bN a.aj.length b.aj.length else if bN a.form.entry b.form.entry≠0 then bN a.form.entry b.form.entry else if bN a.form.ending b.form.ending≠0 then bN a.form.ending b.form.ending else if cu bN a.form.ah b.form.ah≠0 then cu bN a.form.ah b.form.ah else cu fl a.aj b.aj:=by unfold ny;rw [fT,fT,fT,yN]
theorem RF (a b:cO) (h:a.aj.length=b.aj.length):(oE a.form b.form≠0->(oE a.form b.form<0↔ny a b<0))/\(oE a.form b.form=0->ny a b=cu fl a.aj b.aj):=by
 have hc:=KI a.form.ah b.form.ah;have h0:¬ bN (a.aj.length:Int) b.aj.length≠0:=by rw [ne_eq,kT];omega
 rw [Tg,if_neg h0];unfold oE;by_cases h1:a.form.entry=b.form.entry
 ·have k1:¬ bN a.form.entry b.form.entry≠0:=by rw [ne_eq,kT];simpa using h1
  have k2:¬ a.form.entry≠b.form.entry:=(by simpa using h1);rw [if_neg k1,if_neg k2];by_cases h2:a.form.ending=b.form.ending
  ·have k3:¬ bN a.form.ending b.form.ending≠0:=by rw [ne_eq,kT];simpa using h2
   have k4:¬ a.form.ending≠b.form.ending:=(by simpa using h2);rw [if_neg k3,if_neg k4];by_cases h3:pK a.form.ah b.form.ah=0
   ·have k5:¬ cu bN a.form.ah b.form.ah≠0:=by rw [ne_eq,<- hc.2];simpa using h3
    rw [if_neg k5];exact ⟨fun h=>absurd h3 h,fun _=>rfl⟩
   have k5:cu bN a.form.ah b.form.ah≠0:=by rw [ne_eq,<- hc.2];exact h3
   rw [if_pos k5];exact ⟨fun _=>hc.1,fun h=>absurd h h3⟩
  have k3:bN a.form.ending b.form.ending≠0:=by rw [ne_eq,kT];exact h2
  have k4:a.form.ending≠b.form.ending:=h2;rw [if_pos k3,if_pos k4,sN];exact ⟨fun _=>by omega,fun h=>by omega⟩
 have k1:bN a.form.entry b.form.entry≠0:=by rw [ne_eq,kT];exact h1
 have k2:a.form.entry≠b.form.entry:=h1;rw [if_pos k1,if_pos k2,sN];exact ⟨fun _=>by omega,fun h=>by omega⟩
structure Bh (w:cO):Prop where
 form:FT w.form
 aj:w.aj.length<=1048576
theorem TN (a b:cO) (ha:Bh a) (hb:Bh b):ae Tryz.prog 212 [.agg (du a),.agg (du b)] [] (.bool (Ds a b)):=by
 have h1:=ha.aj;have h2:=hb.aj;refine aG (F:=Tryz.f212) c212 rfl rfl rfl mixed rfl fun X=>?_;(conv=>whnf);skip;refine ⟨fun hq=>?_,fun hq=>?_⟩<;>simp at hq
 ·(conv=>whnf);skip;refine ⟨congrArg AV.bool ?_,rfl⟩;unfold Ds;rw [Tg,if_pos (by rw [ne_eq,kT];omega),List.length_map,List.length_map,decide_eq_decide,sN]
 have hl:a.aj.length=b.aj.length:=(by omega);obtain ⟨fy,K0⟩:=RF a b hl;(conv=>whnf);repeat (refine ae.k0 (J9 a.form b.form ha.form hb.form) ?_;conv=>whnf)
 refine ⟨fun hr=>?_,fun hr=>?_⟩<;>simp at hr
 ·(conv=>whnf);skip;refine ⟨congrArg AV.bool ?_,rfl⟩;unfold Ds;rw [decide_eq_decide];exact fy hr
 have hz:=K0 hr;(conv=>whnf);skip;refine bM rfl mixed [2,3,6] [] (fun m r h=>∃ (i:Nat),r=[(2,[],.au (du a)),(3,[],.au (du b)),(6,[],.int .i64 i)]/\h=[]/\m=a.aj.length - i/\i<=a.aj.length/\ny a b=cu fl (a.aj.drop i) (b.aj.drop i)) ?_ ?_
 ·(conv=>whnf);exact ⟨_,0,rfl,rfl,rfl,by omega,hz⟩
 rintro m r h ⟨i,rfl,rfl,rfl,hi,hg⟩;(conv=>whnf);skip;refine ⟨fun hc=>?_,fun hc=>?_⟩<;>simp at hc
 ·obtain ⟨x,hx⟩:=aN hc;obtain ⟨y,hy⟩:=aN (l:=b.aj) (i:=i) (by omega);rw [drop_cons hx,drop_cons hy,cu] at hg;(conv=>whnf);repeat ((first|refine ix (by assumption) ?_|(refine ⟨Dg,?_⟩)|refine And.intro (by show aJ (aH Tryz.f212 _) _=true;decide +kernel) ?_);conv=>whnf)
  refine ⟨fun he=>?_,fun he=>?_⟩
  ·have he:(!mg x y)=true:=he;rw [tE,Bool.not_eq_true',decide_eq_false_iff_not] at he;rw [if_pos (by rw [ne_eq,zU.zero];exact he)] at hg;(conv=>whnf);repeat ((first|refine ix (by assumption) ?_|refine aX (Lo x y) ?_|refine And.intro (by show aJ (aH Tryz.f212 _) _=true;decide +kernel) ?_);conv=>whnf)
   refine ⟨congrArg AV.bool ?_,rfl⟩;unfold Ds mV;rw [hg]
  have he:(!mg x y)=false:=he;rw [tE,Bool.not_eq_false',decide_eq_true_eq] at he;rw [if_neg (by rw [ne_eq,zU.zero];simpa using he)] at hg;(conv=>whnf);repeat (refine ⟨af ⟨by omega,by omega⟩,?_⟩;conv=>whnf)
  exact ⟨_,by omega,i+1,rfl,rfl,rfl,by omega,hg⟩
 rw [drop_nil hc,drop_nil (by omega),cu] at hg;(conv=>whnf);skip;refine ⟨congrArg AV.bool ?_,rfl⟩;unfold Ds;rw [hg];rfl
end Go.Abs.Wall
