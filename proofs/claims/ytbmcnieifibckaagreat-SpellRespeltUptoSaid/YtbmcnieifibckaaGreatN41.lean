/- What is proved: small laws for the walks of this seat, and contracts of its functions. No condition but those each theorem names. -/
import Derived.Test.YtbmcnieifibckaaGreatN39
import Derived.Test.YtbmcnieifibckaaGreatN33
import Derived.Test.YtbmcnieifibckaaGreatN11
import Derived.Test.YtbmcnieifibckaaGreatN38
set_option maxRecDepth 100000
set_option maxHeartbeats 2000000
set_option linter.unusedVariables false
set_option linter.unusedSimpArgs false
namespace Go.Abs.Wall.Spl
open Go Go.Abs Go.Proofs Go.Abs.Wall
theorem Mj {H:aj} {B:bl} {f:aZ} {most:Int} (h:gY H B f most=0):ja H B f=0/\(1<=most/\most<=64)/\eY (cD H B f) eK≠[]:=by
 unfold gY at h;split at h
 ·rename_i h1;exact absurd h h1
 rename_i h1;split at h
 ·rename_i h2;split at h
  ·cases h
  rename_i h3;exact ⟨by simpa using h1,h2,h3⟩
 cases h
theorem Th {H:aj} {B:bl} {f:aZ} (h:gY H B f 1=0):∃ w,(eY (cD H B f) eK)[0]?=some w/\dz H B f=nY (cD H B f) w:=by obtain ⟨_,_,h3⟩:=Mj h;obtain ⟨w,hw⟩:=aL (l:=eY (cD H B f) eK) (i:=0) (List.length_pos_iff.2 h3);refine ⟨w,hw,?_⟩;unfold dz mb;rw [if_pos h];unfold iE;have:=drop_cons hw;rw [List.drop_zero] at this;rw [this];rfl
theorem D7 {H:aj} {B:bl} {f:aZ} (h:gY H B f 1=0):nx H B (dz H B f).aA ⟨f,(dz H B f).ai⟩=0/\xt H B (dz H B f).aA ⟨f,(dz H B f).ai⟩=(dz H B f).cost:=by obtain ⟨w,hw,hb⟩:=Th h;rw [hb];exact o9 (Mj h).1 hw
theorem Ti {H:aj} {B:bl} {line:List Int} {w:bU} (h:nx H B line w=0):iD H B=0/\fQ H line w=0/\kO H B line w=true:=by
 unfold nx at h;split at h
 ·rename_i e;exact absurd h e
 rename_i e1;split at h
 ·rename_i e;exact absurd h e
 rename_i e2;split at h
 ·rename_i hk;exact ⟨by omega,by omega,hk⟩
 exact absurd h (by decide)
def jc (H:aj) (B:bl) (f:aZ):bU:=⟨f,(dz H B f).ai⟩
theorem Tj {H:aj} {B:bl}:∀ {l:List aZ},tE H B l=0->∀ f∈l,gY H B f 1=0
 | [],_,f,hf=>by cases hf
 | g::t,h,f,hf=>by
   unfold tE at h;split at h
   ·rename_i h1;exact absurd h h1
   rename_i h1;rcases List.mem_cons.1 hf with rfl|hf
   ·omega
   exact Tj h f hf
theorem Ei {H:aj} {B:bl} {l:List aZ} (h:iG H B l=0):iD H B=0/\l.length<=60/\(∀ f∈l,gY H B f 1=0)/\(cq H B l).length<=60/\tF H B l=cq H B l/\xD H B l=rX H B l:=by
 have hh:=h;unfold iG at h;split at h
 ·rename_i e;exact absurd h e
 rename_i e1;split at h
 ·cases h
 split at h
 ·rename_i e;exact absurd h e
 rename_i e2;split at h
 ·cases h
 exact ⟨by omega,by omega,Tj (by omega),by omega,by unfold tF;rw [if_pos hh],by unfold xD;rw [if_pos hh]⟩
theorem Mk {H:aj} {B:bl} {f:aZ} (h:gY H B f 1=0):dZ H.lex f=0/\jm H (dz H B f).aA (jc H B f)=true/\dX H (dz H B f).aA=0/\kO H B (dz H B f).aA (jc H B f)=true/\(dz H B f).aA.length=(dz H B f).ai.length/\1<=(dz H B f).aA.length:=by obtain ⟨h1,_⟩:=D7 h;obtain ⟨_,h2,h3⟩:=Ti h1;obtain ⟨h4,h5,h6⟩:=xq h2;obtain ⟨h7,h8⟩:=rG h6;exact ⟨h5,h6,h4,h3,h8,h7.1⟩
theorem Ml {H:aj} {B:bl}:∀ {l:List aZ},(∀ f∈l,gY H B f 1=0)->∀ a∈cq H B l,0<=a/\a<H.list.aA.length
 | [],_,a,ha=>by cases ha
 | f::t,h,a,ha=>by
   unfold cq at ha;rw [List.map_cons,List.flatten_cons,List.mem_append] at ha;rcases ha with ha|ha
   ·exact (mT (Mk (h f (by simp))).2.2.1).aA a ha
   exact Ml (fun g hg=>h g (by simp [hg])) a ha
theorem Tk {H:aj} {B:bl}:∀ {l:List aZ},(∀ f∈l,gY H B f 1=0)->∀ c i:Int,oK H (cq H B l) (l.map (jc H B)) c i=⟨c+((l.map fun f=>gC H (jc H B f)).sum),0,0⟩
 | [],_,c,i=>by show (if 0<([]:List Int).length then _ else _)=_;rw [if_neg (by decide)];simp
 | f::t,h,c,i=>by
   obtain ⟨h1,h2,_,_,h3,_⟩:=Mk (h f (by simp));have ih:=Tk (l:=t) (fun g hg=>h g (by simp [hg])) (c+gC H (jc H B f)) (i+1);have hs:cq H B (f::t)=(dz H B f).aA++cq H B t:=by unfold cq;rw [List.map_cons,List.flatten_cons]
   rw [List.map_cons,oK,if_neg (by show ¬ dZ H.lex f≠0;omega),hs];have hlen:(jc H B f).ai.length=(dz H B f).aA.length:=h3.symm;rw [if_neg,hlen,List.drop_left,ih,List.map_cons,List.sum_cons,Int.add_assoc];unfold vj;rw [hlen,List.take_left,h2,List.length_append,decide_eq_false (by omega)];decide
theorem Mm {H:aj} {B:bl} {l:List aZ} (h:iG H B l=0):kY H (cq H B l) (l.map (jc H B))=⟨(l.map fun f=>gC H (jc H B f)).sum,0,0⟩:=by obtain ⟨h1,h2,h3,h4,_⟩:=Ei h;have h0:=(vR h1).1;unfold kY;rw [if_neg (by rw [Hr h0 h4 (Ml h3)];decide),Tk h3,Int.zero_add]
theorem Tl {E:Env} (hE:jF E):∀ (p:List Mv) (x:bJ),Bf E x p->∀ m∈p,m.use.text.length<=8
 | [],_,_,m,hm=>by cases hm
 | n::p,x,⟨h1,h2⟩,m,hm=>by
   rcases List.mem_cons.1 hm with rfl|hm
   ·obtain ⟨_,i,us,u,h3,h4,_,_,rfl⟩:=Sm h1;exact hE.text us (List.mem_of_getElem? h3) u h4
   exact Tl hE p n.to h2 m hm
theorem D8 {H:aj} {B:bl} {f:aZ} (hb:ja H B f=0) {ρ:Nat} {w:Wy} (hw:(eY (cD H B f) eK)[ρ]?=some w):∀ u∈(nY (cD H B f) w).ai,u.text.length<=8:=by obtain ⟨h0,hr,hf⟩:=Hf hb;have hE:=Ds h0 hr (mo hf);obtain ⟨h1,_⟩:=KN hE 12 eK xk rfl ρ w hw;intro u hu;obtain ⟨m,hm,rfl⟩:=List.mem_map.1 (show u∈(nW (cD H B f) eK w).map (·.use) from hu);exact Tl hE _ _ h1 m hm
theorem Tm {H:aj} {B:bl} {l:List aZ} (hl:l.length<=1048576) (hc:∀ f∈l,f.ar.length<=1048576) (h:∀ f∈l,gY H B f 1=0):Og (l.map (jc H B)):=by
 refine ⟨by rw [List.length_map];exact hl,fun w hw=>?_,fun w hw=>?_,fun w hw u hu=>?_⟩
 ·obtain ⟨f,hf,rfl⟩:=List.mem_map.1 hw;exact hc f hf
 ·obtain ⟨f,hf,rfl⟩:=List.mem_map.1 hw;have:=(DT H B f).2;show (dz H B f).ai.length<=_;omega
 obtain ⟨f,hf,rfl⟩:=List.mem_map.1 hw;have hf:=h f hf;obtain ⟨x,hx,hb⟩:=Th hf;have hu:u∈(dz H B f).ai:=hu;rw [hb] at hu;have:=D8 (Mj hf).1 hx u hu;omega
end Go.Abs.Wall.Spl
namespace Go.Abs.Wall.Spl
open Go Go.Abs Go.Proofs Go.Abs.Wall
open Go.Abs.Wall.Lst (ea cC eI fB gG gH mw pH rM FZ CO yO yP)
def c13:az:=⟨[0,1,2,3,4,6,7,8,9,10,11,12,13,14,17,20,30,39,44,60],[],[9,13],[],[(14,[0,1,2,3,4,5,6,7,8,9,10,11,12,13,14],[13]),(17,[0,1,2,3,4,5,6,7,8,9,10,11,12],[])],[]⟩
theorem D9 (H:aj) (B:bl) (line:List Int) (hf:dU H) (hB:pS B) (hl:line.length<=1048576):ae Tryz.prog 13 [.agg (bu H),.agg (fN B),.sl 1 none (ints line)] [] (.bool true):=by
 obtain ⟨dP,iW⟩:=Sf H line;refine ae.of ?_;refine aG (F:=Tryz.f13) c13 rfl rfl rfl mixed rfl fun X=>?_;(conv=>whnf);repeat (refine ae.k0 (RH H line) ?_;conv=>whnf)
 refine ⟨fun h0=>?_,fun h0=>?_⟩
 ·(conv=>whnf);repeat (refine ae.k0 (tq) ?_;conv=>whnf)
  exact ag.refl _
 (conv=>whnf);repeat (refine ae.k0 (ZZ H B line hf hB hl) ?_;conv=>whnf)
 refine ⟨fun h1=>?_,fun h1=>?_⟩<;>simp at h1
 ·(conv=>whnf);repeat (refine ae.k0 (tq) ?_;conv=>whnf)
  exact ag.refl _
 obtain ⟨hle,Mn⟩:cC H line 1=0/\iG H B (tH H line)=0:=by
  unfold zC at h1;split at h1
  ·rename_i h;exact absurd h1 h
  split at h1
  ·rename_i h;exact absurd h1 h
  rename_i h;exact ⟨by omega,h1⟩
 have hS:xF H B line=cq H B (tH H line):=by unfold xF;have h5:=Ei Mn;rw [if_neg (by omega),if_neg (by omega),h5.2.2.2.2.1]
 obtain ⟨zd,_,nw,Tn,_⟩:=Ei Mn;rw [hS];(conv=>whnf);repeat ((first|refine ae.k0 (rM H line hf hl) ?_|refine ⟨_,_,bo.here _,⟨Nat.le_of_ble_eq_true rfl,rfl⟩,?_⟩|intro (nb:Nat));conv=>whnf)
 refine cF (by rw [hle];rfl) ?_;obtain ⟨R,hR⟩:∃ R,R=ea H line:=⟨_,rfl⟩;have zD:tH H line=R.words.map (·.form):=by rw [hR];rfl
 rw [<- hR];have Ej:=Mm Mn;have wU:=Tm (by omega) iW nw;rw [zD] at dP iW Ej nw Tn wU ⊢;rw [List.length_map] at dP;(conv=>whnf);skip;refine bW rfl mixed [3,4,7,9,10,11,12] [] (fun m r h=>∃ (i:Nat) (v:AV) (hp:af),r=[(3,[],.au (bu H)),(4,[],.au (fN B)),(7,[],.sl 1 none (ints (cq H B (R.words.map (·.form))))),(9,[],.au (kJ R)),(10,[],v),(11,[],.int .i64 (cq H B ((R.words.map (·.form)).take i)).length),(12,[],.int .i64 i)]/\h=hp/\m=R.words.length - i/\i<=R.words.length/\Out 4 cr (((R.words.map (·.form)).take i).map (jc H B)) v hp) ?_ ?_
 ·(conv=>whnf);exact ⟨_,_,ao.refl _ _,_,0,.aT,[],rfl,rfl,rfl,by omega,.inl ⟨rfl,rfl,rfl⟩⟩
 rintro m r h' ⟨i,v,hp,rfl,rfl,rfl,hi,ho⟩;have cM:=Hg H B ((R.words.map (·.form)).take i);rw [List.length_take,List.length_map] at cM;(conv=>whnf);refine ⟨fun hc=>?_,fun hc=>?_⟩<;>simp at hc
 ·obtain ⟨w,hw⟩:=aL hc;have Mo:(R.words.map (·.form))[i]?=some w.form:=by rw [List.getElem?_map,hw];rfl
  have zQ:=List.mem_of_getElem? Mo;have gX:=LC (H:=H) (B:=B) Mo;have oQ:=dj Mo;have hb:=DT H B w.form;have gR:((((R.words.map (·.form)).take i).map (jc H B)).map cr).length<=60:=by rw [List.length_map,List.length_map,List.length_take,List.length_map];omega
  (conv=>whnf);repeat ((first|refine ix (by assumption) ?_|refine ba (KG H B w.form hf hB (by have:=iW _ zQ;unfold aw;omega)) ?_|refine ⟨_,_,bo.here _,?_⟩|refine ⟨_,_,.here _,aR,?_⟩|refine And.intro (by show aP (aN Tryz.f13 _) _=true;decide +kernel) ?_|intro (nb:Nat));conv=>whnf)
  refine cF (by rw [nw _ zQ];rfl) ?_;have dG:((R.words.map (·.form)).take (i+1)).map (jc H B)=((R.words.map (·.form)).take i).map (jc H B)++[jc H B w.form]:=by rw [oQ,List.map_append];rfl
  have hn:((cq H B ((R.words.map (·.form)).take (i+1))).length:Int)=(cq H B ((R.words.map (·.form)).take i)).length+(ints (dz H B w.form).aA).length:=by rw [gX,List.length_append,cg];omega
  rcases ho with ⟨mm,rfl,rfl⟩|⟨q,rfl,rfl⟩
  ·(conv=>whnf);repeat ((first|refine ⟨ah ⟨by omega,by omega⟩,?_⟩|refine ix (by assumption) ?_|(refine ⟨Nat.le_of_ble_eq_true rfl,fun q=>?_⟩)|(refine ⟨ah (by rw [cg];omega),?_⟩)|refine And.intro (by show aP (aN Tryz.f13 _) _=true;decide +kernel) ?_);conv=>whnf)
   rw [<- hn];exact ⟨_,_,ao.refl _ _,_,(by omega),i+1,_,[(q,.tok)],rfl,rfl,rfl,by omega,.inr ⟨q,by rw [dG,mm];rfl,rfl⟩⟩
  (conv=>whnf);repeat ((first|refine ⟨ah ⟨by omega,by omega⟩,?_⟩|refine ix (by assumption) ?_|(refine ⟨(by rw [List.length_append,List.length_singleton];unfold aU;omega),fun q2=>⟨_,.here _,?_⟩⟩)|(refine ⟨ah (by rw [cg];omega),?_⟩)|refine And.intro (by show aP (aN Tryz.f13 _) _=true;decide +kernel) ?_);conv=>whnf)
  rw [<- hn];exact ⟨_,_,ao.refl _ _,_,(by omega),i+1,_,[(q2,.tok)],rfl,rfl,rfl,by omega,.inr ⟨q2,by rw [dG,List.map_append];rfl,rfl⟩⟩
 rw [List.take_of_length_le (by rw [List.length_map];omega)] at ho;have Ek:=ae.args (Oi H (cq H B (R.words.map (·.form))) ((R.words.map (·.form)).map (jc H B)) hf (by omega) wU) (.cons (ag.refl _) (.cons (ag.refl _) (.cons (ho.le (by decide)) .nil)));rw [Ej] at Ek;rw [List.take_of_length_le (by rw [List.length_map];omega)];(conv=>whnf);repeat ((refine (Ek.wide _).k ?_);conv=>whnf)
 (conv=>whnf);repeat (refine ba (tq) ?_;conv=>whnf)
 simp [cg]
end Go.Abs.Wall.Spl
