/- What is proved: small laws for the walks of this seat, and contracts of its functions. No condition but those each theorem names. -/
import Derived.Test.YtbmcnieifibckaaGreatN39
import Derived.Test.YtbmcnieifibckaaGreatN33
import Derived.Test.YtbmcnieifibckaaGreatN11
import Derived.Test.YtbmcnieifibckaaGreatN38
set_option maxRecDepth 100000
set_option maxHeartbeats 2000000
set_option linter.unusedVariables false
set_option linter.unusedSimpArgs false
namespace Go.Abs.Wall.Spl
open Go Go.Abs Go.Proofs Go.Abs.Wall
theorem Mh {H:aj} {B:bl} {f:aZ} {most:Int} (h:gX H B f most=0):iY H B f=0/\(1<=most/\most<=64)/\eY (cD H B f) eK≠[]:=by
 unfold gX at h;split at h
 ·rename_i h1;exact absurd h h1
 rename_i h1;split at h
 ·rename_i h2;split at h
  ·cases h
  rename_i h3;exact ⟨by simpa using h1,h2,h3⟩
 cases h
theorem Th {H:aj} {B:bl} {f:aZ} (h:gX H B f 1=0):∃ w,(eY (cD H B f) eK)[0]?=some w/\dz H B f=nW (cD H B f) w:=by obtain ⟨_,_,h3⟩:=Mh h;obtain ⟨w,hw⟩:=aL (l:=eY (cD H B f) eK) (i:=0) (List.length_pos_iff.2 h3);refine ⟨w,hw,?_⟩;unfold dz ma;rw [if_pos h];unfold iC;have:=drop_cons hw;rw [List.drop_zero] at this;rw [this];rfl
theorem D4 {H:aj} {B:bl} {f:aZ} (h:gX H B f 1=0):nu H B (dz H B f).aA ⟨f,(dz H B f).ai⟩=0/\xt H B (dz H B f).aA ⟨f,(dz H B f).ai⟩=(dz H B f).cost:=by obtain ⟨w,hw,hb⟩:=Th h;rw [hb];exact o7 (Mh h).1 hw
theorem Ti {H:aj} {B:bl} {line:List Int} {w:bU} (h:nu H B line w=0):iB H B=0/\fQ H line w=0/\kN H B line w=true:=by
 unfold nu at h;split at h
 ·rename_i e;exact absurd h e
 rename_i e1;split at h
 ·rename_i e;exact absurd h e
 rename_i e2;split at h
 ·rename_i hk;exact ⟨by omega,by omega,hk⟩
 exact absurd h (by decide)
def ja (H:aj) (B:bl) (f:aZ):bU:=⟨f,(dz H B f).ai⟩
theorem Tj {H:aj} {B:bl}:∀ {l:List aZ},tD H B l=0->∀ f∈l,gX H B f 1=0
 | [],_,f,hf=>by cases hf
 | g::t,h,f,hf=>by
   unfold tD at h;split at h
   ·rename_i h1;exact absurd h h1
   rename_i h1;rcases List.mem_cons.1 hf with rfl|hf
   ·omega
   exact Tj h f hf
theorem Eh {H:aj} {B:bl} {l:List aZ} (h:iE H B l=0):iB H B=0/\l.length<=60/\(∀ f∈l,gX H B f 1=0)/\(cq H B l).length<=60/\tE H B l=cq H B l/\xD H B l=rX H B l:=by
 have hh:=h;unfold iE at h;split at h
 ·rename_i e;exact absurd h e
 rename_i e1;split at h
 ·cases h
 split at h
 ·rename_i e;exact absurd h e
 rename_i e2;split at h
 ·cases h
 exact ⟨by omega,by omega,Tj (by omega),by omega,by unfold tE;rw [if_pos hh],by unfold xD;rw [if_pos hh]⟩
theorem Mi {H:aj} {B:bl} {f:aZ} (h:gX H B f 1=0):dZ H.lex f=0/\jl H (dz H B f).aA (ja H B f)=true/\dX H (dz H B f).aA=0/\kN H B (dz H B f).aA (ja H B f)=true/\(dz H B f).aA.length=(dz H B f).ai.length/\1<=(dz H B f).aA.length:=by obtain ⟨h1,_⟩:=D4 h;obtain ⟨_,h2,h3⟩:=Ti h1;obtain ⟨h4,h5,h6⟩:=xq h2;obtain ⟨h7,h8⟩:=rG h6;exact ⟨h5,h6,h4,h3,h8,h7.1⟩
theorem Mj {H:aj} {B:bl}:∀ {l:List aZ},(∀ f∈l,gX H B f 1=0)->∀ a∈cq H B l,0<=a/\a<H.list.aA.length
 | [],_,a,ha=>by cases ha
 | f::t,h,a,ha=>by
   unfold cq at ha;rw [List.map_cons,List.flatten_cons,List.mem_append] at ha;rcases ha with ha|ha
   ·exact (mS (Mi (h f (by simp))).2.2.1).aA a ha
   exact Mj (fun g hg=>h g (by simp [hg])) a ha
theorem Tk {H:aj} {B:bl}:∀ {l:List aZ},(∀ f∈l,gX H B f 1=0)->∀ c i:Int,oJ H (cq H B l) (l.map (ja H B)) c i=⟨c+((l.map fun f=>gC H (ja H B f)).sum),0,0⟩
 | [],_,c,i=>by show (if 0<([]:List Int).length then _ else _)=_;rw [if_neg (by decide)];simp
 | f::t,h,c,i=>by
   obtain ⟨h1,h2,_,_,h3,_⟩:=Mi (h f (by simp));have ih:=Tk (l:=t) (fun g hg=>h g (by simp [hg])) (c+gC H (ja H B f)) (i+1);have hs:cq H B (f::t)=(dz H B f).aA++cq H B t:=by unfold cq;rw [List.map_cons,List.flatten_cons]
   rw [List.map_cons,oJ,if_neg (by show ¬ dZ H.lex f≠0;omega),hs];have hlen:(ja H B f).ai.length=(dz H B f).aA.length:=h3.symm;rw [if_neg,hlen,List.drop_left,ih,List.map_cons,List.sum_cons,Int.add_assoc];unfold vh;rw [hlen,List.take_left,h2,List.length_append,decide_eq_false (by omega)];decide
theorem Mk {H:aj} {B:bl} {l:List aZ} (h:iE H B l=0):kX H (cq H B l) (l.map (ja H B))=⟨(l.map fun f=>gC H (ja H B f)).sum,0,0⟩:=by obtain ⟨h1,h2,h3,h4,_⟩:=Eh h;have h0:=(vQ h1).1;unfold kX;rw [if_neg (by rw [Hr h0 h4 (Mj h3)];decide),Tk h3,Int.zero_add]
theorem Tl {E:Env} (hE:jE E):∀ (p:List Mv) (x:bJ),Bf E x p->∀ m∈p,m.use.text.length<=8
 | [],_,_,m,hm=>by cases hm
 | n::p,x,⟨h1,h2⟩,m,hm=>by
   rcases List.mem_cons.1 hm with rfl|hm
   ·obtain ⟨_,i,us,u,h3,h4,_,_,rfl⟩:=Sl h1;exact hE.text us (List.mem_of_getElem? h3) u h4
   exact Tl hE p n.to h2 m hm
theorem D5 {H:aj} {B:bl} {f:aZ} (hb:iY H B f=0) {ρ:Nat} {w:Wy} (hw:(eY (cD H B f) eK)[ρ]?=some w):∀ u∈(nW (cD H B f) w).ai,u.text.length<=8:=by obtain ⟨h0,hr,hf⟩:=Hf hb;have hE:=Du h0 hr (mn hf);obtain ⟨h1,_⟩:=KO hE 12 eK xk rfl ρ w hw;intro u hu;obtain ⟨m,hm,rfl⟩:=List.mem_map.1 (show u∈(nU (cD H B f) eK w).map (·.use) from hu);exact Tl hE _ _ h1 m hm
theorem Tm {H:aj} {B:bl} {l:List aZ} (hl:l.length<=1048576) (hc:∀ f∈l,f.ar.length<=1048576) (h:∀ f∈l,gX H B f 1=0):Od (l.map (ja H B)):=by
 refine ⟨by rw [List.length_map];exact hl,fun w hw=>?_,fun w hw=>?_,fun w hw u hu=>?_⟩
 ·obtain ⟨f,hf,rfl⟩:=List.mem_map.1 hw;exact hc f hf
 ·obtain ⟨f,hf,rfl⟩:=List.mem_map.1 hw;have:=(DU H B f).2;show (dz H B f).ai.length<=_;omega
 obtain ⟨f,hf,rfl⟩:=List.mem_map.1 hw;have hf:=h f hf;obtain ⟨x,hx,hb⟩:=Th hf;have hu:u∈(dz H B f).ai:=hu;rw [hb] at hu;have:=D5 (Mh hf).1 hx u hu;omega
end Go.Abs.Wall.Spl
namespace Go.Abs.Wall.Spl
open Go Go.Abs Go.Proofs Go.Abs.Wall
open Go.Abs.Wall.Lst (ea cC eI fA gF gG mu pH rM FY CQ yP yQ)
def c13:az:=⟨[0,1,2,3,4,6,7,8,9,10,11,12,13,14,17,20,30,39,44,60],[],[9,13],[],[(14,[0,1,2,3,4,5,6,7,8,9,10,11,12,13,14],[13]),(17,[0,1,2,3,4,5,6,7,8,9,10,11,12],[])],[]⟩
theorem D6 (H:aj) (B:bl) (line:List Int) (hf:dU H) (hB:pS B) (hl:line.length<=1048576):ae Tryz.prog 13 [.agg (bu H),.agg (fN B),.sl 1 none (ints line)] [] (.bool true):=by
 obtain ⟨dP,iU⟩:=Se H line;refine ae.of ?_;refine aG (F:=Tryz.f13) c13 rfl rfl rfl mixed rfl fun X=>?_;(conv=>whnf);repeat (refine ae.k0 (RG H line) ?_;conv=>whnf)
 refine ⟨fun h0=>?_,fun h0=>?_⟩
 ·(conv=>whnf);repeat (refine ae.k0 (tq) ?_;conv=>whnf)
  exact ag.refl _
 (conv=>whnf);repeat (refine ae.k0 (ZX H B line hf hB hl) ?_;conv=>whnf)
 refine ⟨fun h1=>?_,fun h1=>?_⟩<;>simp at h1
 ·(conv=>whnf);repeat (refine ae.k0 (tq) ?_;conv=>whnf)
  exact ag.refl _
 obtain ⟨hle,Ml⟩:cC H line 1=0/\iE H B (tG H line)=0:=by
  unfold zD at h1;split at h1
  ·rename_i h;exact absurd h1 h
  split at h1
  ·rename_i h;exact absurd h1 h
  rename_i h;exact ⟨by omega,h1⟩
 have hS:xF H B line=cq H B (tG H line):=by unfold xF;have h5:=Eh Ml;rw [if_neg (by omega),if_neg (by omega),h5.2.2.2.2.1]
 obtain ⟨ze,_,nr,Tn,_⟩:=Eh Ml;rw [hS];(conv=>whnf);repeat ((first|refine ae.k0 (rM H line hf hl) ?_|refine ⟨_,_,bo.here _,⟨Nat.le_of_ble_eq_true rfl,rfl⟩,?_⟩|intro (nb:Nat));conv=>whnf)
 refine cF (by rw [hle];rfl) ?_;obtain ⟨R,hR⟩:∃ R,R=ea H line:=⟨_,rfl⟩;have zF:tG H line=R.words.map (·.form):=by rw [hR];rfl
 rw [<- hR];have Ei:=Mk Ml;have wU:=Tm (by omega) iU nr;rw [zF] at dP iU Ei nr Tn wU ⊢;rw [List.length_map] at dP;(conv=>whnf);skip;refine bW rfl mixed [3,4,7,9,10,11,12] [] (fun m r h=>∃ (i:Nat) (v:AV) (hp:af),r=[(3,[],.au (bu H)),(4,[],.au (fN B)),(7,[],.sl 1 none (ints (cq H B (R.words.map (·.form))))),(9,[],.au (kI R)),(10,[],v),(11,[],.int .i64 (cq H B ((R.words.map (·.form)).take i)).length),(12,[],.int .i64 i)]/\h=hp/\m=R.words.length - i/\i<=R.words.length/\Out 4 cr (((R.words.map (·.form)).take i).map (ja H B)) v hp) ?_ ?_
 ·(conv=>whnf);exact ⟨_,_,ao.refl _ _,_,0,.aT,[],rfl,rfl,rfl,by omega,.inl ⟨rfl,rfl,rfl⟩⟩
 rintro m r h' ⟨i,v,hp,rfl,rfl,rfl,hi,ho⟩;have cM:=Hg H B ((R.words.map (·.form)).take i);rw [List.length_take,List.length_map] at cM;(conv=>whnf);refine ⟨fun hc=>?_,fun hc=>?_⟩<;>simp at hc
 ·obtain ⟨w,hw⟩:=aL hc;have Mm:(R.words.map (·.form))[i]?=some w.form:=by rw [List.getElem?_map,hw];rfl
  have zT:=List.mem_of_getElem? Mm;have gW:=LB (H:=H) (B:=B) Mm;have oP:=dj Mm;have hb:=DU H B w.form;have gQ:((((R.words.map (·.form)).take i).map (ja H B)).map cr).length<=60:=by rw [List.length_map,List.length_map,List.length_take,List.length_map];omega
  (conv=>whnf);repeat ((first|refine ix (by assumption) ?_|refine ba (KH H B w.form hf hB (by have:=iU _ zT;unfold aw;omega)) ?_|refine ⟨_,_,bo.here _,?_⟩|refine ⟨_,_,.here _,aR,?_⟩|refine And.intro (by show aP (aN Tryz.f13 _) _=true;decide +kernel) ?_|intro (nb:Nat));conv=>whnf)
  refine cF (by rw [nr _ zT];rfl) ?_;have dG:((R.words.map (·.form)).take (i+1)).map (ja H B)=((R.words.map (·.form)).take i).map (ja H B)++[ja H B w.form]:=by rw [oP,List.map_append];rfl
  have hn:((cq H B ((R.words.map (·.form)).take (i+1))).length:Int)=(cq H B ((R.words.map (·.form)).take i)).length+(ints (dz H B w.form).aA).length:=by rw [gW,List.length_append,cg];omega
  rcases ho with ⟨ml,rfl,rfl⟩|⟨q,rfl,rfl⟩
  ·(conv=>whnf);repeat ((first|refine ⟨ah ⟨by omega,by omega⟩,?_⟩|refine ix (by assumption) ?_|(refine ⟨Nat.le_of_ble_eq_true rfl,fun q=>?_⟩)|(refine ⟨ah (by rw [cg];omega),?_⟩)|refine And.intro (by show aP (aN Tryz.f13 _) _=true;decide +kernel) ?_);conv=>whnf)
   rw [<- hn];exact ⟨_,_,ao.refl _ _,_,(by omega),i+1,_,[(q,.tok)],rfl,rfl,rfl,by omega,.inr ⟨q,by rw [dG,ml];rfl,rfl⟩⟩
  (conv=>whnf);repeat ((first|refine ⟨ah ⟨by omega,by omega⟩,?_⟩|refine ix (by assumption) ?_|(refine ⟨(by rw [List.length_append,List.length_singleton];unfold aU;omega),fun q2=>⟨_,.here _,?_⟩⟩)|(refine ⟨ah (by rw [cg];omega),?_⟩)|refine And.intro (by show aP (aN Tryz.f13 _) _=true;decide +kernel) ?_);conv=>whnf)
  rw [<- hn];exact ⟨_,_,ao.refl _ _,_,(by omega),i+1,_,[(q2,.tok)],rfl,rfl,rfl,by omega,.inr ⟨q2,by rw [dG,List.map_append];rfl,rfl⟩⟩
 rw [List.take_of_length_le (by rw [List.length_map];omega)] at ho;have Ej:=ae.args (Of H (cq H B (R.words.map (·.form))) ((R.words.map (·.form)).map (ja H B)) hf (by omega) wU) (.cons (ag.refl _) (.cons (ag.refl _) (.cons (ho.le (by decide)) .nil)));rw [Ei] at Ej;rw [List.take_of_length_le (by rw [List.length_map];omega)];(conv=>whnf);repeat ((refine (Ej.wide _).k ?_);conv=>whnf)
 (conv=>whnf);repeat (refine ba (tq) ?_;conv=>whnf)
 simp [cg]
end Go.Abs.Wall.Spl
