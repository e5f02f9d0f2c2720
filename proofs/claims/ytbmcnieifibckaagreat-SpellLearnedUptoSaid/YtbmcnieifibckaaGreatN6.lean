/- What is proved: small laws for the walks of this seat, and contracts of its functions. No condition but those each theorem names. -/
import Derived.Test.YtbmcnieifibckaaGreatN5
set_option maxRecDepth 100000
set_option maxHeartbeats 2000000
set_option linter.unusedVariables false
set_option linter.unusedSimpArgs false
namespace Go.Abs.Wall
open Go Go.Abs Go.Proofs
def kj (s:Sp) (p:bn):List UInt8:=(da s p.cl).drop p.bL.length
def mO (s:Sp) (p:bn):Bool:=decide (p.bL.length=(da s p.cl).length)
def fp (cl:List Int):Int:=match cl.getLast? with
 | some c=>c+1
 | none=>0
def eW (p:bn) (u:ay):List iT->Int->List bn
 | [],_=>[]
 | k::t,c=>(if gu k.text u.text=true then [⟨p.bL++u.text,p.closed,p.cl++[c],u⟩] else [])++eW p u t (c+1)
def iy (s:Sp) (p:bn) (u:ay):List bn:=
 if kj s p≠[] then (if gu (kj s p) u.text=true then [⟨p.bL++u.text,p.closed,p.cl,u⟩] else [])
 else if p.cl.length<3 then eW p u (s.H.lex.ar.drop (fp p.cl).toNat) (fp p.cl) else []
theorem Ga {s:Sp} {p:bn} (hp:jP s p):0<=fp p.cl/\fp p.cl<=s.H.lex.ar.length:=by
 unfold fp;cases h:p.cl.getLast? with
 | none=>simp
 | some c=>
   have:=hp.ed c (List.mem_of_getLast? h);simp only;omega
theorem Ua (p:bn) (u:ay):∀ (l:List iT) (c:Int),(eW p u l c).length<=l.length
 | [],_=>by simp [eW]
 | k::t,c=>by have:=Ua p u t (c+1);unfold eW;rw [List.length_append,List.length_cons];split<;>simp<;>omega
def Out {α:Type} (k:Nat) (enc:α->List AV) (o:List α) (v:AV) (hp:af):Prop:=(o=[]/\v=.aT/\hp=[])\/∃ q,v=.sl k (some q) (o.map enc)/\hp=[(q,.tok)]
theorem Out.le {α:Type} {k:Nat} {enc:α->List AV} {o:List α} {v:AV} {hp:af} (hk:0<k) (h:Out k enc o v hp):ag v (.sl k none (o.map enc)):=by
 rcases h with ⟨rfl,rfl,rfl⟩|⟨q,rfl,rfl⟩
 ·exact ag.nil hk
 exact ag.sl
theorem uO {t:Option Nat} {cl:List Int} {c:Int}:ag (.sl 1 t (ints cl++[[.int .i64 c]])) (.sl 1 none (ints (cl++[c]))):=by rw [show ints (cl++[c])=ints cl++[[.int .i64 c]] by simp [ints]];exact ag.sl
theorem xO {v:AV} {p:bn} {u:ay} {c:Int} (hv:ag v (.sl 1 none (ints (p.cl++[c])))):cW [.str (p.bL++u.text),.int .i64 0,.bool p.closed,v,.int .i64 u.kind,.str u.text] (fE ⟨p.bL++u.text,p.closed,p.cl++[c],u⟩):=
 .cons (ag.refl _) (.cons (ag.refl _) (.cons (ag.refl _) (.cons hv (.cons (ag.refl _) (.cons (ag.refl _) .nil)))))
def c221:az:=⟨[0,1,2,4,5,6,7,8,9,10,11,16,20,38,61,77],[4],[],[],[(15,[0,1,2,3,4,5,6,7,8,9,10,11,12,13],[])],[]⟩
theorem K3 (s:Sp) (p:bn) (u:ay) (hs:jN s) (hp:jP s p) (hu:u.text.length<=1048576) :
  ae Tryz.prog 221 [.au (ou s),.agg (fE p),.agg (aV u)] [] (.sl 6 none ((iy s p u).map fE)):=by
 have hb:=hs.body;have dw:=hp.bB;have dG:=hp.bL;have wi:=hs.da hp.ed;have ej:(kj s p).length<=aw:=by unfold kj aw;rw [List.length_drop];omega
 have gT:u.text.length<=aw:=by unfold aw;omega
 have eP:(p.bL++u.text).length<=aw:=by rw [List.length_append];unfold aw;omega
 have Ub:=hs.lex.many.2.2;refine ae.of (aG (F:=Tryz.f221) c221 rfl rfl rfl mixed rfl fun X=>?_);(conv=>whnf);intro kp;(conv=>whnf);repeat ((first|refine ae.k0 (K0 s p hs hp) ?_|refine ⟨_,_,.head _,rfl,?_⟩);conv=>whnf)
 refine ⟨fun hc=>?_,fun hc=>?_⟩<;>simp only [Bool.not_eq_true',Bool.not_eq_false',decide_eq_true_eq,decide_eq_false_iff_not] at hc
 ·have hc:kj s p≠[]:=hc;have hm:iy s p u=if gu (kj s p) u.text=true then [⟨p.bL++u.text,p.closed,p.cl,u⟩] else []:=(by rw [iy,if_pos hc]);(conv=>whnf);repeat (refine ae.k0 (hasPrefix (kj s p) u.text ej gT) ?_;conv=>whnf)
  refine ⟨fun hq=>?_,fun hq=>?_⟩
  ·rw [if_pos hq] at hm;rw [hm];(conv=>whnf);repeat ((first|(refine ⟨ah eP,?_⟩)|(refine ⟨Nat.le_of_ble_eq_true rfl,fun q=>?_⟩)|refine ⟨_,_,.head _,rfl,?_⟩|refine ⟨_,_,.here _,aR,?_⟩);conv=>whnf)
   exact ag.sl
  rw [if_neg (by rw [hq];decide)] at hm;rw [hm];(conv=>whnf);skip;exact ag.nil (by decide)
 have hc:kj s p=[]:=hc;have hm:iy s p u=if p.cl.length<3 then eW p u (s.H.lex.ar.drop (fp p.cl).toNat) (fp p.cl) else []:=(by rw [iy,if_neg (by simpa using hc)]);have iU:=Ga hp;(conv=>whnf);repeat (refine ⟨_,_,.head _,rfl,?_⟩;conv=>whnf)
 refine ⟨fun hn=>?_,fun hn=>?_⟩<;>simp at hn
 ·obtain ⟨c,bz⟩:=aL (l:=p.cl) (i:=p.cl.length - 1) (by omega);have LN:=hp.ed c (List.mem_of_getElem? bz);have hf:fp p.cl=c+1:=by unfold fp;rw [List.getLast?_eq_getElem?,bz]
  (conv=>whnf);repeat ((first|refine ⟨ah ⟨by omega,by omega⟩,?_⟩|(refine dg (p.cl.length - 1) (by simp [ints];omega) bz ?_)|(refine ⟨ah ⟨by simp [ints];omega,by simp [ints];omega⟩,?_⟩)|refine ⟨_,_,.head _,rfl,?_⟩);conv=>whnf)
  rw [<- hf];refine bW rfl mixed [0,4,5,6,10] [] (fun m r h=>∃ (c:Int) (o:List bn) (v:AV) (fP:af),r=[(0,[],.au (ou s)),(4,[],.bj kp 0),(5,[],.au (aV u)),(6,[],v),(10,[],.int .i64 c)]/\h=fP++[(kp,.vec (fE p))]/\m=(s.H.lex.ar.length - c).toNat/\0<=c/\c<=s.H.lex.ar.length/\Out 6 fE o v fP/\o.length<=c/\iy s p u=o++(if p.cl.length<3 then eW p u (s.H.lex.ar.drop c.toNat) c else [])) ?_ ?_
  ·(conv=>whnf);exact ⟨_,_,ao.refl _ _,_,fp p.cl,[],_,[],rfl,rfl,rfl,iU.1,iU.2,.inl ⟨rfl,rfl,rfl⟩,by simpa using iU.1,by rw [hm];rfl⟩
  rintro m r h' ⟨c,o,v,fP,rfl,rfl,rfl,kY,zH,hv,mW,cG⟩;have jC:o.length+1<=aU:=by have:=hs.lex.many;unfold aU;omega
  rcases hv with ⟨he,rfl,rfl⟩|⟨q,rfl,rfl⟩
  all_goals
   (conv=>whnf);repeat ((first|refine ⟨_,_,.head _,rfl,?_⟩|refine ⟨_,_,.tail _ (.head _),rfl,?_⟩);conv=>whnf)
   refine ⟨fun aD=>?_,fun aD=>?_⟩
   ·have de:c<s.H.lex.ar.length/\p.cl.length<3:=by simp at aD;exact ⟨aD.1,by omega⟩
    have uF:=np (hs.lex.cQ kY de.1).text;have bz:(cQ s.H.lex c).text.length<=aw:=by unfold aw;omega
    rw [if_pos de.2,drop_cons (ll kY de.1),eW,show ((c.toNat:Nat)+1)=(c+1).toNat by omega] at cG;(conv=>whnf);repeat ((first|(refine dg c.toNat (by omega) (ll kY de.1) ?_)|refine ba (hasPrefix (cQ s.H.lex c).text u.text bz gT) ?_|refine And.intro (by show aP (aN Tryz.f221 _) _=true;decide +kernel) ?_);conv=>whnf)
    refine ⟨fun hq=>?_,fun hq=>?_⟩<;>simp only [Bool.not_eq_true',Bool.not_eq_false'] at hq
    ·rw [if_neg (by rw [hq];decide),List.nil_append] at cG;(conv=>whnf);repeat (refine ⟨ah ⟨by omega,by omega⟩,?_⟩;conv=>whnf)
     refine ⟨_,_,ao.refl _ _,_,(by omega),c+1,o,_,_,rfl,rfl,rfl,by omega,by omega,?_,by omega,by rw [if_pos de.2];exact cG⟩;first|exact .inl ⟨he,rfl,rfl⟩|exact .inr ⟨q,rfl,rfl⟩
    rw [if_pos hq] at cG;(conv=>whnf);repeat ((first|(refine ⟨_,_,.tail _ (.tail _ (.head _)),rfl,?_⟩)|refine ⟨_,_,.head _,rfl,?_⟩|refine ⟨_,_,.tail _ (.head _),rfl,?_⟩|refine ⟨_,_,.here _,aR,?_⟩|intro (nb:Nat));conv=>whnf)
    refine aB.mono ?_ (aB.frame (Mw p.cl (by unfold aU;omega)) _);rintro v h1 ⟨h2,zh,rfl⟩;rcases zh with ⟨te,rfl,rfl⟩|⟨q2,rfl,rfl⟩
    all_goals
     (conv=>whnf);repeat ((first|refine ⟨ah ⟨by omega,by omega⟩,?_⟩|(refine ⟨ah eP,?_⟩)|(refine ⟨(by first|exact Nat.le_of_ble_eq_true rfl|(simp [ints,aU];omega)),fun q3=>?_⟩)|(refine ⟨_,.here _,?_⟩)|(refine ⟨_,.there (.there (.here _)),?_⟩)|refine ⟨_,_,.tail _ (.head _),rfl,?_⟩|refine ⟨_,_,.there (.here _),aR,?_⟩);conv=>whnf)
     refine ⟨[(0,[],.au (ou s)),(4,[],.bj kp 0),(5,[],.au (aV u)),(6,[],.sl 6 (some q3) ((o++[(⟨p.bL++u.text,p.closed,p.cl++[c],u⟩:bn)]).map fE)),(10,[],.int .i64 (c+1))],[(q3,.tok),(kp,.vec (fE p))],?_,_,(by omega),c+1,_,_,[(q3,.tok)],rfl,rfl,rfl,by omega,by omega,.inr ⟨_,rfl,rfl⟩,by simp;omega,by rw [if_pos de.2,cG,List.append_assoc]⟩;refine ao.trans (ao.sF (.cons (ag.refl _) (.cons (ag.refl _) (.cons (ag.refl _) (.cons ?_ (jQ.refl _)))))) (ao.sub ?_ ?_)
     ·first
       | (rw [he];exact ag.nT (.cons (xO uO) .nil))
       | (rw [he];refine ag.nT (.cons (xO ?_) .nil);have h9:=fun t=>uO (t:=t) (cl:=p.cl) (c:=c);rw [te] at h9;exact h9 _)
       | (rw [List.map_append];exact ag.nT (iR.snoc (xO uO)))
       | (rw [List.map_append];refine ag.nT (iR.snoc (xO ?_));have h9:=fun t=>uO (t:=t) (cl:=p.cl) (c:=c);rw [te] at h9;exact h9 _)
     ·intro k o hm;simp only [List.mem_cons,List.not_mem_nil,or_false] at hm;rcases hm with hm|hm<;>simp [hm]
     intro hn;simp [keys] at hn ⊢;simp [hn]
   have zX:iy s p u=o:=by
    rw [cG];simp at aD;split
    ·rename_i h3;rw [drop_nil (by omega)];simp [eW]
    simp
   rw [zX];(conv=>whnf);skip;first|exact Out.le (by decide) (.inl ⟨he,rfl,rfl⟩)|exact Out.le (by decide) (.inr ⟨q,rfl,rfl⟩)
 have hf:fp p.cl=0:=by rw [hn];rfl
 (conv=>whnf);skip;have LK:(0:Int)=fp p.cl:=hf.symm;rw [LK];refine bW rfl mixed [0,4,5,6,10] [] (fun m r h=>∃ (c:Int) (o:List bn) (v:AV) (fP:af),r=[(0,[],.au (ou s)),(4,[],.bj kp 0),(5,[],.au (aV u)),(6,[],v),(10,[],.int .i64 c)]/\h=fP++[(kp,.vec (fE p))]/\m=(s.H.lex.ar.length - c).toNat/\0<=c/\c<=s.H.lex.ar.length/\Out 6 fE o v fP/\o.length<=c/\iy s p u=o++(if p.cl.length<3 then eW p u (s.H.lex.ar.drop c.toNat) c else [])) ?_ ?_
 ·(conv=>whnf);exact ⟨_,_,ao.refl _ _,_,fp p.cl,[],_,[],rfl,rfl,rfl,iU.1,iU.2,.inl ⟨rfl,rfl,rfl⟩,by simpa using iU.1,by rw [hm];rfl⟩
 rintro m r h' ⟨c,o,v,fP,rfl,rfl,rfl,kY,zH,hv,mW,cG⟩;have jC:o.length+1<=aU:=by have:=hs.lex.many;unfold aU;omega
 rcases hv with ⟨he,rfl,rfl⟩|⟨q,rfl,rfl⟩
 all_goals
  (conv=>whnf);repeat ((first|refine ⟨_,_,.head _,rfl,?_⟩|refine ⟨_,_,.tail _ (.head _),rfl,?_⟩);conv=>whnf)
  refine ⟨fun aD=>?_,fun aD=>?_⟩
  ·have de:c<s.H.lex.ar.length/\p.cl.length<3:=by simp at aD;exact ⟨aD.1,by omega⟩
   have uF:=np (hs.lex.cQ kY de.1).text;have bz:(cQ s.H.lex c).text.length<=aw:=by unfold aw;omega
   rw [if_pos de.2,drop_cons (ll kY de.1),eW,show ((c.toNat:Nat)+1)=(c+1).toNat by omega] at cG;(conv=>whnf);repeat ((first|(refine dg c.toNat (by omega) (ll kY de.1) ?_)|refine ba (hasPrefix (cQ s.H.lex c).text u.text bz gT) ?_|refine And.intro (by show aP (aN Tryz.f221 _) _=true;decide +kernel) ?_);conv=>whnf)
   refine ⟨fun hq=>?_,fun hq=>?_⟩<;>simp only [Bool.not_eq_true',Bool.not_eq_false'] at hq
   ·rw [if_neg (by rw [hq];decide),List.nil_append] at cG;(conv=>whnf);repeat (refine ⟨ah ⟨by omega,by omega⟩,?_⟩;conv=>whnf)
    refine ⟨_,_,ao.refl _ _,_,(by omega),c+1,o,_,_,rfl,rfl,rfl,by omega,by omega,?_,by omega,by rw [if_pos de.2];exact cG⟩;first|exact .inl ⟨he,rfl,rfl⟩|exact .inr ⟨q,rfl,rfl⟩
   rw [if_pos hq] at cG;(conv=>whnf);repeat ((first|(refine ⟨_,_,.tail _ (.tail _ (.head _)),rfl,?_⟩)|refine ⟨_,_,.head _,rfl,?_⟩|refine ⟨_,_,.tail _ (.head _),rfl,?_⟩|refine ⟨_,_,.here _,aR,?_⟩|intro (nb:Nat));conv=>whnf)
   refine aB.mono ?_ (aB.frame (Mw p.cl (by unfold aU;omega)) _);rintro v h1 ⟨h2,zh,rfl⟩;rcases zh with ⟨te,rfl,rfl⟩|⟨q2,rfl,rfl⟩
   all_goals
    (conv=>whnf);repeat ((first|refine ⟨ah ⟨by omega,by omega⟩,?_⟩|(refine ⟨ah eP,?_⟩)|(refine ⟨(by first|exact Nat.le_of_ble_eq_true rfl|(simp [ints,aU];omega)),fun q3=>?_⟩)|(refine ⟨_,.here _,?_⟩)|(refine ⟨_,.there (.there (.here _)),?_⟩)|refine ⟨_,_,.tail _ (.head _),rfl,?_⟩|refine ⟨_,_,.there (.here _),aR,?_⟩);conv=>whnf)
    refine ⟨[(0,[],.au (ou s)),(4,[],.bj kp 0),(5,[],.au (aV u)),(6,[],.sl 6 (some q3) ((o++[(⟨p.bL++u.text,p.closed,p.cl++[c],u⟩:bn)]).map fE)),(10,[],.int .i64 (c+1))],[(q3,.tok),(kp,.vec (fE p))],?_,_,(by omega),c+1,_,_,[(q3,.tok)],rfl,rfl,rfl,by omega,by omega,.inr ⟨_,rfl,rfl⟩,by simp;omega,by rw [if_pos de.2,cG,List.append_assoc]⟩;refine ao.trans (ao.sF (.cons (ag.refl _) (.cons (ag.refl _) (.cons (ag.refl _) (.cons ?_ (jQ.refl _)))))) (ao.sub ?_ ?_)
    ·first
      | (rw [he];exact ag.nT (.cons (xO uO) .nil))
      | (rw [he];refine ag.nT (.cons (xO ?_) .nil);have h9:=fun t=>uO (t:=t) (cl:=p.cl) (c:=c);rw [te] at h9;exact h9 _)
      | (rw [List.map_append];exact ag.nT (iR.snoc (xO uO)))
      | (rw [List.map_append];refine ag.nT (iR.snoc (xO ?_));have h9:=fun t=>uO (t:=t) (cl:=p.cl) (c:=c);rw [te] at h9;exact h9 _)
    ·intro k o hm;simp only [List.mem_cons,List.not_mem_nil,or_false] at hm;rcases hm with hm|hm<;>simp [hm]
    intro hn;simp [keys] at hn ⊢;simp [hn]
  have zX:iy s p u=o:=by
   rw [cG];simp at aD;split
   ·rename_i h3;rw [drop_nil (by omega)];simp [eW]
   simp
  rw [zX];(conv=>whnf);skip;first|exact Out.le (by decide) (.inl ⟨he,rfl,rfl⟩)|exact Out.le (by decide) (.inr ⟨q,rfl,rfl⟩)
end Go.Abs.Wall
namespace Go.Abs.Wall
open Go Go.Abs Go.Proofs
def tH (s:Sp) (p:bn) (u:ay):Bool:=!decide (p.last.kind=0)||!decide (u.text=s.e.root)
def zG (p:bn):Bool:=decide (p.last.kind=2)||(decide (p.last.kind=1)&&decide (2<=(p.last.text.length:Int)))
def qd (p:bn) (u:ay):Bool:=!zG p||decide ((p.last.text.length:Int)<u.text.length)||!rQ p.bL u.text
def vZ (s:Sp) (p:bn) (u:ay):Bool:=p.closed||decide (s.e.cls=[])||!decide (u.text=s.e.cls)||decide (0<(p.cl.length:Int))||!decide ((p.bL.length:Int)=s.body.length)
def aX (s:Sp) (p:bn) (u:ay):List bn:=
 if u.kind=1 then iy s p u
 else if u.kind=2 then (if tH s p u=true then [] else [⟨u.text,p.closed,p.cl,u⟩])
 else if u.kind=3 then (if qd p u=true then [] else [⟨p.bL,p.closed,p.cl,u⟩])
 else if u.kind=4 then (if vZ s p u=true then [] else [⟨p.bL,true,p.cl,u⟩])
 else []
def c154:az:=⟨[0,1,2,4,5,6,7,9,10,16,31,35,73,74,112],[4],[],[],[(6,[0,1,2,3,4,5,6,7,8,9,10,11,12,13],[]),(14,[0,1,2,3,4,5,6,7,8,9,10,11,12,13,14,15,16,17,18,19,20,21,22,23,24,25,26,27,28,29,30,31,32,33,34,35,36],[])],[]⟩
theorem Uc (s:Sp) (p:bn) (u:ay) (hs:jN s) (hp:jP s p) (hu:u.text.length<=1048576) :
  ae Tryz.prog 154 [.au (ou s),.agg (fE p),.agg (aV u)] [] (.sl 6 none ((aX s p u).map fE)):=by
 have hb:=hs.body;have dw:=hp.bB;have dG:=hp.bL;have wi:=hs.da hp.ed;have ej:p.bL.length<=aw:=by unfold aw;omega
 have gT:u.text.length<=aw:=by unfold aw;omega
 refine ae.of (aG (F:=Tryz.f154) c154 rfl rfl rfl mixed rfl fun X=>?_);(conv=>whnf);intro kp;(conv=>whnf);skip;refine ⟨fun h1=>?_,fun h1=>?_⟩<;>simp only [decide_eq_true_eq,decide_eq_false_iff_not] at h1
 ·have hm:aX s p u=iy s p u:=(by rw [aX,if_pos h1]);rw [hm];(conv=>whnf);repeat ((first|refine ae.k0 (K3 s p u hs hp hu) ?_|refine ⟨_,_,.head _,rfl,?_⟩);conv=>whnf)
  exact ag.refl _
 (conv=>whnf);skip;refine ⟨fun h2=>?_,fun h2=>?_⟩<;>simp only [decide_eq_true_eq,decide_eq_false_iff_not] at h2
 ·have hm:aX s p u=if tH s p u=true then [] else [⟨u.text,p.closed,p.cl,u⟩]:=(by rw [aX,if_neg h1,if_pos h2]);(conv=>whnf);repeat ((first|refine ⟨_,_,.head _,rfl,?_⟩|refine And.intro (by show aP (aN Tryz.f154 _) _=true;decide +kernel) ?_);conv=>whnf)
  refine ⟨fun hq=>?_,fun hq=>?_⟩
  ·have hq:tH s p u=true:=hq;rw [hm,if_pos hq];(conv=>whnf);exact ag.nil (by decide)
  have hq:tH s p u=false:=hq;rw [hm,if_neg (by rw [hq];decide)];(conv=>whnf);repeat ((first|refine ⟨_,_,.head _,rfl,?_⟩|refine ⟨_,_,.here _,aR,?_⟩);conv=>whnf)
  exact ag.refl _
 (conv=>whnf);skip;refine ⟨fun h3=>?_,fun h3=>?_⟩<;>simp only [decide_eq_true_eq,decide_eq_false_iff_not] at h3
 ·have hm:aX s p u=if qd p u=true then [] else [⟨p.bL,p.closed,p.cl,u⟩]:=(by rw [aX,if_neg h1,if_neg h2,if_pos h3]);(conv=>whnf);repeat ((first|refine ba (hasSuffix p.bL u.text ej gT) ?_|refine ⟨_,_,.head _,rfl,?_⟩);conv=>whnf)
  refine ⟨fun hq=>?_,fun hq=>?_⟩
  ·have hq:qd p u=true:=hq;rw [hm,if_pos hq];(conv=>whnf);exact ag.nil (by decide)
  have hq:qd p u=false:=hq;rw [hm,if_neg (by rw [hq];decide)];(conv=>whnf);repeat ((first|refine ⟨_,_,.head _,rfl,?_⟩|refine ⟨_,_,.here _,aR,?_⟩);conv=>whnf)
  exact ag.refl _
 (conv=>whnf);skip;refine ⟨fun h4=>?_,fun h4=>?_⟩<;>simp only [decide_eq_true_eq,decide_eq_false_iff_not] at h4
 ·have hm:aX s p u=if vZ s p u=true then [] else [⟨p.bL,true,p.cl,u⟩]:=(by rw [aX,if_neg h1,if_neg h2,if_neg h3,if_pos h4]);(conv=>whnf);repeat ((first|refine ⟨_,_,.head _,rfl,?_⟩|refine And.intro (by show aP (aN Tryz.f154 _) _=true;decide +kernel) ?_);conv=>whnf)
  refine ⟨fun hq=>?_,fun hq=>?_⟩
  ·have hq:(p.closed||decide (s.e.cls=[])||!decide (u.text=s.e.cls)||decide (0<((ints p.cl).length:Int))||!decide ((p.bL.length:Int)=s.body.length))=true:=hq;rw [cg] at hq;have hq:vZ s p u=true:=hq;rw [hm,if_pos hq];(conv=>whnf);exact ag.nil (by decide)
  have hq:(p.closed||decide (s.e.cls=[])||!decide (u.text=s.e.cls)||decide (0<((ints p.cl).length:Int))||!decide ((p.bL.length:Int)=s.body.length))=false:=hq;rw [cg] at hq;have hq:vZ s p u=false:=hq;rw [hm,if_neg (by rw [hq];decide)];(conv=>whnf);repeat ((first|refine ⟨_,_,.head _,rfl,?_⟩|refine ⟨_,_,.here _,aR,?_⟩);conv=>whnf)
  exact ag.refl _
 have hm:aX s p u=[]:=(by rw [aX,if_neg h1,if_neg h2,if_neg h3,if_neg h4]);rw [hm];(conv=>whnf);skip;exact ag.nil (by decide)
def iu (u:ay):Prop:=1<=u.kind/\u.kind<=4/\1<=u.text.length/\u.text.length<=8
theorem Ud {t w:List UInt8} (h:gu t w=true):w.length<=t.length:=by unfold gu at h;simp only [Bool.and_eq_true,decide_eq_true_eq] at h;omega
theorem Ue {s:Sp} {p:bn} {u:ay} (hp:jP s p) (hu:iu u) (he:p.bL.length=(da s p.cl).length) (h3:p.cl.length<3):∀ (l:List iT) (c:Int),0<=c->s.H.lex.ar.drop c.toNat=l->∀ q∈eW p u l c,jP s q
 | [],_,_,_,q,hq=>by cases hq
 | k::t,c,h0,hd,q,hq=>by
   unfold eW at hq;have hk:s.H.lex.ar[c.toNat]?=some k:=by have:=congrArg (fun z=>z[0]?) hd;simpa using this
   have aI:=(List.getElem?_eq_some_iff.1 hk).1;have kP:s.H.lex.ar.drop (c+1).toNat=t:=by have:=congrArg List.tail hd;rw [show (c+1).toNat=c.toNat+1 by omega];simpa [List.tail_drop] using this
   rcases List.mem_append.1 hq with hq|hq
   ·split at hq
    ·rename_i hb;cases List.mem_singleton.1 hq
     have mq:(cQ s.H.lex c)=k:=by have:=ll (x:=s.H.lex) h0 (by omega);rw [hk] at this;exact (Option.some.inj this).symm
     refine ⟨by simp;omega,fun d hd=>?_,?_,fun h=>?_⟩
     ·rcases List.mem_append.1 hd with hd|hd
      ·exact hp.ed d hd
      cases List.mem_singleton.1 hd;omega
     ·show (p.bL++u.text).length<=(da s (p.cl++[c])).length;rw [BI,List.length_append,List.length_append,mq];have:=Ud hb;omega
     exact absurd h (by have:=hu.1;show ¬ u.kind=0;omega)
    cases hq
   exact Ue hp hu he h3 t (c+1) (by omega) kP q hq
theorem K4 {s:Sp} {p:bn} {u:ay} (hp:jP s p) (hu:iu u):∀ q∈iy s p u,jP s q:=by
 intro q hq;unfold iy at hq;split at hq
 ·split at hq
  ·rename_i hb;cases List.mem_singleton.1 hq
   have:=Ud hb;unfold kj at this;rw [List.length_drop] at this;refine ⟨hp.bB,hp.ed,?_,fun h=>absurd h (by have:=hu.1;show ¬ u.kind=0;omega)⟩;show (p.bL++u.text).length<=_;rw [List.length_append];have:=hp.bL;show _<=(da s p.cl).length;omega
  cases hq
 rename_i h0;split at hq
 ·rename_i h3;have he:p.bL.length=(da s p.cl).length:=by have h1:=hp.bL;simp only [ne_eq,Decidable.not_not] at h0;unfold kj at h0;rw [List.drop_eq_nil_iff] at h0;omega
  exact Ue hp hu he h3 _ _ (Ga hp).1 rfl q hq
 cases hq
theorem wE {s:Sp} {p:bn} {u:ay} (hs:jN s) (hp:jP s p) (hu:iu u):∀ q∈aX s p u,jP s q:=by
 intro q hq;have hk:¬ u.kind=0:=by have:=hu.1;omega
 unfold aX at hq;split at hq
 ·exact K4 hp hu q hq
 split at hq
 ·split at hq
  ·cases hq
  rename_i hb;cases List.mem_singleton.1 hq
  rw [Bool.not_eq_true] at hb;unfold tH at hb;simp only [Bool.or_eq_false_iff,Bool.not_eq_false',decide_eq_true_eq] at hb;obtain ⟨h1,h2⟩:=hp.new hb.1;refine ⟨hp.bB,hp.ed,?_,fun h=>absurd h hk⟩;show u.text.length<=_;rw [hb.2];have:=hs.root;unfold da;rw [List.length_append];omega
 split at hq
 ·split at hq
  ·cases hq
  cases List.mem_singleton.1 hq
  exact ⟨hp.bB,hp.ed,hp.bL,fun h=>absurd h hk⟩
 split at hq
 ·split at hq
  ·cases hq
  cases List.mem_singleton.1 hq
  exact ⟨hp.bB,hp.ed,hp.bL,fun h=>absurd h hk⟩
 cases hq
def fI:bn:=⟨[],false,[],⟨0,[]⟩⟩
theorem An (s:Sp):jP s fI:=⟨by simp [fI],by simp [fI],by simp [fI],fun _=>⟨rfl,rfl⟩⟩
end Go.Abs.Wall
namespace Go.Abs.Wall
open Go Go.Abs Go.Proofs
structure bU where
 form:aZ
 ai:List ay
deriving DecidableEq
def cr (w:bU):List AV:=eZ w.form++[.sl 2 none (w.ai.map aV)]
def tI (c:zV) (u:ay):Int:=
 if u.kind=1 then c.spell else if u.kind=2 then c.Gw else if u.kind=3 then c.dy else if u.kind=4 then c.cls else 0
def mf (c:zV) (l:List ay):Int:=(l.map (tI c)).sum
def uM (l:List ay):Bool:=l.any fun u=>decide (u.kind=4)
def uI (x:Lex) (f:aZ):Int:=if dZ x f=0 then nm x f else 0
def gC (H:aj) (w:bU):Int:=
 uI H.lex w.form+mf H.ct w.ai+(if (!uM w.ai&&!decide ((bZ H.lex w.form.entry).cls=[]))=true then H.ct.nY else 0)
structure jg (H:aj):Prop where
 nN:lr H.list=0
 lex:qh H.lex
 ct:∀ c∈iV H.ct,0<=c/\c<=1000
 period:1<=H.period/\H.period<=H.list.iZ
theorem vR {H:aj} (h:eo H=0):jg H:=by
 unfold eo at h;split at h
 ·rename_i h1;exact absurd h h1
 rename_i h1;split at h
 ·rename_i h2;exact absurd h h2
 rename_i h2;split at h
 ·cases h
 rename_i h3;split at h
 ·cases h
 rename_i h4;rw [Bool.not_eq_false,List.all_eq_true] at h3;rw [Bool.not_eq_false,dY] at h4;exact ⟨by omega,TR (by omega),fun c hc=>dY.1 (h3 c hc),h4⟩
theorem MB {H:aj} (h:jg H) (u:ay):0<=tI H.ct u/\tI H.ct u<=1000:=by
 have hc:=h.ct;unfold tI;split
 ·exact hc _ (by simp [iV])
 split
 ·exact hc _ (by simp [iV])
 split
 ·exact hc _ (by simp [iV])
 split
 ·exact hc _ (by simp [iV])
 omega
theorem Dz {H:aj} (h:jg H):∀ l:List ay,0<=mf H.ct l/\mf H.ct l<=1000*l.length
 | []=>by simp [mf]
 | u::l=>by have h1:=Dz h l;have h2:=MB h u;unfold mf at h1 ⊢;simp only [List.map_cons,List.sum_cons,List.length_cons];omega
theorem Uf {c:zV} {l:List ay} {u:ay}:mf c (l++[u])=mf c l+tI c u:=by unfold mf;simp
theorem Ug {l:List ay} {u:ay}:uM (l++[u])=(uM l||decide (u.kind=4)):=by unfold uM;simp
theorem MC {x:Lex} {f:aZ}:0<=uI x f/\uI x f<=5000:=by
 unfold uI;split
 ·rename_i h;exact (mn h).kK
 omega
theorem FA {H:aj} (h:jg H) {w:bU}:0<=gC H w/\gC H w<=6000+1000*w.ai.length:=by have h1:=MC (x:=H.lex) (f:=w.form);have h2:=Dz h w.ai;have h3:=h.ct H.ct.nY (by simp [iV]);unfold gC;split<;>omega
def c95:az:=⟨[0,1,2,3,4,5,7,9,19,20,21,22,26,27,34,41,48,69],[],[9],[],[],[]⟩
theorem FB (H:aj) (w:bU) (hx:rT H.lex) (hH:jg H) (hf:w.form.ar.length<=aw) (he:0<=w.form.entry/\w.form.entry<H.lex.entries.length) (hu:w.ai.length<=1048576) :
  ae Tryz.prog 95 [.agg (bu H),.agg (cr w)] [] (.int .i64 (gC H w)):=by
 have K5:=MC (x:=H.lex) (f:=w.form);have dq:=hH.ct H.ct.nY (by simp [iV]);refine aG (F:=Tryz.f95) c95 rfl rfl rfl mixed rfl fun X=>?_;(conv=>whnf);repeat (refine ae.k0 (QF H.lex w.form hx hf) ?_;conv=>whnf)
 refine bR rfl mixed [2,3,5,7,19,20,21] [] (fun m r h=>∃ (i:Nat) (n:Int) (cl:Bool),r=[(2,[],.au (bu H)),(3,[],.au (cr w)),(5,[],.int .i64 n),(7,[],.bool cl),(19,[],.sl 2 none (w.ai.map aV)),(20,[],.int .i64 (w.ai.map aV).length),(21,[],.int .i64 i)]/\h=[]/\m=w.ai.length - i/\i<=w.ai.length/\n=uI H.lex w.form+mf H.ct (w.ai.take i)/\cl=uM (w.ai.take i)) ?_ ?_
 ·(conv=>whnf);exact ⟨_,0,uI H.lex w.form,false,rfl,rfl,rfl,by omega,by simp [mf],by simp [uM]⟩
 rintro m r h' ⟨i,n,cl,rfl,rfl,rfl,hi,hn,bz⟩;have hb:=Dz hH (w.ai.take i);rw [List.length_take] at hb;(conv=>whnf);refine ⟨fun aD=>?_,fun aD=>?_⟩<;>simp at aD
 ·obtain ⟨u,dA⟩:=aL aD;have lC:=dj dA;have gJ:=MB hH u;have gi:=Uf (c:=H.ct) (l:=w.ai.take i) (u:=u);have eu:=Ug (l:=w.ai.take i) (u:=u);rw [<- lC] at gi eu;unfold tI at gi gJ;(conv=>whnf);repeat ((first|refine ix (by assumption) ?_|refine ⟨_,_,bo.here _,⟨Nat.le_of_ble_eq_true rfl,rfl⟩,?_⟩|intro (nb:Nat));conv=>whnf)
  refine ⟨fun hk=>?_,fun hk=>?_⟩<;>simp only [decide_eq_true_eq,decide_eq_false_iff_not] at hk
  ·rw [if_pos hk] at gi gJ;(conv=>whnf);repeat (refine ⟨ah ⟨by omega,by omega⟩,?_⟩;conv=>whnf)
   exact ⟨_,by omega,i+1,_,_,rfl,rfl,rfl,by omega,by rw [gi,hn];show _+_=_;omega,by rw [eu,bz,decide_eq_false (by omega),Bool.or_false]⟩
  rw [if_neg hk] at gi gJ;(conv=>whnf);refine ⟨fun bw=>?_,fun bw=>?_⟩<;>simp only [decide_eq_true_eq,decide_eq_false_iff_not] at bw
  ·rw [if_pos bw] at gi gJ;(conv=>whnf);repeat (refine ⟨ah ⟨by omega,by omega⟩,?_⟩;conv=>whnf)
   exact ⟨_,by omega,i+1,_,_,rfl,rfl,rfl,by omega,by rw [gi,hn];show _+_=_;omega,by rw [eu,bz,decide_eq_false (by omega),Bool.or_false]⟩
  rw [if_neg bw] at gi gJ;(conv=>whnf);refine ⟨fun ot=>?_,fun ot=>?_⟩<;>simp only [decide_eq_true_eq,decide_eq_false_iff_not] at ot
  ·rw [if_pos ot] at gi gJ;(conv=>whnf);repeat (refine ⟨ah ⟨by omega,by omega⟩,?_⟩;conv=>whnf)
   exact ⟨_,by omega,i+1,_,_,rfl,rfl,rfl,by omega,by rw [gi,hn];show _+_=_;omega,by rw [eu,bz,decide_eq_false (by omega),Bool.or_false]⟩
  rw [if_neg ot] at gi gJ;(conv=>whnf);refine ⟨fun me=>?_,fun me=>?_⟩<;>simp only [decide_eq_true_eq,decide_eq_false_iff_not] at me
  ·rw [if_pos me] at gi gJ;(conv=>whnf);repeat (refine ⟨ah ⟨by omega,by omega⟩,?_⟩;conv=>whnf)
   exact ⟨_,by omega,i+1,_,_,rfl,rfl,rfl,by omega,by rw [gi,hn];show _+_=_;omega,by rw [eu,decide_eq_true me,Bool.or_true]⟩
  rw [if_neg me] at gi gJ;(conv=>whnf);repeat (refine ⟨ah ⟨by omega,by omega⟩,?_⟩;conv=>whnf)
  exact ⟨_,by omega,i+1,_,_,rfl,rfl,rfl,by omega,by rw [gi,hn];omega,by rw [eu,bz,decide_eq_false me,Bool.or_false]⟩
 rw [List.take_of_length_le aD] at hn bz hb;(conv=>whnf);repeat ((refine dg w.form.entry.toNat (by omega) (nZ he.1 he.2) ?_);conv=>whnf)
 refine ⟨fun hq=>?_,fun hq=>?_⟩
 ·have hq:(!cl&&!decide ((bZ H.lex w.form.entry).cls=[]))=true:=hq;rw [bz] at hq;(conv=>whnf);repeat (refine ⟨ah ⟨by omega,by omega⟩,?_⟩;conv=>whnf)
  refine ⟨congrArg (AV.int .i64) ?_,rfl⟩;rw [gC,if_pos hq,hn]
 have hq:(!cl&&!decide ((bZ H.lex w.form.entry).cls=[]))=false:=hq;rw [bz] at hq;(conv=>whnf);skip;refine ⟨congrArg (AV.int .i64) ?_,rfl⟩;rw [gC,if_neg (by rw [hq];decide),hn];omega
end Go.Abs.Wall
namespace Go.Abs.Wall
open Go Go.Abs Go.Proofs
structure av where
 xE:Int
 to:Int
 cost:Int
 word:bU
deriving DecidableEq
def cz (e:av):List AV:=[.int .i64 e.xE,.int .i64 e.to,.int .i64 e.cost]++cr e.word
def fW (us:List ay):List AV:=[.sl 2 none (us.map aV)]
structure Env where
 H:aj
 s:Sp
 at_:Int
 entry:Int
 ending:Int
structure tK extends Env where
 most:Nat
 bP:List (List ay)
def pw (E:Env) (p:bn) (T:List ay):av:=⟨E.at_,E.at_+T.length,gC E.H ⟨⟨E.entry,E.ending,p.cl⟩,T⟩,⟨⟨E.entry,E.ending,p.cl⟩,T⟩⟩
def jO (E:Env) (p:bn) (T:List ay):List av:=if (decide (0<(T.length:Int))&&mO E.s p)=true then [pw E p T] else []
def fj (E:Env):List (List ay)->bn->List ay->List av
 | [],_,_=>[]
 | us::r,p,T=>us.flatMap fun u=>(aX E.s p u).flatMap fun q=>jO E q (T++[u])++fj E r q (T++[u])
def cS (E:Env) (rest:List (List ay)) (p:bn) (T:List ay):List av:=jO E p T++fj E rest p T
structure HP (E:tK):Prop where
 ia:jg E.H
 fit:dU E.H
 sp:jN E.s
 entry:0<=E.entry/\E.entry<E.H.lex.entries.length
 place:0<=E.at_/\E.at_<=1048576
 most:E.most<=1048576
 bB:E.bP.length<=12
 ai:∀ us∈E.bP,us.length<=1048576/\∀ u∈us,iu u
def Uh (E:tK) (sk tk lk en:Nat):List AV:=
 [.bj tk 0,.au [.au (ou E.s)],.au [.int .i64 E.entry],.bj en 0,.bj lk 0,.au [.int .i64 E.at_],.au (bu E.H),.au [.sl 1 none (E.bP.map fW)],.au [.int .i64 E.most],.bj sk 0]
def HC (E:tK) (sk tk lk en:Nat) (tv lv:AV):af:=[(sk,.vec [.fn 194 (Uh E sk tk lk en)]),(tk,.vec [tv]),(lk,.vec [lv]),(en,.vec [.int .i64 E.ending])]
def xP (T:List ay) (v:AV) (hp:af):Prop:=(T=[]/\v=.gZ/\hp=[])\/∃ b,v=.aQ b 0 T.length 2/\hp=[(b,.vec (T.map aV).flatten)]
theorem Ui {α:Type} {A B C:List α} {m:Nat}:((A++B).take m++C).take m=(A++(B++C)).take m:=by
 rw [<- List.append_assoc];by_cases h:(A++B).length<=m
 ·rw [List.take_of_length_le h]
 have h1:m<=(A++B).length:=(by omega);rw [List.take_append_of_le_length h1,List.take_append_of_le_length (by rw [List.length_take];omega),List.take_take,Nat.min_self]
theorem aB.perm {f:FuncId} {vs:List AV} {h h':af} {R:AV->af->Prop} (hf:aB Tryz.prog f vs h R) (hp:h.Perm h'):aB Tryz.prog f vs h' R:=
 aB.pre hf (fun k o hm=>hp.mem_iff.1 hm) (fun hn=>by unfold keys at hn ⊢;exact ((hp.map _).nodup_iff).2 hn)
theorem ae.perm {f:FuncId} {vs:List AV} {h h2 h':af} {v:AV} (hf:ae Tryz.prog f vs h v) (hp:(h++h2).Perm h'):ae Tryz.prog f vs h' v:=by refine aB.post (aB.perm (aB.frame hf h2) hp) ?_;rintro v' h1 ⟨h3,⟨rfl,rfl⟩,rfl⟩;exact ⟨_,h',⟨rfl,rfl⟩,ag.refl _,fun k o hm=>hp.mem_iff.2 hm,fun hn=>by unfold keys at hn ⊢;exact ((hp.map _).nodup_iff).1 hn⟩
theorem ao.perm {r:aC} {h h':af} (hp:h.Perm h'):ao r h r h':=
 ao.sub (fun k o hm=>hp.mem_iff.2 hm) (fun hn=>by unfold keys at hn ⊢;exact ((hp.map _).nodup_iff).1 hn)
theorem Uj (b:Nat) (l:List ay) (hl:l.length<=aU):ae Tryz.prog 196 [.aQ b 0 l.length 2] [(b,.vec (l.map aV).flatten)] (.sl 2 none (l.map aV)):=by have:=H9 b l [] hl;rwa [List.append_nil] at this
theorem Ce {s:Sp} (hs:jN s) (p:bn) (u:ay):(aX s p u).length<=11:=by
 have h1:=hs.lex.many.2.2;unfold aX iy;repeat' split
 all_goals first|(simp;done)|(have h2:=Ua p u (s.H.lex.ar.drop (fp p.cl).toNat) (fp p.cl);rw [List.length_drop] at h2;omega)
def HQ (E:tK) (sk tk lk en:Nat) (rest:List (List ay)):Prop:=
 ∀ (p:bn) (T:List ay) (L:List av) (tv:AV) (tL:af) (lv:AV) (lu:af),(∃ pre,E.bP=pre++rest/\pre.length=T.length)->jP E.s p->xP T tv tL->Row 7 cz L lv lu->(T≠[]->L.length<=E.most)->L.length<=E.most+1 ->
  aB Tryz.prog 194 (.agg (fE p)::Uh E sk tk lk en) (HC E sk tk lk en tv lv++(tL++lu))
   (fun v h'=>v=.aH []/\∃ tM sj rk qj,xP T tM sj/\Row 7 cz ((L++cS E.toEnv rest p T).take (E.most+1)) rk qj/\h'=HC E sk tk lk en tM rk++(sj++qj))
def c194:az:=⟨[0,1,2,3,4,5,6,7,8,9,10,11,12,13,15,17,26,51,55,56,57,58,64,65,66,67,73],[],[13,15,17],[],[(3,[0,1,2,3,4,5,6,7,8,9,10],[13]),(4,[0,1,2,3,4,5,6,7,8,9,10,11,12],[])],[]⟩
def Uk (E:tK) (cA:List (List ay)) (p:bn) (T:List ay) (us:List ay):List av:=us.flatMap fun u=>(aX E.s p u).flatMap fun q=>cS E.toEnv cA q (T++[u])
def BJ (E:tK) (sk tk lk en:Nat) (p:bn) (T:List ay) (us:List ay) (cA:List (List ay)) (W0:List av) (m:Nat) (r:aC) (h:af):Prop:=
 ∃ (k:Nat) (n:Int) (L2:List av) (tv:AV) (tL:af) (lv:AV) (lu:af),r=[(1,[],.bj tk 0),(2,[],.au [.au (ou E.s)]),(5,[],.bj lk 0),(9,[],.au [.int .i64 E.most]),(10,[],.bj sk 0),(11,[],.au (fE p)),(12,[],.int .i64 n),(55,[],.sl 2 none (us.map aV)),(56,[],.int .i64 (us.map aV).length),(57,[],.int .i64 k)]/\h=HC E sk tk lk en tv lv++(tL++lu)/\m=us.length - k/\n=T.length/\k<=us.length/\xP T tv tL/\Row 7 cz L2 lv lu/\L2.length<=E.most+1/\W0=(L2++Uk E cA p T (us.drop k)).take (E.most+1)
def K6 (E:tK) (sk tk lk en:Nat) (T:List ay) (W0:List av) (v:AV) (h':af):Prop:=v=.aH []/\∃ tM sj rk qj,xP T tM sj/\Row 7 cz W0 rk qj/\h'.Perm (HC E sk tk lk en tM rk++(sj++qj))
set_option maxHeartbeats 2000000 in
theorem HR (E:tK) (sk tk lk en:Nat) (hE:HP E) (p:bn) (T:List ay) (us:List ay) (cA:List (List ay)) (W0:List av) (pre:List (List ay)) (hA:E.bP=pre++us::cA) (ej:pre.length=T.length) (hp:jP E.s p) (IH:HQ E sk tk lk en cA) (kk:Nat) (X:Nat->Prop) :
  ∀ m r h,BJ E sk tk lk en p T us cA W0 m r h->run Tryz.prog c194 Tryz.f194 ⟨Tryz.f194.ntmps,X,DP Tryz.prog Tryz.f194 (K6 E sk tk lk en T W0)⟩ (kk+3900) (.go [false,false,true,true,true,true,true]) [.head (mF [1,2,5,9,10,11,12,55,56,57] [] (Bq fun r h=>∃ m',m'<m/\BJ E sk tk lk en p T us cA W0 m' r h)),.aS 0] r h:=by
 have dw:=hE.bB;have oG:=congrArg List.length hA;rw [List.length_append,List.length_cons] at oG;have jj:=hp.bB;have HS:=hE.most;have uj:T.length+1<=aU:=by unfold aU;omega
 have bd:E.bP[T.length]?=some us:=by rw [hA,<- ej];simp
 obtain ⟨yl,kV⟩:=hE.ai us (List.mem_of_getElem? bd);rintro m r h' ⟨k,n,L2,tv,tL,lv,lu,rfl,rfl,rfl,hn,hk,MD,mQ,oH,jh⟩;unfold Uk at jh;(conv=>whnf);refine ⟨fun aD=>?_,fun aD=>?_⟩<;>simp at aD
 ·obtain ⟨u,hu⟩:=aL aD;have sE:=kV u (List.mem_of_getElem? hu);rw [drop_cons hu,List.flatMap_cons] at jh;have cp:=wE hE.sp hp sE;have gm:=Ce hE.sp p u;(conv=>whnf);repeat ((first|refine ix (by assumption) ?_|refine ae.k0 (Uc E.s p u hE.sp hp (by have:=sE.2.2.2;omega)) ?_|refine ⟨_,_,bo.here _,⟨Nat.le_of_ble_eq_true rfl,rfl⟩,?_⟩|intro (nb:Nat));conv=>whnf)
  refine bW rfl mixed [1,2,5,9,10,11,12,15,55,56,57,64,65,66] [] (fun m r h=>∃ (j:Nat) (n:Int) (L3:List av) (tv:AV) (tL:af) (lv:AV) (lu:af),r=[(1,[],.bj tk 0),(2,[],.au [.au (ou E.s)]),(5,[],.bj lk 0),(9,[],.au [.int .i64 E.most]),(10,[],.bj sk 0),(11,[],.au (fE p)),(12,[],.int .i64 n),(15,[],.au (aV u)),(55,[],.sl 2 none (us.map aV)),(56,[],.int .i64 (us.map aV).length),(57,[],.int .i64 k),(64,[],.sl 6 none ((aX E.s p u).map fE)),(65,[],.int .i64 ((aX E.s p u).map fE).length),(66,[],.int .i64 j)]/\h=HC E sk tk lk en tv lv++(tL++lu)/\m=(aX E.s p u).length - j/\n=T.length/\j<=(aX E.s p u).length/\xP T tv tL/\Row 7 cz L3 lv lu/\L3.length<=E.most+1/\W0=(L3++(((aX E.s p u).drop j).flatMap (fun q=>cS E.toEnv cA q (T++[u]))++(us.drop (k+1)).flatMap fun u=>(aX E.s p u).flatMap fun q=>cS E.toEnv cA q (T++[u]))).take (E.most+1)) ?_ ?_
  ·(conv=>whnf);exact ⟨_,_,ao.refl _ _,_,0,n,L2,_,_,_,_,rfl,rfl,rfl,hn,by omega,MD,mQ,oH,jh⟩
  clear MD mQ oH jh;rintro m r h' ⟨j,n,L3,tv,tL,lv,lu,rfl,rfl,rfl,rfl,hj,ME,rB,ua,kC⟩;(conv=>whnf);refine ⟨fun eG=>?_,fun eG=>?_⟩<;>simp at eG
  ·obtain ⟨q,hq⟩:=aL eG;have oI:=cp q (List.mem_of_getElem? hq);rw [drop_cons hq,List.flatMap_cons,List.append_assoc] at kC;have K7:=ME;have rC:=rB;rcases ME with ⟨Ul,rfl,rfl⟩|⟨b3,rfl,rfl⟩<;>rcases rB with ⟨rD,rfl,rfl⟩|⟨rD,l3,rfl,rfl⟩
   all_goals
    (conv=>whnf);repeat ((first|refine ix (by assumption) ?_|(refine ⟨_,_,.tail _ (.tail _ (.head _)),rfl,?_⟩)|refine ⟨_,_,bo.here _,⟨Nat.le_of_ble_eq_true rfl,rfl⟩,?_⟩|intro (nb:Nat));conv=>whnf)
    refine ⟨fun bE=>?_,fun bE=>?_⟩<;>simp only [decide_eq_true_eq,decide_eq_false_iff_not] at bE
    ·have kD:E.most+1<=L3.length:=(by first|omega|(rw [rD];simp;omega));rw [List.take_append_of_le_length kD,List.take_of_length_le ua] at kC;(conv=>whnf);exact ⟨rfl,_,_,_,_,K7,by rw [kC];exact rC,List.Perm.refl _⟩
    have kD:L3.length<=E.most:=(by first|omega|(rw [rD];simp));(conv=>whnf);repeat ((first|(refine ⟨⟨Nat.le_of_ble_eq_true rfl,Nat.le_of_ble_eq_true rfl⟩,fun b4=>?_⟩)|(refine ⟨_,.tail _ (.tail _ (.tail _ (.tail _ (.head _)))),⟨ub (fun _=>rfl),uj⟩,fun b4=>⟨_,.there (.there (.there (.there (.here _)))),?_⟩⟩)|(refine ⟨_,_,.there (.there (.here _)),aR,?_⟩)|refine ⟨_,_,.head _,rfl,?_⟩|refine ⟨_,_,.tail _ (.head _),rfl,?_⟩|refine ⟨_,_,.there (.here _),aR,?_⟩);conv=>whnf)
    first
     | (have MF:xP (T++[u]) (.aQ b4 0 1 2) [(b4,.vec (aV u++[]))]:=.inr ⟨b4,by rw [Ul];rfl,by rw [Ul];rfl⟩
        refine aB.mono ?_ (aB.perm (IH q (T++[u]) L3 _ _ _ _ ⟨pre++[us],by rw [hA];simp,by simp [ej]⟩ oI MF rC (fun _=>kD) ua) (List.perm_middle (l₁:=HC E sk tk lk en (.aQ b4 0 1 2) _))))
     | (have MF:xP (T++[u]) (.aQ b4 0 (T.length+1) 2) [(b4,.vec ((T.map aV).flatten++(aV u++[])))]:=.inr ⟨b4,by rw [List.length_append];rfl,by rw [List.map_append,List.flatten_append];rfl⟩
        refine aB.mono ?_ (aB.perm (IH q (T++[u]) L3 _ _ _ _ ⟨pre++[us],by rw [hA];simp,by simp [ej]⟩ oI MF rC (fun _=>kD) ua) (List.Perm.refl _)))
    rintro v h1 ⟨rfl,tv5,a0E,lv5,a0F,K8,K9,rfl⟩;have dP:((T++[u]).map aV).flatten=(T.map aV).flatten++aV u:=(by simp);rcases K8 with ⟨e5,_,_⟩|⟨b5,rfl,Um⟩
    ·simp at e5
    rw [dP] at Um;subst Um;(conv=>whnf);repeat ((first|refine ⟨ah ⟨by omega,by omega⟩,?_⟩|(refine ⟨ah ⟨by omega,by omega,by simp;omega,.inl rfl⟩,?_⟩)|refine ⟨_,_,.tail _ (.head _),rfl,?_⟩|refine ⟨_,_,.there (.here _),aR,?_⟩);conv=>whnf)
    exact ⟨_,_,ao.cut (xs:=(T.map aV).flatten) (ys:=aV u) (.there (.there (.there (.there (.here _))))),_,(by omega),j+1,_,_,_,_,_,_,rfl,rfl,rfl,rfl,by omega,.inr ⟨b5,rfl,rfl⟩,K9,by rw [List.length_take];omega,by rw [Ui];exact kC⟩
  rw [drop_nil eG,List.flatMap_nil,List.nil_append] at kC;(conv=>whnf);repeat (refine ⟨ah ⟨by omega,by omega⟩,?_⟩;conv=>whnf)
  exact ⟨_,_,ao.refl _ _,_,(by omega),k+1,_,L3,_,_,_,_,rfl,rfl,rfl,rfl,by omega,ME,rB,ua,kC⟩
 rw [drop_nil aD,List.flatMap_nil,List.append_nil,List.take_of_length_le oH] at jh;(conv=>whnf);skip;exact ⟨rfl,_,_,_,_,MD,by rw [jh];exact mQ,List.Perm.refl _⟩
set_option maxHeartbeats 4000000 in
theorem Un (E:tK) (sk tk lk en:Nat) (hE:HP E) (rest:List (List ay)) (IH:∀ us r,rest=us::r->HQ E sk tk lk en r):HQ E sk tk lk en rest:=by
 intro p T L tv tL lv lu oF hp hT hL L0 yk;obtain ⟨pre,hA,ej⟩:=oF;have dw:=hE.bB;have oG:=congrArg List.length hA;rw [List.length_append] at oG;have jj:=hp.bB;have HS:=hE.most;have a0G:=hE.place;have uj:T.length+1<=aU:=by unfold aU;omega
 refine aB.post (R:=fun v h'=>v=.aH []/\∃ tM sj rk qj,xP T tM sj/\Row 7 cz ((L++cS E.toEnv rest p T).take (E.most+1)) rk qj/\h'.Perm (HC E sk tk lk en tM rk++(sj++qj))) ?_ ?_
 ·have xQ:=hT;rcases hT with ⟨qF,rfl,rfl⟩|⟨b,rfl,rfl⟩
  ·have L4:T.length=0:=by rw [qF];rfl
   have hW:(L++cS E.toEnv rest p T).take (E.most+1)=(L++fj E.toEnv rest p T).take (E.most+1):=by unfold cS jO;rw [L4];rfl
   have gS:=hL;have jt:=yk;obtain ⟨L1,fi⟩:∃ L1,L1=L:=⟨_,rfl⟩;rw [<- fi] at gS jt;have hW:(L++cS E.toEnv rest p T).take (E.most+1)=(L1++fj E.toEnv rest p T).take (E.most+1):=(by rw [hW,fi]);refine aG (F:=Tryz.f194) c194 rfl rfl rfl mixed rfl fun X=>?_;(conv=>whnf);repeat ((first|(refine ba (MA E.s p hE.sp hp) ?_)|refine ⟨_,_,.tail _ (.head _),rfl,?_⟩);conv=>whnf)
   refine cF rfl ?_;(conv=>whnf);skip;refine ⟨fun hz=>?_,fun hz=>?_⟩<;>simp only [decide_eq_true_eq,decide_eq_false_iff_not,List.length_map] at hz
   ·have hr:rest=[]:=List.eq_nil_of_length_eq_zero (by omega);rw [hr,show fj E.toEnv [] p T=[] from rfl,List.append_nil,List.take_of_length_le jt,<- hr] at hW;(conv=>whnf);exact ⟨rfl,_,_,_,_,xQ,by rw [hW];exact gS,(by first|exact List.Perm.refl _|exact List.perm_append_comm (l₁:=[_]) (l₂:=[_,_,_,_,_]))⟩
   obtain ⟨us,cA,hr⟩:∃ us r,rest=us::r:=by
    cases rest with
    | nil=>simp at oG;omega
    | cons us r=>exact ⟨us,r,rfl⟩
   have bd:E.bP[T.length]?=some us:=by rw [hA,hr,<- ej];simp
   obtain ⟨yl,kV⟩:=hE.ai us (List.mem_of_getElem? bd);have IH:=IH us cA hr;have mP:fj E.toEnv rest p T=us.flatMap fun u=>(aX E.s p u).flatMap fun q=>cS E.toEnv cA q (T++[u]):=by rw [hr];rfl
   rw [mP] at hW;(conv=>whnf);repeat ((refine dg T.length (by first|rfl|omega) bd ?_);conv=>whnf)
   refine bW rfl mixed [1,2,5,9,10,11,12,55,56,57] [] (BJ E sk tk lk en p T us cA ((L++cS E.toEnv rest p T).take (E.most+1))) ?_ (HR E sk tk lk en hE p T us cA _ pre (by rw [hA,hr]) ej hp IH _ X);(conv=>whnf);exact ⟨_,_,ao.perm (by first|exact List.Perm.refl _|exact List.perm_append_comm (l₁:=[_]) (l₂:=[_,_,_,_,_])),_,0,_,L1,_,_,_,_,rfl,rfl,rfl,by first|rfl|omega,by omega,xQ,gS,jt,hW⟩
  refine aG (F:=Tryz.f194) c194 rfl rfl rfl mixed rfl fun X=>?_;(conv=>whnf);repeat ((first|(refine ba (MA E.s p hE.sp hp) ?_)|refine ⟨_,_,.tail _ (.head _),rfl,?_⟩);conv=>whnf)
  refine ⟨fun hq=>?_,fun hq=>?_⟩
  ·have hq:(decide (0<(T.length:Int))&&mO E.s p)=true:=hq;have hh:jO E.toEnv p T=[pw E.toEnv p T]:=by unfold jO;rw [if_pos hq]
   have L5:T≠[]:=by intro h;rw [h] at hq;cases hq
   have a0H:=L0 L5;obtain ⟨L1,fi⟩:∃ L1,L1=L++[pw E.toEnv p T]:=⟨_,rfl⟩;have jt:L1.length<=E.most+1:=by rw [fi,List.length_append,List.length_singleton];omega
   have hW:(L++cS E.toEnv rest p T).take (E.most+1)=(L1++fj E.toEnv rest p T).take (E.most+1):=by unfold cS;rw [hh,fi,List.append_assoc]
   rcases hL with ⟨ml,rfl,rfl⟩|⟨ml,lb,rfl,rfl⟩
   ·(conv=>whnf);repeat ((first|refine ba (Mx p.cl (by unfold aU;omega)) ?_|(refine ⟨_,_,.tail _ (.tail _ (.tail _ (.head _))),rfl,?_⟩)|refine ⟨_,_,.tail _ (.head _),rfl,?_⟩|refine And.intro (by show aP (aN Tryz.f194 _) _=true;decide +kernel) ?_);conv=>whnf)
    refine FP (ae.perm (h:=[(b,.vec (T.map aV).flatten)]) (h2:=HC E sk tk lk en (.aQ b 0 T.length 2) .gZ++[]) (Uj b T (by unfold aU;omega)) (List.perm_middle (l₁:=HC E sk tk lk en (.aQ b 0 T.length 2) .gZ) (l₂:=[])).symm) ?_;(conv=>whnf);repeat ((first|refine ⟨ah ⟨by omega,by omega⟩,?_⟩|(refine ⟨_,_,.tail _ (.tail _ (.head _)),rfl,?_⟩)|(refine ba (FB E.H ⟨⟨E.entry,E.ending,p.cl⟩,T⟩ hE.fit.lex hE.ia (by show p.cl.length<=aw;unfold aw;omega) hE.entry (by show T.length<=1048576;omega)) ?_)|(refine ⟨⟨Nat.le_of_ble_eq_true rfl,Nat.le_of_ble_eq_true rfl⟩,fun b4=>?_⟩)|(refine ⟨_,_,.there (.there (.there (.here _))),aR,?_⟩)|refine ⟨_,_,bo.here _,?_⟩|refine ⟨_,_,.here _,aR,?_⟩|refine And.intro (by show aP (aN Tryz.f194 _) _=true;decide +kernel) ?_|intro (nb:Nat));conv=>whnf)
    have gS:Row 7 cz L1 (.aQ b4 0 1 7) [(b4,.vec (cz (pw E.toEnv p T)++[]))]:=by rw [fi,ml];exact .inr ⟨by simp,b4,rfl,by simp⟩
    refine ⟨fun hz=>?_,fun hz=>?_⟩<;>simp only [decide_eq_true_eq,decide_eq_false_iff_not,List.length_map] at hz
    ·have hr:rest=[]:=List.eq_nil_of_length_eq_zero (by omega);rw [hr,show fj E.toEnv [] p T=[] from rfl,List.append_nil,List.take_of_length_le jt,<- hr] at hW;(conv=>whnf);exact ⟨rfl,_,_,_,_,xQ,by rw [hW];exact gS,(by first|exact List.Perm.refl _|exact List.perm_append_comm (l₁:=[_]) (l₂:=[_,_,_,_,_]))⟩
    obtain ⟨us,cA,hr⟩:∃ us r,rest=us::r:=by
     cases rest with
     | nil=>simp at oG;omega
     | cons us r=>exact ⟨us,r,rfl⟩
    have bd:E.bP[T.length]?=some us:=by rw [hA,hr,<- ej];simp
    obtain ⟨yl,kV⟩:=hE.ai us (List.mem_of_getElem? bd);have IH:=IH us cA hr;have mP:fj E.toEnv rest p T=us.flatMap fun u=>(aX E.s p u).flatMap fun q=>cS E.toEnv cA q (T++[u]):=by rw [hr];rfl
    rw [mP] at hW;(conv=>whnf);repeat (refine ix (by assumption) ?_;conv=>whnf)
    refine bW rfl mixed [1,2,5,9,10,11,12,55,56,57] [] (BJ E sk tk lk en p T us cA ((L++cS E.toEnv rest p T).take (E.most+1))) ?_ (HR E sk tk lk en hE p T us cA _ pre (by rw [hA,hr]) ej hp IH _ X);(conv=>whnf);exact ⟨_,_,ao.perm (by first|exact List.Perm.refl _|exact List.perm_append_comm (l₁:=[_]) (l₂:=[_,_,_,_,_])),_,0,_,L1,_,_,_,_,rfl,rfl,rfl,by first|rfl|omega,by omega,xQ,gS,jt,hW⟩
   have Ak:L.length+1<=aU:=by unfold aU;omega
   (conv=>whnf);repeat ((first|refine ba (Mx p.cl (by unfold aU;omega)) ?_|(refine ⟨_,_,.tail _ (.tail _ (.tail _ (.head _))),rfl,?_⟩)|refine ⟨_,_,.tail _ (.head _),rfl,?_⟩|refine And.intro (by show aP (aN Tryz.f194 _) _=true;decide +kernel) ?_);conv=>whnf)
   refine FP (ae.perm (h:=[(b,.vec (T.map aV).flatten)]) (h2:=HC E sk tk lk en (.aQ b 0 T.length 2) (.aQ lb 0 L.length 7)++[(lb,.vec (L.map cz).flatten)]) (Uj b T (by unfold aU;omega)) (List.perm_middle (l₁:=HC E sk tk lk en (.aQ b 0 T.length 2) (.aQ lb 0 L.length 7)) (l₂:=[(lb,.vec (L.map cz).flatten)])).symm) ?_;(conv=>whnf);repeat ((first|refine ⟨ah ⟨by omega,by omega⟩,?_⟩|(refine ⟨_,_,.tail _ (.tail _ (.head _)),rfl,?_⟩)|(refine ba (FB E.H ⟨⟨E.entry,E.ending,p.cl⟩,T⟩ hE.fit.lex hE.ia (by show p.cl.length<=aw;unfold aw;omega) hE.entry (by show T.length<=1048576;omega)) ?_)|(refine ⟨_,.tail _ (.tail _ (.tail _ (.tail _ (.tail _ (.head _))))),⟨ub (fun _=>rfl),Ak⟩,fun b4=>⟨_,.there (.there (.there (.there (.there (.here _))))),?_⟩⟩)|(refine ⟨_,_,.there (.there (.here _)),aR,?_⟩)|refine ⟨_,_,bo.here _,?_⟩|refine ⟨_,_,.here _,aR,?_⟩|refine And.intro (by show aP (aN Tryz.f194 _) _=true;decide +kernel) ?_|intro (nb:Nat));conv=>whnf)
   have gS:Row 7 cz L1 (.aQ b4 0 (L.length+1) 7) [(b4,.vec ((L.map cz).flatten++(cz (pw E.toEnv p T)++[])))]:=by rw [fi];exact .inr ⟨by simp,b4,by rw [List.length_append];rfl,by rw [List.map_append,List.flatten_append];rfl⟩
   refine ⟨fun hz=>?_,fun hz=>?_⟩<;>simp only [decide_eq_true_eq,decide_eq_false_iff_not,List.length_map] at hz
   ·have hr:rest=[]:=List.eq_nil_of_length_eq_zero (by omega);rw [hr,show fj E.toEnv [] p T=[] from rfl,List.append_nil,List.take_of_length_le jt,<- hr] at hW;(conv=>whnf);exact ⟨rfl,_,_,_,_,xQ,by rw [hW];exact gS,(by first|exact List.Perm.refl _|exact List.perm_append_comm (l₁:=[_]) (l₂:=[_,_,_,_,_]))⟩
   obtain ⟨us,cA,hr⟩:∃ us r,rest=us::r:=by
    cases rest with
    | nil=>simp at oG;omega
    | cons us r=>exact ⟨us,r,rfl⟩
   have bd:E.bP[T.length]?=some us:=by rw [hA,hr,<- ej];simp
   obtain ⟨yl,kV⟩:=hE.ai us (List.mem_of_getElem? bd);have IH:=IH us cA hr;have mP:fj E.toEnv rest p T=us.flatMap fun u=>(aX E.s p u).flatMap fun q=>cS E.toEnv cA q (T++[u]):=by rw [hr];rfl
   rw [mP] at hW;(conv=>whnf);repeat (refine ix (by assumption) ?_;conv=>whnf)
   refine bW rfl mixed [1,2,5,9,10,11,12,55,56,57] [] (BJ E sk tk lk en p T us cA ((L++cS E.toEnv rest p T).take (E.most+1))) ?_ (HR E sk tk lk en hE p T us cA _ pre (by rw [hA,hr]) ej hp IH _ X);(conv=>whnf);exact ⟨_,_,ao.perm (by first|exact List.Perm.refl _|exact List.perm_append_comm (l₁:=[_]) (l₂:=[_,_,_,_,_])),_,0,_,L1,_,_,_,_,rfl,rfl,rfl,by first|rfl|omega,by omega,xQ,gS,jt,hW⟩
  have hq:(decide (0<(T.length:Int))&&mO E.s p)=false:=hq;have hh:jO E.toEnv p T=[]:=by unfold jO;rw [if_neg (by rw [hq];decide)]
  obtain ⟨L1,fi⟩:∃ L1,L1=L:=⟨_,rfl⟩;have gS:=hL;have jt:=yk;rw [<- fi] at gS jt;have hW:(L++cS E.toEnv rest p T).take (E.most+1)=(L1++fj E.toEnv rest p T).take (E.most+1):=by unfold cS;rw [hh,List.nil_append,fi]
  (conv=>whnf);skip;refine ⟨fun hz=>?_,fun hz=>?_⟩<;>simp only [decide_eq_true_eq,decide_eq_false_iff_not,List.length_map] at hz
  ·have hr:rest=[]:=List.eq_nil_of_length_eq_zero (by omega);rw [hr,show fj E.toEnv [] p T=[] from rfl,List.append_nil,List.take_of_length_le jt,<- hr] at hW;(conv=>whnf);exact ⟨rfl,_,_,_,_,xQ,by rw [hW];exact gS,(by first|exact List.Perm.refl _|exact List.perm_append_comm (l₁:=[_]) (l₂:=[_,_,_,_,_]))⟩
  obtain ⟨us,cA,hr⟩:∃ us r,rest=us::r:=by
   cases rest with
   | nil=>simp at oG;omega
   | cons us r=>exact ⟨us,r,rfl⟩
  have bd:E.bP[T.length]?=some us:=by rw [hA,hr,<- ej];simp
  obtain ⟨yl,kV⟩:=hE.ai us (List.mem_of_getElem? bd);have IH:=IH us cA hr;have mP:fj E.toEnv rest p T=us.flatMap fun u=>(aX E.s p u).flatMap fun q=>cS E.toEnv cA q (T++[u]):=by rw [hr];rfl
  rw [mP] at hW;(conv=>whnf);repeat (refine ix (by assumption) ?_;conv=>whnf)
  refine bW rfl mixed [1,2,5,9,10,11,12,55,56,57] [] (BJ E sk tk lk en p T us cA ((L++cS E.toEnv rest p T).take (E.most+1))) ?_ (HR E sk tk lk en hE p T us cA _ pre (by rw [hA,hr]) ej hp IH _ X);(conv=>whnf);exact ⟨_,_,ao.perm (by first|exact List.Perm.refl _|exact List.perm_append_comm (l₁:=[_]) (l₂:=[_,_,_,_,_])),_,0,_,L1,_,_,_,_,rfl,rfl,rfl,by first|rfl|omega,by omega,xQ,gS,jt,hW⟩
 rintro v h1 ⟨rfl,tM,sj,rk,qj,oE,ug,eT⟩;exact ⟨_,_,⟨rfl,tM,sj,rk,qj,oE,ug,rfl⟩,ag.refl _,fun k o hm=>eT.mem_iff.2 hm,fun hn=>by unfold keys at hn ⊢;exact ((eT.map _).nodup_iff).1 hn⟩
theorem Uo (E:tK) (sk tk lk en:Nat) (hE:HP E):∀ rest,HQ E sk tk lk en rest
 | []=>Un E sk tk lk en hE [] (fun us r h=>by cases h)
 | us::r=>Un E sk tk lk en hE (us::r) (fun Al r' h=>by cases h;exact Uo E sk tk lk en hE r)
end Go.Abs.Wall
namespace Go.Abs.Wall
open Go Go.Abs Go.Proofs
abbrev L6:=Int × Int × Int × List Int × List ay
def Er (w:bU):L6:=(w.ai.length,w.form.entry,w.form.ending,w.form.ar,w.ai)
def mY (a b:bU):Int:=ig [cB a.ai.length b.ai.length,cB a.form.entry b.form.entry,cB a.form.ending b.form.ending,cL cB a.form.ar b.form.ar,cL mb a.ai b.ai]
theorem zW:kT mY:=by
 have h:=(kT.mJ zI (kT.mJ zI (kT.mJ zI (kT.mJ zI.cL zU.cL)))).of Er (fun a b h=>by
  obtain ⟨⟨a1,a2,a3⟩,a4⟩:=a;obtain ⟨⟨b1,b2,b3⟩,b4⟩:=b;unfold Er at h;simp at h;simp [h])
 have he:mY=fun a b=>mJ cB (mJ cB (mJ cB (mJ (cL cB) (cL mb)))) (Er a) (Er b):=by
  funext a b;have h1:∀ x:Int,ig [x]=x:=fun x=>by simp only [ig];split<;>omega
  simp only [mY,mJ,Er];rw [ig,ig,ig,HL];rfl
 rw [he];exact h
def ym (a b:av):Int:=mY a.word b.word
theorem IG:oZ ym:=⟨fun x=>zW.c.ud _,fun x y z=>zW.c.tr _ _ _,fun x y z=>zW.c.nt _ _ _⟩
def kE (L:List av):List av:=px ym L
def c138:az:=⟨[0,1,4,5,6,7,8,9,10,11,12,19,28,35],[],[],[],[],[]⟩
def c244:az:=⟨[0,1,2,6,7,8,9,10,11,12,13,14,21,31,38],[],[8,9],[],[],[]⟩
def c199:az:=⟨[0,1,2,3,4],[],[],[],[(1,[0,1,2,3,4,5,6,7,8,9,10,11,12,13,14,15,16,17,18,19,20,21,22,23,24,25,26,27,28,29,30,31,32,33,34,35],[])],[]⟩
def c198:az:=⟨[0,1,2,3,4],[],[],[],[],[]⟩
theorem L7 (a b:List Int) (ha:a.length<=aw) (hb:b.length<=aw):ae Tryz.prog 138 [.sl 1 none (ints a),.sl 1 none (ints b)] [] (.int .i64 (cL cB a b)):=by
 unfold aw at ha hb;refine aG (F:=Tryz.f138) c138 rfl rfl rfl mixed rfl fun X=>?_;(conv=>whnf);refine bR rfl mixed [0,1,9,10,11] [] (fun m r h=>∃ (i:Nat),r=[(0,[],.sl 1 none (ints a)),(1,[],.sl 1 none (ints b)),(9,[],.sl 1 none (ints a)),(10,[],.int .i64 (ints a).length),(11,[],.int .i64 i)]/\h=[]/\m=a.length - i/\i<=a.length/\i<=b.length/\cL cB a b=cL cB (a.drop i) (b.drop i)) ?_ ?_
 ·(conv=>whnf);exact ⟨_,0,rfl,rfl,rfl,by omega,by omega,rfl⟩
 rintro m r h ⟨i,rfl,rfl,rfl,hi,hj,hg⟩;(conv=>whnf);refine ⟨fun aD=>?_,fun aD=>?_⟩<;>simp at aD
 ·obtain ⟨x,hx⟩:=aL aD;(conv=>whnf);repeat (refine ix (by assumption) ?_;conv=>whnf)
  refine ⟨fun hq=>?_,fun hq=>?_⟩<;>simp at hq
  ·rw [drop_cons hx,drop_nil hq,cL] at hg;(conv=>whnf);exact ⟨by rw [hg],rfl⟩
  obtain ⟨y,hy⟩:=aL hq;rw [drop_cons hx,drop_cons hy,cL] at hg;(conv=>whnf);repeat ((first|refine ix (by assumption) ?_|refine ae.k0 (Cu _ _) ?_);conv=>whnf)
  refine ⟨fun hc=>?_,fun hc=>?_⟩<;>simp at hc
  ·rw [if_pos hc] at hg;(conv=>whnf);exact ⟨by rw [hg],rfl⟩
  rw [if_neg (by simpa using hc)] at hg;(conv=>whnf);repeat (refine ⟨ah ⟨by omega,by omega⟩,?_⟩;conv=>whnf)
  exact ⟨_,by omega,i+1,rfl,rfl,rfl,by omega,by omega,hg⟩
 (conv=>whnf);skip;refine ⟨fun hq=>?_,fun hq=>?_⟩<;>simp at hq
 ·obtain ⟨y,hy⟩:=aL (show i<b.length by omega);rw [drop_nil aD,drop_cons hy,cL] at hg;(conv=>whnf);exact ⟨by rw [hg],rfl⟩
 rw [drop_nil aD,drop_nil (by omega),cL] at hg;(conv=>whnf);exact ⟨by rw [hg],rfl⟩
theorem L8 (a b:List ay) (ha:a.length<=aw) (hb:b.length<=aw):ae Tryz.prog 244 [.sl 2 none (a.map aV),.sl 2 none (b.map aV),.fn 220 []] [] (.int .i64 (cL mb a b)):=by
 unfold aw at ha hb;refine aG (F:=Tryz.f244) c244 rfl rfl rfl mixed rfl fun X=>?_;(conv=>whnf);refine bR rfl mixed [0,1,2,11,12,13] [] (fun m r h=>∃ (i:Nat),r=[(0,[],.sl 2 none (a.map aV)),(1,[],.sl 2 none (b.map aV)),(2,[],.fn 220 []),(11,[],.sl 2 none (a.map aV)),(12,[],.int .i64 (a.map aV).length),(13,[],.int .i64 i)]/\h=[]/\m=a.length - i/\i<=a.length/\i<=b.length/\cL mb a b=cL mb (a.drop i) (b.drop i)) ?_ ?_
 ·(conv=>whnf);exact ⟨_,0,rfl,rfl,rfl,by omega,by omega,rfl⟩
 rintro m r h ⟨i,rfl,rfl,rfl,hi,hj,hg⟩;(conv=>whnf);refine ⟨fun aD=>?_,fun aD=>?_⟩<;>simp at aD
 ·obtain ⟨x,hx⟩:=aL aD;(conv=>whnf);repeat ((first|refine ix (by assumption) ?_|refine ⟨_,_,bo.here _,⟨Nat.le_of_ble_eq_true rfl,rfl⟩,?_⟩|intro (nb:Nat));conv=>whnf)
  refine ⟨fun hq=>?_,fun hq=>?_⟩<;>simp at hq
  ·rw [drop_cons hx,drop_nil hq,cL] at hg;(conv=>whnf);exact ⟨by rw [hg],rfl⟩
  obtain ⟨y,hy⟩:=aL hq;rw [drop_cons hx,drop_cons hy,cL] at hg;(conv=>whnf);repeat ((first|refine ix (by assumption) ?_|refine ae.k0 (TS _ _) ?_|refine ⟨_,_,bo.here _,⟨Nat.le_of_ble_eq_true rfl,rfl⟩,?_⟩|intro (nb:Nat));conv=>whnf)
  refine ⟨fun hc=>?_,fun hc=>?_⟩<;>simp at hc
  ·rw [if_pos hc] at hg;(conv=>whnf);exact ⟨by rw [hg],rfl⟩
  rw [if_neg (by simpa using hc)] at hg;(conv=>whnf);repeat (refine ⟨ah ⟨by omega,by omega⟩,?_⟩;conv=>whnf)
  exact ⟨_,by omega,i+1,rfl,rfl,rfl,by omega,by omega,hg⟩
 (conv=>whnf);skip;refine ⟨fun hq=>?_,fun hq=>?_⟩<;>simp at hq
 ·obtain ⟨y,hy⟩:=aL (show i<b.length by omega);rw [drop_nil aD,drop_cons hy,cL] at hg;(conv=>whnf);exact ⟨by rw [hg],rfl⟩
 rw [drop_nil aD,drop_nil (by omega),cL] at hg;(conv=>whnf);exact ⟨by rw [hg],rfl⟩
structure pz (w:bU):Prop where
 cl:w.form.ar.length<=1048576
 us:w.ai.length<=1048576
theorem L9 (a b:bU) (ha:pz a) (hb:pz b):ae Tryz.prog 199 [.agg (cr a),.agg (cr b)] [] (.int .i64 (mY a b)):=by
 have h1:=ha.cl;have h2:=ha.us;have h3:=hb.cl;have h4:=hb.us;refine aG (F:=Tryz.f199) c199 rfl rfl rfl mixed rfl fun X=>?_;(conv=>whnf);repeat ((first|refine ba (Cu _ _) ?_|refine ba (L7 a.form.ar b.form.ar (by unfold aw;omega) (by unfold aw;omega)) ?_|refine ba (L8 a.ai b.ai (by unfold aw;omega) (by unfold aw;omega)) ?_|refine ba (FN [cB (a.ai.map aV).length (b.ai.map aV).length,cB a.form.entry b.form.entry,cB a.form.ending b.form.ending,cL cB a.form.ar b.form.ar,cL mb a.ai b.ai] (by simp [aw])) ?_|refine And.intro (by show aP (aN Tryz.f199 _) _=true;decide +kernel) ?_);conv=>whnf)
 refine ⟨?_,rfl⟩;rw [List.length_map,List.length_map];rfl
theorem M0 (a b:av) (ha:pz a.word) (hb:pz b.word):ae Tryz.prog 198 [.agg (cz a),.agg (cz b)] [] (.int .i64 (ym a b)):=by
 refine aG (F:=Tryz.f198) c198 rfl rfl rfl mixed rfl fun X=>?_;(conv=>whnf);repeat (refine ae.k0 (L9 a.word b.word ha hb) ?_;conv=>whnf)
 exact ⟨rfl,rfl⟩
def HT (l:List (List AV)):List Int:=l.map fun x=>match x with
 | [.int _ n]=>n
 | _=>0
theorem M1 (l:List Int):HT (ints l)=l:=by unfold HT ints;rw [List.map_map];exact (List.map_congr_left fun a _=>rfl).trans (List.map_id _)
def Uq:List AV->av
 | [.int _ a,.int _ b,.int _ c,.int _ e,.int _ n,.sl _ _ cl,.sl _ _ us]=>⟨a,b,c,⟨⟨e,n,HT cl⟩,us.map HM⟩⟩
 | _=>⟨0,0,0,⟨⟨0,0,[]⟩,[]⟩⟩
theorem M3 (e:av):Uq (cz e)=e:=by obtain ⟨a,b,c,⟨⟨f,n,cl⟩,us⟩⟩:=e;show av.mk a b c ⟨⟨f,n,HT (ints cl)⟩,(us.map aV).map HM⟩=_;rw [M1,List.map_map,show us.map (HM ∘ aV)=us from (List.map_congr_left fun a _=>rfl).trans (List.map_id _)]
theorem M4:By Tryz.prog 197 198 7:=
 SL Tryz.u9 7 198 Tryz.isAgg141 Tryz.sizeOf141 (fun args w=>Fi ⟨Tryz.f198,_,rfl,rfl,rfl⟩)
def c197:az:=⟨[0,1,4],[],[],[],[],[]⟩
def c243:az:=⟨[0,1,2,3,4,10,11,12,13,14,15,16,17,18,19,20,25,32,39,56,75,80,97,125],[],[],[],[(17,[0,1,2,3,4,5,6,7,8,9,10,11,12,13,14,15,16],[])],[]⟩
def c264:az:=⟨[0,1,2,3,8,9,14,34],[],[],[],[(4,[0,1,2,3,4,5,6,7,8,9,10,11,12,13,14,15,16],[]),(6,[0,1,2,3,4,5,6,7,8,9,10,11,12,13,14,15,16,17],[])],[]⟩
theorem M5 (c:FuncId):ae Tryz.prog 264 [.aT,.int .i64 0,.int .i64 0,.fn c []] [] (.aH []):=by
 refine aG (F:=Tryz.f264) c264 rfl rfl rfl mixed rfl fun X=>?_;(conv=>whnf);repeat (refine ⟨ah ⟨by omega,by omega⟩,?_⟩;conv=>whnf)
 refine bR rfl mixed [0,1,2,3,8] [] (fun m r h=>r=[(0,[],.aT),(1,[],.int .i64 0),(2,[],.int .i64 0),(3,[],.fn c []),(8,[],.int .i64 1)]/\h=[]/\m=0/\True) ?_ ?_
 ·(conv=>whnf);exact ⟨_,rfl,rfl,rfl,trivial⟩
 rintro m r h ⟨rfl,rfl,rfl,_⟩;(conv=>whnf);refine cF rfl ?_;(conv=>whnf);exact ⟨rfl,rfl⟩
theorem M6 (c:FuncId):ae Tryz.prog 243 [.aT,.int .i64 0,.int .i64 0,.int .i64 0,.fn c []] [] (.aH []):=by
 refine aG (F:=Tryz.f243) c243 rfl rfl rfl mixed rfl fun X=>?_;(conv=>whnf);skip;refine bR rfl mixed [0,1,2,3,4,10,11] [] (fun m r h=>r=[(0,[],.aT),(1,[],.int .i64 0),(2,[],.int .i64 0),(3,[],.int .i64 0),(4,[],.fn c []),(10,[],.bool true),(11,[],.bool true)]/\h=[]/\m=0/\True) ?_ ?_
 ·(conv=>whnf);exact ⟨_,rfl,rfl,rfl,trivial⟩
 rintro m r h ⟨rfl,rfl,rfl,_⟩;(conv=>whnf);repeat (refine ⟨ah ⟨by omega,by omega⟩,?_⟩;conv=>whnf)
 refine cT rfl ?_;(conv=>whnf);repeat (refine ae.k0 (M5 c) ?_;conv=>whnf)
 exact ⟨rfl,rfl⟩
theorem M7 (c:FuncId):ae Tryz.prog 197 [.gZ,.fn c []] [] (.aH []):=by
 refine ae.args (zn:=[.aT,.fn c []]) ?_ (.cons (by intro c u h;simpa [aa] using h) (.cons (ag.refl _) .nil));refine aG (F:=Tryz.f197) c197 rfl rfl rfl mixed rfl fun X=>?_;(conv=>whnf);repeat ((first|refine ae.k0 (bitsLen) ?_|refine ae.k0 (M6 c) ?_);conv=>whnf)
 exact ⟨rfl,rfl⟩
theorem M8 (b:Nat) (xs:List av) (aJ:xs≠[]) (ka:xs.length<=4294967296) (hf:∀ x∈xs,pz x.word) (ha:∀ x∈xs,∀ y∈xs,x.word=y.word->x=y) :
  aB Tryz.prog 197 [.aQ b 0 xs.length 7,.fn 198 []] [(b,.vec (xs.map cz).flatten)] (fun v h'=>v=.aH []/\h'=[(b,.vec ((kE xs).map cz).flatten)]):=
 TV (by decide) ⟨Tryz.f197,_,rfl,rfl,rfl⟩ ⟨Tryz.f198,_,rfl,rfl,rfl⟩ M4 ym (dec:=Uq) M3 (fun a=>rfl) IG xs (fun x hx y hy h1 h2=>ha x hx y hy (zW.c.yw _ _ h1 h2)) aJ ka (fun x hx y hy=>M0 x y (hf x hx) (hf y hy)) b
end Go.Abs.Wall
namespace Go.Abs.Wall
open Go Go.Abs Go.Proofs
structure HU (v:db):Prop where
 kind:1<=v.kind/\v.kind<=3
 text:1<=v.text.length/\v.text.length<=8
structure HV (s:eL):Prop where
 bB:s.values.length<=12
 each:∀ v∈s.values,HU v
structure M9 (l:Lst):Prop where
 many:l.aA.length<=200
 each:∀ s∈l.aA,HV s
theorem N0 {k:Int} {s:List UInt8} (h:nC k s=true):1<=s.length/\s.length<=8:=by unfold nC at h;simp only [Bool.and_eq_true,decide_eq_true_eq] at h;exact h.1
theorem N1 {l:Lst} {b:List db} {v:db} (h:mI l b v=0):HU v:=by
 unfold mI at h;split at h
 ·cases h
 rename_i h1;simp only [not_or,Bool.not_eq_false] at h1;have h2:=N0 h1.2.2;refine ⟨by omega,h2⟩
theorem Ur {l:Lst} {vs:List db}:∀ {t:List db} {i:Nat},ri l vs t i=0->∀ v∈t,HU v
 | [],_,_,v,hv=>by cases hv
 | a::t,i,h,v,hv=>by
   unfold ri at h;split at h
   ·rename_i h1;exact absurd h h1
   rename_i h1;rcases List.mem_cons.1 hv with rfl|hv
   ·exact N1 (by simpa using h1)
   exact Ur h v hv
theorem N2 {l:Lst} {s:eL} (h:km l s=0):HV s:=by
 unfold km at h;split at h
 ·cases h
 split at h
 ·cases h
 rename_i h1 h2;exact ⟨by omega,Ur h⟩
theorem Us {l:Lst}:∀ {t:List eL} {seen:List (List UInt8)},sd l t seen=0->∀ s∈t,HV s
 | [],_,_,s,hs=>by cases hs
 | a::t,seen,h,s,hs=>by
   unfold sd at h;split at h
   ·cases h
   split at h
   ·rename_i h1;exact absurd h h1
   rename_i h1;rcases List.mem_cons.1 hs with rfl|hs
   ·exact N2 (by simpa using h1)
   exact Us h s hs
theorem qA {l:Lst} (h:lr l=0):M9 l:=by
 unfold lr at h;split at h
 ·cases h
 split at h
 ·cases h
 exact ⟨by omega,Us h⟩
theorem N3 {v:db} (h:HU v):∀ u∈ku v,iu u:=by
 intro u hu;have h1:=h.text;unfold ku at hu;split at hu
 ·simp at hu;rcases hu with rfl|rfl<;>exact ⟨by simp,by simp,h1.1,h1.2⟩
 split at hu
 ·simp at hu;subst hu;exact ⟨by simp,by simp,h1.1,h1.2⟩
 split at hu
 ·simp at hu;subst hu;exact ⟨by simp,by simp,h1.1,h1.2⟩
 cases hu
theorem Ut {p:Int}:∀ {l:List db} {u:ay},u∈ke p l->∃ v∈l,u∈ku v
 | [],u,h=>by cases h
 | v::t,u,h=>by
   unfold ke at h;rcases List.mem_append.1 h with h|h
   ·split at h
    ·exact ⟨v,by simp,h⟩
    cases h
   obtain ⟨w,hw,hu⟩:=Ut h;exact ⟨w,by simp [hw],hu⟩
theorem Cn {p:Int} {s:eL} (h:HV s):(oR p s).length<=24/\∀ u∈oR p s,iu u:=by
 refine ⟨?_,fun u hu=>?_⟩
 ·unfold oR vC;rw [sG];have:=HO p s.values;have:=h.bB;omega
 unfold oR vC at hu;rw [JM] at hu;obtain ⟨v,hv,hu⟩:=Ut hu;exact N3 (h.each v hv) u hu
def xn (H:aj) (n:Int):eL:=H.list.aA.getD n.toNat ⟨[],0,0,false,[]⟩
def gn (H:aj) (n:Int):List ay:=oR H.period (xn H n)
def mR (H:aj) (line:List Int) (at_:Nat):List (List ay):=((line.drop at_).take 12).map (gn H)
def ny (x:Lex) (e n:Int):List UInt8:=if n<0 then (bZ x e).root else (bZ x e).root++(iq x n).text
def dD (H:aj) (at_:Nat) (e n:Int):Env:=⟨H,⟨H,bZ H.lex e,ny H.lex e n⟩,at_,e,n⟩
def wF (x:Lex) (e n:Int):Bool:=decide (0<=n)&&!decide ((iq x n).kind=(bZ x e).kind)
def gB (H:aj) (bP:List (List ay)) (at_:Nat) (e:Nat) (k:Nat):List av:=if wF H.lex e ((k:Int) - 1)=true then [] else cS (dD H at_ e ((k:Int) - 1)) bP fI []
def mm (H:aj) (bP:List (List ay)) (at_:Nat) (e:Nat):List av:=(List.range (H.lex.bO.length+1)).flatMap (gB H bP at_ e)
def lE (H:aj) (bP:List (List ay)) (at_:Nat):List av:=(List.range H.lex.entries.length).flatMap (mm H bP at_)
def wq (H:aj) (line:List Int) (at_ most:Nat):List av:=kE ((lE H (mR H line at_) at_).take (most+1))
theorem vg {H:aj} {n:Int} (h0:0<=n) (h1:n<H.list.aA.length):H.list.aA[n.toNat]?=some (xn H n):=by have:n.toNat<H.list.aA.length:=(by omega);unfold xn;simp [List.getElem?_eq_getElem this]
def c151:az:=⟨[0,1,2,3,6,8],[],[],[],[(3,[0,1,2,3,4,5,6,7,8,9,10,11,12,13],[])],[]⟩
theorem Uu (x:Lex) (e n:Int) (hx:qh x) (h0:0<=e) (h1:e<x.entries.length) (hn:n<x.bO.length):ae Tryz.prog 151 [.agg (fq x),.int .i64 e,.int .i64 n] [] (.str (ny x e n)):=by
 have hr:=np (hx.bZ h0 h1).root;refine aG (F:=Tryz.f151) c151 rfl rfl rfl mixed rfl fun X=>?_;(conv=>whnf);refine ⟨fun hc=>?_,fun hc=>?_⟩<;>simp at hc
 ·(conv=>whnf);repeat ((refine dg e.toNat (by omega) (nZ h0 h1) ?_);conv=>whnf)
  exact ⟨by rw [ny,if_pos hc],rfl⟩
 have ht:=np (hx.iq hc hn).text;(conv=>whnf);repeat ((first|(refine dg e.toNat (by omega) (nZ h0 h1) ?_)|(refine dg n.toNat (by omega) (BG hc hn) ?_)|(refine ⟨ah (by rw [List.length_append];unfold aw;omega),?_⟩)|refine And.intro (by show aP (aN Tryz.f151 _) _=true;decide +kernel) ?_);conv=>whnf)
 exact ⟨by rw [ny,if_neg (by omega)],rfl⟩
theorem Am (E:Env) (p:bn):jO E p []=[]:=rfl
structure wG (H:aj) (at_:Int) (e:av):Prop where
 xE:e.xE=at_
 to:e.to=at_+e.word.ai.length
 cost:e.cost=gC H e.word
 bB:e.word.ai.length<=12
 cl:e.word.form.ar.length<=3
 some:1<=e.word.ai.length
theorem Uv {E:Env} (hs:jN E.s):∀ (rest:List (List ay)) (p:bn) (T:List ay),jP E.s p->(∀ us∈rest,∀ u∈us,iu u)->T.length+rest.length<=12->∀ e∈fj E rest p T,wG E.H E.at_ e
 | [],_,_,_,_,_,e,he=>by cases he
 | us::r,p,T,hp,hu,hl,e,he=>by
   unfold fj at he;rw [List.mem_flatMap] at he;obtain ⟨u,Fq,he⟩:=he;rw [List.mem_flatMap] at he;obtain ⟨q,hq,he⟩:=he;have oI:=wE hs hp (hu us (by simp) u Fq) q hq;rw [List.length_cons] at hl;rcases List.mem_append.1 he with he|he
   ·unfold jO at he;split at he
    ·cases List.mem_singleton.1 he
     exact ⟨rfl,rfl,rfl,by show (T++[u]).length<=12;rw [List.length_append,List.length_singleton];omega,oI.bB,by show 1<=(T++[u]).length;simp⟩
    cases he
   exact Uv hs r q (T++[u]) oI (fun Al h'=>hu Al (by simp [h'])) (by rw [List.length_append,List.length_singleton];omega) e he
theorem Ai {H:aj} (hH:jg H) {at_:Nat} {e n:Int} (h0:0<=e) (h1:e<H.lex.entries.length) (hn:n<H.lex.bO.length):jN (dD H at_ e n).s:=by
 have hr:=np (hH.lex.bZ h0 h1).root;refine ⟨hH.lex,?_,?_⟩
 ·show 1<=(ny H.lex e n).length/\(ny H.lex e n).length<=12;unfold ny;split
  ·omega
  have ht:=np (hH.lex.iq (by omega) hn).text;rw [List.length_append];omega
 show (bZ H.lex e).root.length<=(ny H.lex e n).length;unfold ny;split
 ·omega
 rw [List.length_append];omega
theorem Uw {H:aj} (hH:jg H) {line:List Int} {at_:Nat} (hl:∀ s∈line,0<=s/\s<H.list.aA.length):(mR H line at_).length<=12/\∀ us∈mR H line at_,us.length<=1048576/\∀ u∈us,iu u:=by refine ⟨by unfold mR;simp;omega,fun us bd=>?_⟩;unfold mR at bd;obtain ⟨s,hs,rfl⟩:=List.mem_map.1 bd;have qH:=hl s (List.mem_of_mem_drop (List.mem_of_mem_take hs));have bf:=(qA hH.nN).each _ (List.mem_of_getElem? (vg qH.1 qH.2));have:=Cn (p:=H.period) bf;exact ⟨by unfold gn;omega,this.2⟩
theorem Fs {H:aj} (hH:jg H) {bP:List (List ay)} (hf:bP.length<=12) (hu:∀ us∈bP,us.length<=1048576/\∀ u∈us,iu u) {at_:Nat}:∀ e∈lE H bP at_,wG H at_ e:=by
 intro e he;unfold lE at he;rw [List.mem_flatMap] at he;obtain ⟨i,hi,he⟩:=he;unfold mm at he;rw [List.mem_flatMap] at he;obtain ⟨k,hk,he⟩:=he;rw [List.mem_range] at hi hk;unfold gB at he;split at he
 ·cases he
 unfold cS at he;rw [Am,List.nil_append] at he;exact Uv (E:=dD H at_ i ((k:Int) - 1)) (Ai hH (by omega) (by omega) (by omega)) bP fI [] (An _) (fun us h=>(hu us h).2) (by simp;omega) e he
theorem NR {H:aj} {at_:Int} {a b:av} (ha:wG H at_ a) (hb:wG H at_ b) (h:a.word=b.word):a=b:=by obtain ⟨f,t,c,w⟩:=a;obtain ⟨f',t',c',w'⟩:=b;have h:w=w':=h;subst h;have h1:=ha.xE;have h2:=ha.to;have h3:=ha.cost;have h4:=hb.xE;have h5:=hb.to;have h6:=hb.cost;simp only at h1 h2 h3 h4 h5 h6;rw [h1,h2,h3,h4,h5,h6]
theorem Cf {α:Type} {A C:List α} {m:Nat}:(A.take m++C).take m=(A++C).take m:=by have:=Ui (A:=A) (B:=[]) (C:=C) (m:=m);simpa using this
end Go.Abs.Wall
namespace Go.Abs.Wall
open Go Go.Abs Go.Proofs
theorem aB.cells {f:FuncId} {vs:List AV} {h h':af} {b:Nat} {xs ys:List AV} {R:AV->af->Prop} (hf:aB Tryz.prog f vs h' R) (hu:cO b (.vec xs) b (.vec ys) h h') (hv:cW xs ys):aB Tryz.prog f vs h R:=by
 have sX:keys h'=keys h:=by
  clear hf;induction hu with
  | here l=>rfl
  | there _ ih=>simp only [keys,List.map_cons] at ih ⊢;rw [ih]
 have lD:∀ k o',(k,o')∈h'->(k,o')∈h\/(k=b/\o'=.vec ys/\(b,Ob.vec xs)∈h):=by
  clear hf sX;induction hu with
  | here l=>intro k o' hm;cases List.mem_cons.1 hm with
    | inl e=>cases e;exact .inr ⟨rfl,rfl,by simp⟩
    | inr e=>exact .inl (by simp [e])
  | there _ ih=>intro k o' hm;cases List.mem_cons.1 hm with
    | inl e=>subst e;exact .inl (by simp)
    | inr e=>
      rcases ih k o' e with h1|⟨h1,h2,h3⟩
      ·exact .inl (by simp [h1])
      exact .inr ⟨h1,h2,by simp [h3]⟩
 have hlen:∀ {xs ys:List AV},cW xs ys->xs.length=ys.length/\∀ (i:Nat) y,ys[i]?=some y->∃ x,xs[i]?=some x/\ag x y:=by
  intro xs ys hv;induction hv with
  | nil=>exact ⟨rfl,fun i y h=>by cases h⟩
  | cons h1 _ ih=>
    refine ⟨by simp [ih.1],fun i y hi=>?_⟩;cases i with
    | zero=>cases hi;exact ⟨_,rfl,h1⟩
    | succ i=>exact ih.2 i y (by simpa using hi)
 refine ⟨fun X g w us hc hr=>?_⟩
 obtain ⟨c2,s2⟩:=hc.Bp sX (fun k o' hm=>by
  rcases lD k o' hm with h1|⟨rfl,rfl,h2⟩
  ·exact hc.obj k o' h1
  obtain ⟨p,cc,t,q1,q2,q3,q4,q5,q6⟩:=hc.obj k (.vec xs) h2;obtain ⟨l,hg⟩:=hlen hv;refine ⟨p,cc,t,q1,q2,q3,q4,by rw [<- l];exact q5,fun i y hy=>?_⟩;obtain ⟨x,hx,oW⟩:=hg i y hy;obtain ⟨u,u1,u2,u3⟩:=q6 i x hx;exact ⟨u,u1,u2,oW _ _ u3⟩)
 refine (hf.1 X g w us c2 (ax.mono (Step.le s2) _ _ hr)).mono fun e w' he=>?_;obtain ⟨v,u,g',h1,rfl,hR,eO,hu,hs⟩:=he;exact ⟨v,u,g',h1,rfl,hR,eO,hu,s2.trans hc.own hs⟩
theorem ao.sublist {r:aC} {h h':af} (hs:h'.Sublist h):ao r h r h':=
 ao.sub (fun k o hm=>hs.subset hm) (fun hn=>by unfold keys at hn ⊢;exact hn.sublist (hs.map _))
def AQ (A:List (List ay)):List (List AV):=A.map fW
def c133:az:=⟨[0,1,2,3,4,6,7,8,9,11,12,13,14,15,16,17,25,26,27,28,40,41,42,43,52,68,82],[],[12,13,15],[],[(5,[0,1,2,3,4,5,6],[]),(13,[0,1,2,3,4,5,6,7,8,9,10,11,12,13],[]),(14,[0,1,2,3,4,5,6,7,8,9,10],[15])],[]⟩
set_option maxHeartbeats 2000000 in
theorem N4 (H:aj) (line:List Int) (at_ most:Nat) (hH:jg H) (iJ:dU H) (mG:∀ s∈line,0<=s/\s<H.list.aA.length) (hlen:line.length<=1048576) (cM:at_<=line.length) (HS:most<=1048575) :
  aB Tryz.prog 133 [.agg (bu H),.sl 1 none (ints line),.int .i64 at_,.int .i64 most] [] (fun v h'=>∃ hp Z,Row 7 cz (wq H line at_ most) v hp/\h'=hp++Z):=by
 have N5:=qA hH.nN;have Ub:=hH.lex.many;obtain ⟨vd,ve⟩:=Uw hH (line:=line) (at_:=at_) mG;obtain ⟨sm,HW⟩:∃ sm,sm=(line.drop at_).take 12:=⟨_,rfl⟩;have a0I:sm.length<=12:=by rw [HW];simp;omega
 have N6:∀ s∈sm,0<=s/\s<H.list.aA.length:=fun s hs=>by rw [HW] at hs;exact mG s (List.mem_of_mem_drop (List.mem_of_mem_take hs))
 have eu:((ints line).take (min ((ints line).length:Int) ((at_:Int)+12)).toNat).drop (at_:Int).toNat=ints sm:=by
  rw [HW,cg];unfold ints;rw [<- List.map_take,<- List.map_drop,List.drop_take];congr 1;rw [show (at_:Int).toNat=at_ from rfl];by_cases hc:line.length<=at_+12
  ·rw [show (min (line.length:Int) ((at_:Int)+12)).toNat - at_=line.length - at_ by omega,List.take_of_length_le (by simp),List.take_of_length_le (by simp;omega)]
  rw [show (min (line.length:Int) ((at_:Int)+12)).toNat - at_=12 by omega]
 refine aG (F:=Tryz.f133) c133 rfl rfl rfl mixed rfl fun X=>?_;(conv=>whnf);intro lk;(conv=>whnf);intro ak;(conv=>whnf);repeat ((first|refine ⟨ah ⟨by omega,by omega⟩,?_⟩|(refine ⟨ah ⟨by omega,by rw [cg];omega,by rw [cg];omega⟩,?_⟩));conv=>whnf)
 rw [eu];refine bW rfl mixed [4,6,7,8,9,25,26,27] [] (fun m r h=>∃ (i:Nat) (v:AV) (hp:af),r=[(4,[],.au (bu H)),(6,[],.au [.int .i64 at_]),(7,[],.au [.int .i64 most]),(8,[],.bj lk 0),(9,[],.bj ak 0),(25,[],.sl 1 none (ints sm)),(26,[],.int .i64 (ints sm).length),(27,[],.int .i64 i)]/\h=(ak,.vec [v])::(lk,.vec [.aT])::hp/\m=sm.length - i/\i<=sm.length/\Out 1 fW ((sm.take i).map (gn H)) v hp) ?_ ?_
 ·(conv=>whnf);exact ⟨_,_,ao.refl _ _,_,0,_,_,rfl,rfl,rfl,by omega,.inl ⟨rfl,rfl,rfl⟩⟩
 rintro m r h' ⟨i,v,hp,rfl,rfl,rfl,hi,ho⟩;(conv=>whnf);refine ⟨fun aD=>?_,fun aD=>?_⟩<;>simp at aD
 ·obtain ⟨s,hs⟩:=aL aD;have qH:=N6 s (List.mem_of_getElem? hs);have kM:=vg qH.1 qH.2;have zz:=(N5.each _ (List.mem_of_getElem? kM)).bB;have cj:=dj hs;rcases ho with ⟨he,rfl,rfl⟩|⟨q,rfl,rfl⟩
  all_goals
   (conv=>whnf);repeat ((first|refine ⟨ah ⟨by omega,by omega⟩,?_⟩|refine ix (by assumption) ?_|(refine ba (Mz H s (xn H s) qH.1 kM (by omega)) ?_)|(refine ⟨Nat.le_of_ble_eq_true rfl,fun q'=>?_⟩)|(refine ⟨(by simp;unfold aU;omega),fun q'=>⟨_,.there (.there (.here _)),?_⟩⟩)|refine ⟨_,_,.head _,rfl,?_⟩|refine ⟨_,_,.here _,aR,?_⟩|refine ⟨_,_,.there (.here _),aR,?_⟩|refine And.intro (by show aP (aN Tryz.f133 _) _=true;decide +kernel) ?_);conv=>whnf)
   refine ⟨_,[(ak,.vec [.sl 1 (some q') (((sm.take (i+1)).map (gn H)).map fW)]),(lk,.vec [.aT]),(q',.tok)],?_,_,(by omega),i+1,_,[(q',.tok)],rfl,rfl,rfl,by omega,.inr ⟨q',rfl,rfl⟩⟩;rw [cj,List.map_append,List.map_append]
   first
    | (rw [he];exact ao.perm (List.perm_append_comm (l₁:=[_]) (l₂:=[_,_])))
    | exact ao.refl _ _
 rw [List.take_of_length_le aD] at ho;have N7:sm.map (gn H)=mR H line at_:=by rw [HW];rfl
 rw [N7] at ho;obtain ⟨bP,Aq⟩:∃ A,A=mR H line at_:=⟨_,rfl⟩;rw [<- Aq] at ho vd ve;have zT:wq H line at_ most=kE ((lE H bP at_).take (most+1)):=by rw [Aq];rfl
 (conv=>whnf);skip;refine bW rfl mixed [4,6,7,8,9,40,41,42] [] (fun m r h=>∃ (i:Nat) (lv:AV) (lu:af),r=[(4,[],.au (bu H)),(6,[],.au [.int .i64 at_]),(7,[],.au [.int .i64 most]),(8,[],.bj lk 0),(9,[],.au [.sl 1 none (bP.map fW)]),(40,[],.sl 4 none (H.lex.entries.map fJ)),(41,[],.int .i64 (H.lex.entries.map fJ).length),(42,[],.int .i64 i)]/\h=(lk,.vec [lv])::lu/\m=H.lex.entries.length - i/\i<=H.lex.entries.length/\Row 7 cz (((List.range i).flatMap (mm H bP at_)).take (most+1)) lv lu) ?_ ?_
 ·(conv=>whnf);refine ⟨_,_,?_,_,0,.gZ,[],rfl,rfl,rfl,by omega,.inl ⟨by simp,rfl,rfl⟩⟩;refine ao.trans (ao.cells (.here _) (.cons (Out.le (by decide) ho) .nil)) ?_;refine ao.trans (ao.freeze (.here _) (lp.refl _) (.cons (.refl _) (.cons (.refl _) (.cons (.refl _) (.cons (.refl _) (.cons (.ptr rfl) (uJ.refl _))))))) ?_;refine ao.trans (ao.cells (.here _) (.cons Ar .nil)) (ao.sublist (.cons_cons _ (List.nil_sublist _)))
 clear ho;rintro m r h' ⟨i,lv,lu,rfl,rfl,rfl,hi,hr⟩;(conv=>whnf);refine ⟨fun aD=>?_,fun aD=>?_⟩<;>simp at aD
 ·obtain ⟨e,he⟩:=aL aD;have rS:e=bZ H.lex i:=by have:=nZ (x:=H.lex) (n:=(i:Int)) (by omega) (by omega);rw [show ((i:Int)).toNat=i from rfl,he] at this;exact Option.some.inj this
  subst rS;have a0J:=(hH.lex.bZ (n:=(i:Int)) (by omega) (by omega));(conv=>whnf);repeat ((first|refine ix (by assumption) ?_|(refine And.intro ⟨Nat.le_of_ble_eq_true rfl,rfl⟩ ?_)|refine ⟨_,_,bo.here _,⟨Nat.le_of_ble_eq_true rfl,rfl⟩,?_⟩|refine ⟨_,_,bo.there (.here _),?_⟩|refine ⟨_,_,.here _,aR,?_⟩|intro (nb:Nat));conv=>whnf)
  refine bW rfl mixed [4,6,7,8,9,12,13,14,40,41,42] [] (fun m r h=>∃ (k:Nat) (c:Int) (en:Nat) (lv:AV) (lu:af),r=[(4,[],.au (bu H)),(6,[],.au [.int .i64 at_]),(7,[],.au [.int .i64 most]),(8,[],.bj lk 0),(9,[],.au [.sl 1 none (bP.map fW)]),(12,[],.au [.int .i64 i]),(13,[],.au (fJ (bZ H.lex i))),(14,[],.bj en 0),(40,[],.sl 4 none (H.lex.entries.map fJ)),(41,[],.int .i64 (H.lex.entries.map fJ).length),(42,[],.int .i64 i)]/\h=(en,.vec [.int .i64 c])::(lk,.vec [lv])::lu/\m=H.lex.bO.length+1 - k/\c=(k:Int) - 1/\k<=H.lex.bO.length+1/\Row 7 cz (((List.range i).flatMap (mm H bP at_)++(List.range k).flatMap (gB H bP at_ i)).take (most+1)) lv lu) ?_ ?_
  ·(conv=>whnf);exact ⟨_,_,ao.refl _ _,_,0,-1,_,_,_,rfl,rfl,rfl,rfl,by omega,by simpa using hr⟩
  clear hr;rintro m r h' ⟨k,c,en,lv,lu,rfl,rfl,rfl,hc,hk,hr⟩;have ca:(List.range (k+1)).flatMap (gB H bP at_ i)=(List.range k).flatMap (gB H bP at_ i)++gB H bP at_ i k:=(by rw [List.range_succ,List.flatMap_append,List.flatMap_singleton]);(conv=>whnf);repeat (refine ⟨_,_,.head _,rfl,?_⟩;conv=>whnf)
  refine ⟨fun de=>?_,fun de=>?_⟩<;>simp at de
  ·(conv=>whnf);repeat ((first|(refine rE (⟨0,[],[],0⟩:lF) ?_ ?_;(focus (conv=>whnf;skip));(focus (intro g0;have g0:=of_decide_eq_true g0;show 0<=_/\_<_;omega)))|refine ⟨_,_,.head _,rfl,?_⟩|refine And.intro (by show aP (aN Tryz.f133 _) _=true;decide +kernel) ?_);conv=>whnf)
   refine ⟨fun hs=>?_,fun hs=>?_⟩
   ·have hs:wF H.lex i c=true:=hs;have yq:gB H bP at_ i k=[]:=by unfold gB;rw [<- hc,if_pos hs]
    rw [yq,List.append_nil] at ca;(conv=>whnf);repeat ((first|refine ⟨ah ⟨by omega,by omega⟩,?_⟩|refine ⟨_,_,.head _,rfl,?_⟩|refine ⟨_,_,.here _,aR,?_⟩|intro (nb:Nat));conv=>whnf)
    exact ⟨_,_,ao.sublist (.cons_cons _ (.cons _ (.cons_cons _ (List.Sublist.refl _)))),_,(by omega),k+1,_,_,_,_,rfl,rfl,rfl,by omega,by omega,by rw [ca];exact hr⟩
   have hs:wF H.lex i c=false:=hs;obtain ⟨E,BK⟩:∃ E:tK,E=⟨dD H at_ i c,most,bP⟩:=⟨_,rfl⟩;have yq:gB H bP at_ i k=cS E.toEnv bP fI []:=by unfold gB;rw [<- hc,if_neg (by rw [hs];decide),BK]
   have hE:HP E:=by rw [BK];exact ⟨hH,iJ,Ai hH (by omega) (by omega) (by omega),⟨by show (0:Int)<=i;omega,by show (i:Int)<H.lex.entries.length;omega⟩,⟨by show (0:Int)<=at_;omega,by show (at_:Int)<=1048576;omega⟩,by show most<=1048576;omega,vd,ve⟩
   (conv=>whnf);repeat ((first|refine ba (Uu H.lex i c hH.lex (by omega) (by omega) (by omega)) ?_|refine ⟨_,_,bo.here _,?_⟩|refine ⟨_,_,.head _,rfl,?_⟩|refine ⟨_,_,.here _,aR,?_⟩|refine And.intro (by show aP (aN Tryz.f133 _) _=true;decide +kernel) ?_|intro (nb:Nat));conv=>whnf)
   have aF:=fun sk tk=>Uo E sk tk lk en hE bP fI [] _ .gZ [] lv lu ⟨[],by rw [BK];rfl,rfl⟩ (An _) (.inl ⟨rfl,rfl,rfl⟩) hr (fun h=>absurd rfl h) (by rw [BK,List.length_take];show min (most+1) _<=most+1;omega);simp only [BK] at aF;refine aB.mono ?_ (aB.cells (aB.perm (aB.args (aF _ _) (.cons (ag.agg (.cons (ag.refl _) (.cons (ag.refl _) (.cons (ag.refl _) (.cons (ag.nil (by decide)) (.cons (ag.refl _) (.cons (ag.refl _) .nil))))))) (cW.refl _))) (.cons _ (.cons _ (.swap _ _ _)))) (.there (.here _)) (.cons Ar .nil));rintro v h1 ⟨rfl,tM,sj,rk,qj,hT',N8,rfl⟩;(conv=>whnf);repeat ((first|(refine ⟨_,_,.tail _ (.tail _ (.tail _ (.head _))),rfl,?_⟩)|(refine ⟨ah (show -9223372036854775808<=c+1/\c+1<=9223372036854775807 by omega),?_⟩)|refine ⟨_,_,.head _,rfl,?_⟩|refine ⟨_,_,.here _,aR,?_⟩|intro (nb:Nat));conv=>whnf)
   have h9:Row 7 cz ((((List.range i).flatMap (mm H bP at_)++(List.range k).flatMap (gB H bP at_ i)).take (most+1)++cS (dD H at_ i c) bP fI []).take (most+1)) rk qj:=N8;rw [Cf] at h9;exact ⟨_,_::(lk,.vec [rk])::qj,ao.sublist (.cons_cons _ (.cons _ (.cons _ (.cons_cons _ (.cons _ (List.sublist_append_right sj qj)))))),_,(by omega),k+1,_,_,_,_,rfl,rfl,rfl,(by show c+1=_;omega),by omega,by rw [ca,yq,BK];rw [List.append_assoc] at h9;exact h9⟩
  have Bt:k=H.lex.bO.length+1:=(by omega);rw [Bt] at hr;(conv=>whnf);repeat (refine ⟨ah ⟨by omega,by omega⟩,?_⟩;conv=>whnf)
  exact ⟨_,_,ao.sublist (.cons _ (List.Sublist.refl _)),_,(by omega),i+1,_,_,rfl,rfl,rfl,by omega,by rw [List.range_succ,List.flatMap_append,List.flatMap_singleton];exact hr⟩
 have bC:i=H.lex.entries.length:=(by omega);rw [bC] at hr;have yk:((lE H bP at_).take (most+1)).length<=4294967296:=by rw [List.length_take];omega
 have yv:∀ e∈(lE H bP at_).take (most+1),wG H at_ e:=fun e he=>Fs hH vd ve e (List.mem_of_mem_take he);rcases hr with ⟨aJ,rfl,rfl⟩|⟨aJ,b,rfl,rfl⟩
 ·have aJ:(lE H bP at_).take (most+1)=[]:=aJ;(conv=>whnf);repeat ((first|refine ae.k0 (M7 _) ?_|refine ⟨_,_,.head _,rfl,?_⟩|refine ⟨_,_,.here _,aR,?_⟩);conv=>whnf)
  exact ⟨[],_,.inl ⟨by rw [zT,aJ];simp [kE,px],rfl,rfl⟩,rfl⟩
 have aJ:(lE H bP at_).take (most+1)≠[]:=aJ;(conv=>whnf);repeat (refine ⟨_,_,.head _,rfl,?_⟩;conv=>whnf)
 refine aB.mono ?_ (aB.perm (aB.frame (M8 b _ aJ yk (fun x hx=>⟨by have:=(yv x hx).cl;omega,by have:=(yv x hx).bB;omega⟩) (fun x hx y hy=>NR (yv x hx) (yv y hy))) _) (.swap _ _ _));rintro v h1 ⟨h2,⟨rfl,rfl⟩,rfl⟩;(conv=>whnf);repeat ((first|refine ⟨_,_,.tail _ (.head _),rfl,?_⟩|refine ⟨_,_,.there (.here _),aR,?_⟩);conv=>whnf)
 refine ⟨_,_,.inr ⟨?_,b,?_,rfl⟩,by rw [zT];rfl⟩
 ·rw [zT];intro h;have:=congrArg List.length h;rw [kE,sG] at this;exact aJ (List.eq_nil_of_length_eq_zero this)
 rw [zT,kE,sG];rfl
theorem NY (H:aj) (line:List Int) (at_ most:Nat) (hH:jg H) (iJ:dU H) (mG:∀ s∈line,0<=s/\s<H.list.aA.length) (hlen:line.length<=1048576) (cM:at_<=line.length) (HS:most<=1048575) :
  ae Tryz.prog 133 [.agg (bu H),.sl 1 none (ints line),.int .i64 at_,.int .i64 most] [] (.sl 7 none ((wq H line at_ most).map cz)):=Row.ok (by decide) (fun _=>rfl) (N4 H line at_ most hH iJ mG hlen cM HS)
end Go.Abs.Wall
