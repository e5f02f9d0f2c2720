/- What is proved: small laws for the walks of this seat, and contracts of its functions. No condition but those each theorem names. -/
import Derived.Test.YtbmcnieifibckaaGreatN5
set_option maxRecDepth 100000
set_option maxHeartbeats 2000000
set_option linter.unusedVariables false
set_option linter.unusedSimpArgs false
namespace Go.Abs.Wall
open Go Go.Abs Go.Proofs
def jO (s:Sp) (p:bg):List UInt8:=(cQ s p.cl).drop p.bH.length
def ll (s:Sp) (p:bg):Bool:=decide (p.bH.length=(cQ s p.cl).length)
def dD (cl:List Int):Int:=match cl.getLast? with
 | some c=>c+1
 | none=>0
def fk (p:bg) (u:ao):List iO->Int->List bg
 | [],_=>[]
 | k::t,c=>(if fG k.text u.text=true then [⟨p.bH++u.text,p.closed,p.cl++[c],u⟩] else [])++fk p u t (c+1)
def gM (s:Sp) (p:bg) (u:ao):List bg:=
 if jO s p≠[] then (if fG (jO s p) u.text=true then [⟨p.bH++u.text,p.closed,p.cl,u⟩] else [])
 else if p.cl.length<3 then fk p u (s.H.lex.ah.drop (dD p.cl).toNat) (dD p.cl) else []
theorem Eu {s:Sp} {p:bg} (hp:jz s p):0<=dD p.cl/\dD p.cl<=s.H.lex.ah.length:=by
 unfold dD;cases h:p.cl.getLast? with
 | none=>simp
 | some c=>
   have:=hp.dO c (List.mem_of_getLast? h);simp only;omega
theorem Si (p:bg) (u:ao):∀ (l:List iO) (c:Int),(fk p u l c).length<=l.length
 | [],_=>by simp [fk]
 | k::t,c=>by have:=Si p u t (c+1);unfold fk;rw [List.length_append,List.length_cons];split<;>simp<;>omega
def Out {α:Type} (k:Nat) (enc:α->List AV) (o:List α) (v:AV) (hp:ab):Prop:=(o=[]/\v=.aW/\hp=[])\/∃ q,v=.sl k (some q) (o.map enc)/\hp=[(q,.tok)]
theorem Out.le {α:Type} {k:Nat} {enc:α->List AV} {o:List α} {v:AV} {hp:ab} (hk:0<k) (h:Out k enc o v hp):ag v (.sl k none (o.map enc)):=by
 rcases h with ⟨rfl,rfl,rfl⟩|⟨q,rfl,rfl⟩
 ·exact ag.nil hk
 exact ag.sl
theorem ua {t:Option Nat} {cl:List Int} {c:Int}:ag (.sl 1 t (ints cl++[[.int .i64 c]])) (.sl 1 none (ints (cl++[c]))):=by rw [show ints (cl++[c])=ints cl++[[.int .i64 c]] by simp [ints]];exact ag.sl
theorem wW {v:AV} {p:bg} {u:ao} {c:Int} (hv:ag v (.sl 1 none (ints (p.cl++[c])))):cP [.str (p.bH++u.text),.int .i64 0,.bool p.closed,v,.int .i64 u.kind,.str u.text] (fo ⟨p.bH++u.text,p.closed,p.cl++[c],u⟩):=
 .cons (ag.refl _) (.cons (ag.refl _) (.cons (ag.refl _) (.cons hv (.cons (ag.refl _) (.cons (ag.refl _) .nil)))))
def c221:aw:=⟨[0,1,2,4,5,6,7,8,9,10,11,16,20,38,61,77],[4],[],[],[(15,[0,1,2,3,4,5,6,7,8,9,10,11,12,13],[])],[]⟩
theorem A2 (s:Sp) (p:bg) (u:ao) (hs:jx s) (hp:jz s p) (hu:u.text.length<=1048576) :
  ae Tryz.prog 221 [.au (nR s),.agg (fo p),.agg (aT u)] [] (.sl 6 none ((gM s p u).map fo)):=by
 have hb:=hs.body;have dI:=hp.bE;have gJ:=hp.bH;have CS:=hs.cQ hp.dO;have dN:(jO s p).length<=aq:=by unfold jO aq;rw [List.length_drop];omega
 have ke:u.text.length<=aq:=by unfold aq;omega
 have eD:(p.bH++u.text).length<=aq:=by rw [List.length_append];unfold aq;omega
 have Sj:=hs.lex.many.2.2;refine ae.of (aG (F:=Tryz.f221) c221 rfl rfl rfl mixed rfl fun X=>?_);(conv=>whnf);intro kp;(conv=>whnf);repeat ((first|refine ae.k0 (A1 s p hs hp) ?_|refine ⟨_,_,.head _,rfl,?_⟩);conv=>whnf)
 refine ⟨fun hc=>?_,fun hc=>?_⟩<;>simp only [Bool.not_eq_true',Bool.not_eq_false',decide_eq_true_eq,decide_eq_false_iff_not] at hc
 ·have hc:jO s p≠[]:=hc;have hm:gM s p u=if fG (jO s p) u.text=true then [⟨p.bH++u.text,p.closed,p.cl,u⟩] else []:=(by rw [gM,if_pos hc]);(conv=>whnf);repeat (refine ae.k0 (hasPrefix (jO s p) u.text dN ke) ?_;conv=>whnf)
  refine ⟨fun hq=>?_,fun hq=>?_⟩
  ·rw [if_pos hq] at hm;rw [hm];(conv=>whnf);repeat ((first|(refine ⟨af eD,?_⟩)|(refine ⟨Nat.le_of_ble_eq_true rfl,fun q=>?_⟩)|refine ⟨_,_,.head _,rfl,?_⟩|refine ⟨_,_,.here _,aF,?_⟩);conv=>whnf)
   exact ag.sl
  rw [if_neg (by rw [hq];decide)] at hm;rw [hm];(conv=>whnf);skip;exact ag.nil (by decide)
 have hc:jO s p=[]:=hc;have hm:gM s p u=if p.cl.length<3 then fk p u (s.H.lex.ah.drop (dD p.cl).toNat) (dD p.cl) else []:=(by rw [gM,if_neg (by simpa using hc)]);have kg:=Eu hp;(conv=>whnf);repeat (refine ⟨_,_,.head _,rfl,?_⟩;conv=>whnf)
 refine ⟨fun hn=>?_,fun hn=>?_⟩<;>simp at hn
 ·obtain ⟨c,bw⟩:=aN (l:=p.cl) (i:=p.cl.length - 1) (by omega);have Kg:=hp.dO c (List.mem_of_getElem? bw);have hf:dD p.cl=c+1:=by unfold dD;rw [List.getLast?_eq_getElem?,bw]
  (conv=>whnf);repeat ((first|refine ⟨af ⟨by omega,by omega⟩,?_⟩|(refine cj (p.cl.length - 1) (by simp [ints];omega) bw ?_)|(refine ⟨af ⟨by simp [ints];omega,by simp [ints];omega⟩,?_⟩)|refine ⟨_,_,.head _,rfl,?_⟩);conv=>whnf)
  rw [<- hf];refine cy rfl mixed [0,4,5,6,10] [] (fun m r h=>∃ (c:Int) (o:List bg) (v:AV) (gq:ab),r=[(0,[],.au (nR s)),(4,[],.bn kp 0),(5,[],.au (aT u)),(6,[],v),(10,[],.int .i64 c)]/\h=gq++[(kp,.vec (fo p))]/\m=(s.H.lex.ah.length - c).toNat/\0<=c/\c<=s.H.lex.ah.length/\Out 6 fo o v gq/\o.length<=c/\gM s p u=o++(if p.cl.length<3 then fk p u (s.H.lex.ah.drop c.toNat) c else [])) ?_ ?_
  ·(conv=>whnf);exact ⟨_,_,ar.refl _ _,_,dD p.cl,[],_,[],rfl,rfl,rfl,kg.1,kg.2,.inl ⟨rfl,rfl,rfl⟩,by simpa using kg.1,by rw [hm];rfl⟩
  rintro m r h' ⟨c,o,v,gq,rfl,rfl,rfl,jJ,KW,hv,mE,bS⟩;have jm:o.length+1<=aV:=by have:=hs.lex.many;unfold aV;omega
  rcases hv with ⟨he,rfl,rfl⟩|⟨q,rfl,rfl⟩
  all_goals
   (conv=>whnf);repeat ((first|refine ⟨_,_,.head _,rfl,?_⟩|refine ⟨_,_,.tail _ (.head _),rfl,?_⟩);conv=>whnf)
   refine ⟨fun aD=>?_,fun aD=>?_⟩
   ·have cI:c<s.H.lex.ah.length/\p.cl.length<3:=by simp at aD;exact ⟨aD.1,by omega⟩
    have zT:=mR (hs.lex.cE jJ cI.1).text;have bw:(cE s.H.lex c).text.length<=aq:=by unfold aq;omega
    rw [if_pos cI.2,drop_cons (kM jJ cI.1),fk,show ((c.toNat:Nat)+1)=(c+1).toNat by omega] at bS;(conv=>whnf);repeat ((first|(refine cj c.toNat (by omega) (kM jJ cI.1) ?_)|refine aX (hasPrefix (cE s.H.lex c).text u.text bw ke) ?_|refine And.intro (by show aJ (aH Tryz.f221 _) _=true;decide +kernel) ?_);conv=>whnf)
    refine ⟨fun hq=>?_,fun hq=>?_⟩<;>simp only [Bool.not_eq_true',Bool.not_eq_false'] at hq
    ·rw [if_neg (by rw [hq];decide),List.nil_append] at bS;(conv=>whnf);repeat (refine ⟨af ⟨by omega,by omega⟩,?_⟩;conv=>whnf)
     refine ⟨_,_,ar.refl _ _,_,(by omega),c+1,o,_,_,rfl,rfl,rfl,by omega,by omega,?_,by omega,by rw [if_pos cI.2];exact bS⟩;first|exact .inl ⟨he,rfl,rfl⟩|exact .inr ⟨q,rfl,rfl⟩
    rw [if_pos hq] at bS;(conv=>whnf);repeat ((first|(refine ⟨_,_,.tail _ (.tail _ (.head _)),rfl,?_⟩)|refine ⟨_,_,.head _,rfl,?_⟩|refine ⟨_,_,.tail _ (.head _),rfl,?_⟩|refine ⟨_,_,.here _,aF,?_⟩|intro (nb:Nat));conv=>whnf)
    refine ay.mono ?_ (ay.frame (KR p.cl (by unfold aV;omega)) _);rintro v h1 ⟨h2,yn,rfl⟩;rcases yn with ⟨nD,rfl,rfl⟩|⟨q2,rfl,rfl⟩
    all_goals
     (conv=>whnf);repeat ((first|refine ⟨af ⟨by omega,by omega⟩,?_⟩|(refine ⟨af eD,?_⟩)|(refine ⟨(by first|exact Nat.le_of_ble_eq_true rfl|(simp [ints,aV];omega)),fun q3=>?_⟩)|(refine ⟨_,.here _,?_⟩)|(refine ⟨_,.there (.there (.here _)),?_⟩)|refine ⟨_,_,.tail _ (.head _),rfl,?_⟩|refine ⟨_,_,.there (.here _),aF,?_⟩);conv=>whnf)
     refine ⟨[(0,[],.au (nR s)),(4,[],.bn kp 0),(5,[],.au (aT u)),(6,[],.sl 6 (some q3) ((o++[(⟨p.bH++u.text,p.closed,p.cl++[c],u⟩:bg)]).map fo)),(10,[],.int .i64 (c+1))],[(q3,.tok),(kp,.vec (fo p))],?_,_,(by omega),c+1,_,_,[(q3,.tok)],rfl,rfl,rfl,by omega,by omega,.inr ⟨_,rfl,rfl⟩,by simp;omega,by rw [if_pos cI.2,bS,List.append_assoc]⟩;refine ar.trans (ar.qP (.cons (ag.refl _) (.cons (ag.refl _) (.cons (ag.refl _) (.cons ?_ (je.refl _)))))) (ar.sub ?_ ?_)
     ·first
       | (rw [he];exact ag.nx (.cons (wW ua) .nil))
       | (rw [he];refine ag.nx (.cons (wW ?_) .nil);have h9:=fun t=>ua (t:=t) (cl:=p.cl) (c:=c);rw [nD] at h9;exact h9 _)
       | (rw [List.map_append];exact ag.nx (iy.snoc (wW ua)))
       | (rw [List.map_append];refine ag.nx (iy.snoc (wW ?_));have h9:=fun t=>ua (t:=t) (cl:=p.cl) (c:=c);rw [nD] at h9;exact h9 _)
     ·intro k o hm;simp only [List.mem_cons,List.not_mem_nil,or_false] at hm;rcases hm with hm|hm<;>simp [hm]
     intro hn;simp [keys] at hn ⊢;simp [hn]
   have yR:gM s p u=o:=by
    rw [bS];simp at aD;split
    ·rename_i h3;rw [drop_nil (by omega)];simp [fk]
    simp
   rw [yR];(conv=>whnf);skip;first|exact Out.le (by decide) (.inl ⟨he,rfl,rfl⟩)|exact Out.le (by decide) (.inr ⟨q,rfl,rfl⟩)
 have hf:dD p.cl=0:=by rw [hn];rfl
 (conv=>whnf);skip;have A3:(0:Int)=dD p.cl:=hf.symm;rw [A3];refine cy rfl mixed [0,4,5,6,10] [] (fun m r h=>∃ (c:Int) (o:List bg) (v:AV) (gq:ab),r=[(0,[],.au (nR s)),(4,[],.bn kp 0),(5,[],.au (aT u)),(6,[],v),(10,[],.int .i64 c)]/\h=gq++[(kp,.vec (fo p))]/\m=(s.H.lex.ah.length - c).toNat/\0<=c/\c<=s.H.lex.ah.length/\Out 6 fo o v gq/\o.length<=c/\gM s p u=o++(if p.cl.length<3 then fk p u (s.H.lex.ah.drop c.toNat) c else [])) ?_ ?_
 ·(conv=>whnf);exact ⟨_,_,ar.refl _ _,_,dD p.cl,[],_,[],rfl,rfl,rfl,kg.1,kg.2,.inl ⟨rfl,rfl,rfl⟩,by simpa using kg.1,by rw [hm];rfl⟩
 rintro m r h' ⟨c,o,v,gq,rfl,rfl,rfl,jJ,KW,hv,mE,bS⟩;have jm:o.length+1<=aV:=by have:=hs.lex.many;unfold aV;omega
 rcases hv with ⟨he,rfl,rfl⟩|⟨q,rfl,rfl⟩
 all_goals
  (conv=>whnf);repeat ((first|refine ⟨_,_,.head _,rfl,?_⟩|refine ⟨_,_,.tail _ (.head _),rfl,?_⟩);conv=>whnf)
  refine ⟨fun aD=>?_,fun aD=>?_⟩
  ·have cI:c<s.H.lex.ah.length/\p.cl.length<3:=by simp at aD;exact ⟨aD.1,by omega⟩
   have zT:=mR (hs.lex.cE jJ cI.1).text;have bw:(cE s.H.lex c).text.length<=aq:=by unfold aq;omega
   rw [if_pos cI.2,drop_cons (kM jJ cI.1),fk,show ((c.toNat:Nat)+1)=(c+1).toNat by omega] at bS;(conv=>whnf);repeat ((first|(refine cj c.toNat (by omega) (kM jJ cI.1) ?_)|refine aX (hasPrefix (cE s.H.lex c).text u.text bw ke) ?_|refine And.intro (by show aJ (aH Tryz.f221 _) _=true;decide +kernel) ?_);conv=>whnf)
   refine ⟨fun hq=>?_,fun hq=>?_⟩<;>simp only [Bool.not_eq_true',Bool.not_eq_false'] at hq
   ·rw [if_neg (by rw [hq];decide),List.nil_append] at bS;(conv=>whnf);repeat (refine ⟨af ⟨by omega,by omega⟩,?_⟩;conv=>whnf)
    refine ⟨_,_,ar.refl _ _,_,(by omega),c+1,o,_,_,rfl,rfl,rfl,by omega,by omega,?_,by omega,by rw [if_pos cI.2];exact bS⟩;first|exact .inl ⟨he,rfl,rfl⟩|exact .inr ⟨q,rfl,rfl⟩
   rw [if_pos hq] at bS;(conv=>whnf);repeat ((first|(refine ⟨_,_,.tail _ (.tail _ (.head _)),rfl,?_⟩)|refine ⟨_,_,.head _,rfl,?_⟩|refine ⟨_,_,.tail _ (.head _),rfl,?_⟩|refine ⟨_,_,.here _,aF,?_⟩|intro (nb:Nat));conv=>whnf)
   refine ay.mono ?_ (ay.frame (KR p.cl (by unfold aV;omega)) _);rintro v h1 ⟨h2,yn,rfl⟩;rcases yn with ⟨nD,rfl,rfl⟩|⟨q2,rfl,rfl⟩
   all_goals
    (conv=>whnf);repeat ((first|refine ⟨af ⟨by omega,by omega⟩,?_⟩|(refine ⟨af eD,?_⟩)|(refine ⟨(by first|exact Nat.le_of_ble_eq_true rfl|(simp [ints,aV];omega)),fun q3=>?_⟩)|(refine ⟨_,.here _,?_⟩)|(refine ⟨_,.there (.there (.here _)),?_⟩)|refine ⟨_,_,.tail _ (.head _),rfl,?_⟩|refine ⟨_,_,.there (.here _),aF,?_⟩);conv=>whnf)
    refine ⟨[(0,[],.au (nR s)),(4,[],.bn kp 0),(5,[],.au (aT u)),(6,[],.sl 6 (some q3) ((o++[(⟨p.bH++u.text,p.closed,p.cl++[c],u⟩:bg)]).map fo)),(10,[],.int .i64 (c+1))],[(q3,.tok),(kp,.vec (fo p))],?_,_,(by omega),c+1,_,_,[(q3,.tok)],rfl,rfl,rfl,by omega,by omega,.inr ⟨_,rfl,rfl⟩,by simp;omega,by rw [if_pos cI.2,bS,List.append_assoc]⟩;refine ar.trans (ar.qP (.cons (ag.refl _) (.cons (ag.refl _) (.cons (ag.refl _) (.cons ?_ (je.refl _)))))) (ar.sub ?_ ?_)
    ·first
      | (rw [he];exact ag.nx (.cons (wW ua) .nil))
      | (rw [he];refine ag.nx (.cons (wW ?_) .nil);have h9:=fun t=>ua (t:=t) (cl:=p.cl) (c:=c);rw [nD] at h9;exact h9 _)
      | (rw [List.map_append];exact ag.nx (iy.snoc (wW ua)))
      | (rw [List.map_append];refine ag.nx (iy.snoc (wW ?_));have h9:=fun t=>ua (t:=t) (cl:=p.cl) (c:=c);rw [nD] at h9;exact h9 _)
    ·intro k o hm;simp only [List.mem_cons,List.not_mem_nil,or_false] at hm;rcases hm with hm|hm<;>simp [hm]
    intro hn;simp [keys] at hn ⊢;simp [hn]
  have yR:gM s p u=o:=by
   rw [bS];simp at aD;split
   ·rename_i h3;rw [drop_nil (by omega)];simp [fk]
   simp
  rw [yR];(conv=>whnf);skip;first|exact Out.le (by decide) (.inl ⟨he,rfl,rfl⟩)|exact Out.le (by decide) (.inr ⟨q,rfl,rfl⟩)
end Go.Abs.Wall
namespace Go.Abs.Wall
open Go Go.Abs Go.Proofs
def rk (s:Sp) (p:bg) (u:ao):Bool:=!decide (p.last.kind=0)||!decide (u.text=s.e.root)
def FE (p:bg):Bool:=decide (p.last.kind=2)||(decide (p.last.kind=1)&&decide (2<=(p.last.text.length:Int)))
def pE (p:bg) (u:ao):Bool:=!FE p||decide ((p.last.text.length:Int)<u.text.length)||!qg p.bH u.text
def vp (s:Sp) (p:bg) (u:ao):Bool:=p.closed||decide (s.e.cls=[])||!decide (u.text=s.e.cls)||decide (0<(p.cl.length:Int))||!decide ((p.bH.length:Int)=s.body.length)
def aU (s:Sp) (p:bg) (u:ao):List bg:=
 if u.kind=1 then gM s p u
 else if u.kind=2 then (if rk s p u=true then [] else [⟨u.text,p.closed,p.cl,u⟩])
 else if u.kind=3 then (if pE p u=true then [] else [⟨p.bH,p.closed,p.cl,u⟩])
 else if u.kind=4 then (if vp s p u=true then [] else [⟨p.bH,true,p.cl,u⟩])
 else []
def c154:aw:=⟨[0,1,2,4,5,6,7,9,10,16,31,35,73,74,112],[4],[],[],[(6,[0,1,2,3,4,5,6,7,8,9,10,11,12,13],[]),(14,[0,1,2,3,4,5,6,7,8,9,10,11,12,13,14,15,16,17,18,19,20,21,22,23,24,25,26,27,28,29,30,31,32,33,34,35,36],[])],[]⟩
theorem Sk (s:Sp) (p:bg) (u:ao) (hs:jx s) (hp:jz s p) (hu:u.text.length<=1048576) :
  ae Tryz.prog 154 [.au (nR s),.agg (fo p),.agg (aT u)] [] (.sl 6 none ((aU s p u).map fo)):=by
 have hb:=hs.body;have dI:=hp.bE;have gJ:=hp.bH;have CS:=hs.cQ hp.dO;have dN:p.bH.length<=aq:=by unfold aq;omega
 have ke:u.text.length<=aq:=by unfold aq;omega
 refine ae.of (aG (F:=Tryz.f154) c154 rfl rfl rfl mixed rfl fun X=>?_);(conv=>whnf);intro kp;(conv=>whnf);skip;refine ⟨fun h1=>?_,fun h1=>?_⟩<;>simp only [decide_eq_true_eq,decide_eq_false_iff_not] at h1
 ·have hm:aU s p u=gM s p u:=(by rw [aU,if_pos h1]);rw [hm];(conv=>whnf);repeat ((first|refine ae.k0 (A2 s p u hs hp hu) ?_|refine ⟨_,_,.head _,rfl,?_⟩);conv=>whnf)
  exact ag.refl _
 (conv=>whnf);skip;refine ⟨fun h2=>?_,fun h2=>?_⟩<;>simp only [decide_eq_true_eq,decide_eq_false_iff_not] at h2
 ·have hm:aU s p u=if rk s p u=true then [] else [⟨u.text,p.closed,p.cl,u⟩]:=(by rw [aU,if_neg h1,if_pos h2]);(conv=>whnf);repeat ((first|refine ⟨_,_,.head _,rfl,?_⟩|refine And.intro (by show aJ (aH Tryz.f154 _) _=true;decide +kernel) ?_);conv=>whnf)
  refine ⟨fun hq=>?_,fun hq=>?_⟩
  ·have hq:rk s p u=true:=hq;rw [hm,if_pos hq];(conv=>whnf);exact ag.nil (by decide)
  have hq:rk s p u=false:=hq;rw [hm,if_neg (by rw [hq];decide)];(conv=>whnf);repeat ((first|refine ⟨_,_,.head _,rfl,?_⟩|refine ⟨_,_,.here _,aF,?_⟩);conv=>whnf)
  exact ag.refl _
 (conv=>whnf);skip;refine ⟨fun h3=>?_,fun h3=>?_⟩<;>simp only [decide_eq_true_eq,decide_eq_false_iff_not] at h3
 ·have hm:aU s p u=if pE p u=true then [] else [⟨p.bH,p.closed,p.cl,u⟩]:=(by rw [aU,if_neg h1,if_neg h2,if_pos h3]);(conv=>whnf);repeat ((first|refine aX (hasSuffix p.bH u.text dN ke) ?_|refine ⟨_,_,.head _,rfl,?_⟩);conv=>whnf)
  refine ⟨fun hq=>?_,fun hq=>?_⟩
  ·have hq:pE p u=true:=hq;rw [hm,if_pos hq];(conv=>whnf);exact ag.nil (by decide)
  have hq:pE p u=false:=hq;rw [hm,if_neg (by rw [hq];decide)];(conv=>whnf);repeat ((first|refine ⟨_,_,.head _,rfl,?_⟩|refine ⟨_,_,.here _,aF,?_⟩);conv=>whnf)
  exact ag.refl _
 (conv=>whnf);skip;refine ⟨fun h4=>?_,fun h4=>?_⟩<;>simp only [decide_eq_true_eq,decide_eq_false_iff_not] at h4
 ·have hm:aU s p u=if vp s p u=true then [] else [⟨p.bH,true,p.cl,u⟩]:=(by rw [aU,if_neg h1,if_neg h2,if_neg h3,if_pos h4]);(conv=>whnf);repeat ((first|refine ⟨_,_,.head _,rfl,?_⟩|refine And.intro (by show aJ (aH Tryz.f154 _) _=true;decide +kernel) ?_);conv=>whnf)
  refine ⟨fun hq=>?_,fun hq=>?_⟩
  ·have hq:(p.closed||decide (s.e.cls=[])||!decide (u.text=s.e.cls)||decide (0<((ints p.cl).length:Int))||!decide ((p.bH.length:Int)=s.body.length))=true:=hq;rw [dB] at hq;have hq:vp s p u=true:=hq;rw [hm,if_pos hq];(conv=>whnf);exact ag.nil (by decide)
  have hq:(p.closed||decide (s.e.cls=[])||!decide (u.text=s.e.cls)||decide (0<((ints p.cl).length:Int))||!decide ((p.bH.length:Int)=s.body.length))=false:=hq;rw [dB] at hq;have hq:vp s p u=false:=hq;rw [hm,if_neg (by rw [hq];decide)];(conv=>whnf);repeat ((first|refine ⟨_,_,.head _,rfl,?_⟩|refine ⟨_,_,.here _,aF,?_⟩);conv=>whnf)
  exact ag.refl _
 have hm:aU s p u=[]:=(by rw [aU,if_neg h1,if_neg h2,if_neg h3,if_neg h4]);rw [hm];(conv=>whnf);skip;exact ag.nil (by decide)
def gG (u:ao):Prop:=1<=u.kind/\u.kind<=4/\1<=u.text.length/\u.text.length<=8
theorem Sl {t w:List UInt8} (h:fG t w=true):w.length<=t.length:=by unfold fG at h;simp only [Bool.and_eq_true,decide_eq_true_eq] at h;omega
theorem Sm {s:Sp} {p:bg} {u:ao} (hp:jz s p) (hu:gG u) (he:p.bH.length=(cQ s p.cl).length) (h3:p.cl.length<3):∀ (l:List iO) (c:Int),0<=c->s.H.lex.ah.drop c.toNat=l->∀ q∈fk p u l c,jz s q
 | [],_,_,_,q,hq=>by cases hq
 | k::t,c,h0,hd,q,hq=>by
   unfold fk at hq;have hk:s.H.lex.ah[c.toNat]?=some k:=by have:=congrArg (fun z=>z[0]?) hd;simpa using this
   have aL:=(List.getElem?_eq_some_iff.1 hk).1;have ku:s.H.lex.ah.drop (c+1).toNat=t:=by have:=congrArg List.tail hd;rw [show (c+1).toNat=c.toNat+1 by omega];simpa [List.tail_drop] using this
   rcases List.mem_append.1 hq with hq|hq
   ·split at hq
    ·rename_i hb;cases List.mem_singleton.1 hq
     have jF:(cE s.H.lex c)=k:=by have:=kM (x:=s.H.lex) h0 (by omega);rw [hk] at this;exact (Option.some.inj this).symm
     refine ⟨by simp;omega,fun d hd=>?_,?_,fun h=>?_⟩
     ·rcases List.mem_append.1 hd with hd|hd
      ·exact hp.dO d hd
      cases List.mem_singleton.1 hd;omega
     ·show (p.bH++u.text).length<=(cQ s (p.cl++[c])).length;rw [AF,List.length_append,List.length_append,jF];have:=Sl hb;omega
     exact absurd h (by have:=hu.1;show ¬ u.kind=0;omega)
    cases hq
   exact Sm hp hu he h3 t (c+1) (by omega) ku q hq
theorem A4 {s:Sp} {p:bg} {u:ao} (hp:jz s p) (hu:gG u):∀ q∈gM s p u,jz s q:=by
 intro q hq;unfold gM at hq;split at hq
 ·split at hq
  ·rename_i hb;cases List.mem_singleton.1 hq
   have:=Sl hb;unfold jO at this;rw [List.length_drop] at this;refine ⟨hp.bE,hp.dO,?_,fun h=>absurd h (by have:=hu.1;show ¬ u.kind=0;omega)⟩;show (p.bH++u.text).length<=_;rw [List.length_append];have:=hp.bH;show _<=(cQ s p.cl).length;omega
  cases hq
 rename_i h0;split at hq
 ·rename_i h3;have he:p.bH.length=(cQ s p.cl).length:=by have h1:=hp.bH;simp only [ne_eq,Decidable.not_not] at h0;unfold jO at h0;rw [List.drop_eq_nil_iff] at h0;omega
  exact Sm hp hu he h3 _ _ (Eu hp).1 rfl q hq
 cases hq
theorem vO {s:Sp} {p:bg} {u:ao} (hs:jx s) (hp:jz s p) (hu:gG u):∀ q∈aU s p u,jz s q:=by
 intro q hq;have hk:¬ u.kind=0:=by have:=hu.1;omega
 unfold aU at hq;split at hq
 ·exact A4 hp hu q hq
 split at hq
 ·split at hq
  ·cases hq
  rename_i hb;cases List.mem_singleton.1 hq
  rw [Bool.not_eq_true] at hb;unfold rk at hb;simp only [Bool.or_eq_false_iff,Bool.not_eq_false',decide_eq_true_eq] at hb;obtain ⟨h1,h2⟩:=hp.new hb.1;refine ⟨hp.bE,hp.dO,?_,fun h=>absurd h hk⟩;show u.text.length<=_;rw [hb.2];have:=hs.root;unfold cQ;rw [List.length_append];omega
 split at hq
 ·split at hq
  ·cases hq
  cases List.mem_singleton.1 hq
  exact ⟨hp.bE,hp.dO,hp.bH,fun h=>absurd h hk⟩
 split at hq
 ·split at hq
  ·cases hq
  cases List.mem_singleton.1 hq
  exact ⟨hp.bE,hp.dO,hp.bH,fun h=>absurd h hk⟩
 cases hq
def fS:bg:=⟨[],false,[],⟨0,[]⟩⟩
theorem zg (s:Sp):jz s fS:=⟨by simp [fS],by simp [fS],by simp [fS],fun _=>⟨rfl,rfl⟩⟩
end Go.Abs.Wall
namespace Go.Abs.Wall
open Go Go.Abs Go.Proofs
structure cO where
 form:bc
 aj:List ao
deriving DecidableEq
def du (w:cO):List AV:=dm w.form++[.sl 2 none (w.aj.map aT)]
def sL (c:yQ) (u:ao):Int:=
 if u.kind=1 then c.spell else if u.kind=2 then c.EO else if u.kind=3 then c.dM else if u.kind=4 then c.cls else 0
def lR (c:yQ) (l:List ao):Int:=(l.map (sL c)).sum
def tY (l:List ao):Bool:=l.any fun u=>decide (u.kind=4)
def tW (x:Lex) (f:bc):Int:=if dT x f=0 then mQ x f else 0
def iM (H:ax) (w:cO):Int:=
 tW H.lex w.form+lR H.cq w.aj+(if (!tY w.aj&&!decide ((cd H.lex w.form.entry).cls=[]))=true then H.cq.nH else 0)
structure ic (H:ax):Prop where
 oV:kS H.list=0
 lex:pI H.lex
 cq:∀ c∈iB H.cq,0<=c/\c<=1000
 period:1<=H.period/\H.period<=H.list.iD
theorem ve {H:ax} (h:eG H=0):ic H:=by
 unfold eG at h;split at h
 ·rename_i h1;exact absurd h h1
 rename_i h1;split at h
 ·rename_i h2;exact absurd h h2
 rename_i h2;split at h
 ·cases h
 rename_i h3;split at h
 ·cases h
 rename_i h4;rw [Bool.not_eq_false,List.all_eq_true] at h3;rw [Bool.not_eq_false,dS] at h4;exact ⟨by omega,Sa (by omega),fun c hc=>dS.1 (h3 c hc),h4⟩
theorem KX {H:ax} (h:ic H) (u:ao):0<=sL H.cq u/\sL H.cq u<=1000:=by
 have hc:=h.cq;unfold sL;split
 ·exact hc _ (by simp [iB])
 split
 ·exact hc _ (by simp [iB])
 split
 ·exact hc _ (by simp [iB])
 split
 ·exact hc _ (by simp [iB])
 omega
theorem Cu {H:ax} (h:ic H):∀ l:List ao,0<=lR H.cq l/\lR H.cq l<=1000*l.length
 | []=>by simp [lR]
 | u::l=>by have h1:=Cu h l;have h2:=KX h u;unfold lR at h1 ⊢;simp only [List.map_cons,List.sum_cons,List.length_cons];omega
theorem Sn {c:yQ} {l:List ao} {u:ao}:lR c (l++[u])=lR c l+sL c u:=by unfold lR;simp
theorem Sq {l:List ao} {u:ao}:tY (l++[u])=(tY l||decide (u.kind=4)):=by unfold tY;simp
theorem KY {x:Lex} {f:bc}:0<=tW x f/\tW x f<=5000:=by
 unfold tW;split
 ·rename_i h;exact (mG h).kj
 omega
theorem Jr {H:ax} (h:ic H) {w:cO}:0<=iM H w/\iM H w<=6000+1000*w.aj.length:=by have h1:=KY (x:=H.lex) (f:=w.form);have h2:=Cu h w.aj;have h3:=h.cq H.cq.nH (by simp [iB]);unfold iM;split<;>omega
def c95:aw:=⟨[0,1,2,3,4,5,7,9,19,20,21,22,26,27,34,41,48,69],[],[9],[],[],[]⟩
theorem KZ (H:ax) (w:cO) (hx:rh H.lex) (hH:ic H) (hf:w.form.ah.length<=aq) (he:0<=w.form.entry/\w.form.entry<H.lex.entries.length) (hu:w.aj.length<=1048576) :
  ae Tryz.prog 95 [.agg (bJ H),.agg (du w)] [] (.int .i64 (iM H w)):=by
 have A5:=KY (x:=H.lex) (f:=w.form);have de:=hH.cq H.cq.nH (by simp [iB]);refine aG (F:=Tryz.f95) c95 rfl rfl rfl mixed rfl fun X=>?_;(conv=>whnf);repeat (refine ae.k0 (Pd H.lex w.form hx hf) ?_;conv=>whnf)
 refine bM rfl mixed [2,3,5,7,19,20,21] [] (fun m r h=>∃ (i:Nat) (n:Int) (cl:Bool),r=[(2,[],.au (bJ H)),(3,[],.au (du w)),(5,[],.int .i64 n),(7,[],.bool cl),(19,[],.sl 2 none (w.aj.map aT)),(20,[],.int .i64 (w.aj.map aT).length),(21,[],.int .i64 i)]/\h=[]/\m=w.aj.length - i/\i<=w.aj.length/\n=tW H.lex w.form+lR H.cq (w.aj.take i)/\cl=tY (w.aj.take i)) ?_ ?_
 ·(conv=>whnf);exact ⟨_,0,tW H.lex w.form,false,rfl,rfl,rfl,by omega,by simp [lR],by simp [tY]⟩
 rintro m r h' ⟨i,n,cl,rfl,rfl,rfl,hi,hn,bw⟩;have hb:=Cu hH (w.aj.take i);rw [List.length_take] at hb;(conv=>whnf);refine ⟨fun aD=>?_,fun aD=>?_⟩<;>simp at aD
 ·obtain ⟨u,dj⟩:=aN aD;have lf:=dg dj;have fH:=KX hH u;have fL:=Sn (c:=H.cq) (l:=w.aj.take i) (u:=u);have gn:=Sq (l:=w.aj.take i) (u:=u);rw [<- lf] at fL gn;unfold sL at fL fH;(conv=>whnf);repeat ((first|refine ix (by assumption) ?_|refine ⟨_,_,aK.here _,⟨Nat.le_of_ble_eq_true rfl,rfl⟩,?_⟩|intro (nb:Nat));conv=>whnf)
  refine ⟨fun hk=>?_,fun hk=>?_⟩<;>simp only [decide_eq_true_eq,decide_eq_false_iff_not] at hk
  ·rw [if_pos hk] at fL fH;(conv=>whnf);repeat (refine ⟨af ⟨by omega,by omega⟩,?_⟩;conv=>whnf)
   exact ⟨_,by omega,i+1,_,_,rfl,rfl,rfl,by omega,by rw [fL,hn];show _+_=_;omega,by rw [gn,bw,decide_eq_false (by omega),Bool.or_false]⟩
  rw [if_neg hk] at fL fH;(conv=>whnf);refine ⟨fun bo=>?_,fun bo=>?_⟩<;>simp only [decide_eq_true_eq,decide_eq_false_iff_not] at bo
  ·rw [if_pos bo] at fL fH;(conv=>whnf);repeat (refine ⟨af ⟨by omega,by omega⟩,?_⟩;conv=>whnf)
   exact ⟨_,by omega,i+1,_,_,rfl,rfl,rfl,by omega,by rw [fL,hn];show _+_=_;omega,by rw [gn,bw,decide_eq_false (by omega),Bool.or_false]⟩
  rw [if_neg bo] at fL fH;(conv=>whnf);refine ⟨fun nQ=>?_,fun nQ=>?_⟩<;>simp only [decide_eq_true_eq,decide_eq_false_iff_not] at nQ
  ·rw [if_pos nQ] at fL fH;(conv=>whnf);repeat (refine ⟨af ⟨by omega,by omega⟩,?_⟩;conv=>whnf)
   exact ⟨_,by omega,i+1,_,_,rfl,rfl,rfl,by omega,by rw [fL,hn];show _+_=_;omega,by rw [gn,bw,decide_eq_false (by omega),Bool.or_false]⟩
  rw [if_neg nQ] at fL fH;(conv=>whnf);refine ⟨fun lQ=>?_,fun lQ=>?_⟩<;>simp only [decide_eq_true_eq,decide_eq_false_iff_not] at lQ
  ·rw [if_pos lQ] at fL fH;(conv=>whnf);repeat (refine ⟨af ⟨by omega,by omega⟩,?_⟩;conv=>whnf)
   exact ⟨_,by omega,i+1,_,_,rfl,rfl,rfl,by omega,by rw [fL,hn];show _+_=_;omega,by rw [gn,decide_eq_true lQ,Bool.or_true]⟩
  rw [if_neg lQ] at fL fH;(conv=>whnf);repeat (refine ⟨af ⟨by omega,by omega⟩,?_⟩;conv=>whnf)
  exact ⟨_,by omega,i+1,_,_,rfl,rfl,rfl,by omega,by rw [fL,hn];omega,by rw [gn,bw,decide_eq_false lQ,Bool.or_false]⟩
 rw [List.take_of_length_le aD] at hn bw hb;(conv=>whnf);repeat ((refine cj w.form.entry.toNat (by omega) (oB he.1 he.2) ?_);conv=>whnf)
 refine ⟨fun hq=>?_,fun hq=>?_⟩
 ·have hq:(!cl&&!decide ((cd H.lex w.form.entry).cls=[]))=true:=hq;rw [bw] at hq;(conv=>whnf);repeat (refine ⟨af ⟨by omega,by omega⟩,?_⟩;conv=>whnf)
  refine ⟨congrArg (AV.int .i64) ?_,rfl⟩;rw [iM,if_pos hq,hn]
 have hq:(!cl&&!decide ((cd H.lex w.form.entry).cls=[]))=false:=hq;rw [bw] at hq;(conv=>whnf);skip;refine ⟨congrArg (AV.int .i64) ?_,rfl⟩;rw [iM,if_neg (by rw [hq];decide),hn];omega
end Go.Abs.Wall
namespace Go.Abs.Wall
open Go Go.Abs Go.Proofs
structure az where
 Dm:Int
 to:Int
 cost:Int
 word:cO
deriving DecidableEq
def cx (e:az):List AV:=[.int .i64 e.Dm,.int .i64 e.to,.int .i64 e.cost]++du e.word
def fD (us:List ao):List AV:=[.sl 2 none (us.map aT)]
structure Env where
 H:ax
 s:Sp
 at_:Int
 entry:Int
 ending:Int
structure sQ extends Env where
 most:Nat
 bP:List (List ao)
def oT (E:Env) (p:bg) (T:List ao):az:=⟨E.at_,E.at_+T.length,iM E.H ⟨⟨E.entry,E.ending,p.cl⟩,T⟩,⟨⟨E.entry,E.ending,p.cl⟩,T⟩⟩
def jy (E:Env) (p:bg) (T:List ao):List az:=if (decide (0<(T.length:Int))&&ll E.s p)=true then [oT E p T] else []
def eR (E:Env):List (List ao)->bg->List ao->List az
 | [],_,_=>[]
 | us::r,p,T=>us.flatMap fun u=>(aU E.s p u).flatMap fun q=>jy E q (T++[u])++eR E r q (T++[u])
def cN (E:Env) (rest:List (List ao)) (p:bg) (T:List ao):List az:=jy E p T++eR E rest p T
structure Gb (E:sQ):Prop where
 jc:ic E.H
 fit:eP E.H
 sp:jx E.s
 entry:0<=E.entry/\E.entry<E.H.lex.entries.length
 place:0<=E.at_/\E.at_<=1048576
 most:E.most<=1048576
 bE:E.bP.length<=12
 aj:∀ us∈E.bP,us.length<=1048576/\∀ u∈us,gG u
def Sr (E:sQ) (sk tk lk en:Nat):List AV:=
 [.bn tk 0,.au [.au (nR E.s)],.au [.int .i64 E.entry],.bn en 0,.bn lk 0,.au [.int .i64 E.at_],.au (bJ E.H),.au [.sl 1 none (E.bP.map fD)],.au [.int .i64 E.most],.bn sk 0]
def HC (E:sQ) (sk tk lk en:Nat) (tv lv:AV):ab:=[(sk,.vec [.fn 194 (Sr E sk tk lk en)]),(tk,.vec [tv]),(lk,.vec [lv]),(en,.vec [.int .i64 E.ending])]
def wX (T:List ao) (v:AV) (hp:ab):Prop:=(T=[]/\v=.fM/\hp=[])\/∃ b,v=.aR b 0 T.length 2/\hp=[(b,.vec (T.map aT).flatten)]
theorem Ss {α:Type} {A B C:List α} {m:Nat}:((A++B).take m++C).take m=(A++(B++C)).take m:=by
 rw [<- List.append_assoc];by_cases h:(A++B).length<=m
 ·rw [List.take_of_length_le h]
 have h1:m<=(A++B).length:=(by omega);rw [List.take_append_of_le_length h1,List.take_append_of_le_length (by rw [List.length_take];omega),List.take_take,Nat.min_self]
theorem ay.perm {f:FuncId} {vs:List AV} {h h':ab} {R:AV->ab->Prop} (hf:ay Tryz.prog f vs h R) (hp:h.Perm h'):ay Tryz.prog f vs h' R:=
 ay.pre hf (fun k o hm=>hp.mem_iff.1 hm) (fun hn=>by unfold keys at hn ⊢;exact ((hp.map _).nodup_iff).2 hn)
theorem ae.perm {f:FuncId} {vs:List AV} {h h2 h':ab} {v:AV} (hf:ae Tryz.prog f vs h v) (hp:(h++h2).Perm h'):ae Tryz.prog f vs h' v:=by refine ay.post (ay.perm (ay.frame hf h2) hp) ?_;rintro v' h1 ⟨h3,⟨rfl,rfl⟩,rfl⟩;exact ⟨_,h',⟨rfl,rfl⟩,ag.refl _,fun k o hm=>hp.mem_iff.2 hm,fun hn=>by unfold keys at hn ⊢;exact ((hp.map _).nodup_iff).1 hn⟩
theorem ar.perm {r:aC} {h h':ab} (hp:h.Perm h'):ar r h r h':=
 ar.sub (fun k o hm=>hp.mem_iff.2 hm) (fun hn=>by unfold keys at hn ⊢;exact ((hp.map _).nodup_iff).1 hn)
theorem St (b:Nat) (l:List ao) (hl:l.length<=aV):ae Tryz.prog 196 [.aR b 0 l.length 2] [(b,.vec (l.map aT).flatten)] (.sl 2 none (l.map aT)):=by have:=u7 b l [] hl;rwa [List.append_nil] at this
theorem Be {s:Sp} (hs:jx s) (p:bg) (u:ao):(aU s p u).length<=11:=by
 have h1:=hs.lex.many.2.2;unfold aU gM;repeat' split
 all_goals first|(simp;done)|(have h2:=Si p u (s.H.lex.ah.drop (dD p.cl).toNat) (dD p.cl);rw [List.length_drop] at h2;omega)
def Gc (E:sQ) (sk tk lk en:Nat) (rest:List (List ao)):Prop:=
 ∀ (p:bg) (T:List ao) (L:List az) (tv:AV) (sR:ab) (lv:AV) (kU:ab),(∃ pre,E.bP=pre++rest/\pre.length=T.length)->jz E.s p->wX T tv sR->Row 7 cx L lv kU->(T≠[]->L.length<=E.most)->L.length<=E.most+1 ->
  ay Tryz.prog 194 (.agg (fo p)::Sr E sk tk lk en) (HC E sk tk lk en tv lv++(sR++kU))
   (fun v h'=>v=.aQ []/\∃ sS rq qB pJ,wX T sS rq/\Row 7 cx ((L++cN E.toEnv rest p T).take (E.most+1)) qB pJ/\h'=HC E sk tk lk en sS qB++(rq++pJ))
def c194:aw:=⟨[0,1,2,3,4,5,6,7,8,9,10,11,12,13,15,17,26,51,55,56,57,58,64,65,66,67,73],[],[13,15,17],[],[(3,[0,1,2,3,4,5,6,7,8,9,10],[13]),(4,[0,1,2,3,4,5,6,7,8,9,10,11,12],[])],[]⟩
def Su (E:sQ) (ct:List (List ao)) (p:bg) (T:List ao) (us:List ao):List az:=us.flatMap fun u=>(aU E.s p u).flatMap fun q=>cN E.toEnv ct q (T++[u])
def AG (E:sQ) (sk tk lk en:Nat) (p:bg) (T:List ao) (us:List ao) (ct:List (List ao)) (W0:List az) (m:Nat) (r:aC) (h:ab):Prop:=
 ∃ (k:Nat) (n:Int) (L2:List az) (tv:AV) (sR:ab) (lv:AV) (kU:ab),r=[(1,[],.bn tk 0),(2,[],.au [.au (nR E.s)]),(5,[],.bn lk 0),(9,[],.au [.int .i64 E.most]),(10,[],.bn sk 0),(11,[],.au (fo p)),(12,[],.int .i64 n),(55,[],.sl 2 none (us.map aT)),(56,[],.int .i64 (us.map aT).length),(57,[],.int .i64 k)]/\h=HC E sk tk lk en tv lv++(sR++kU)/\m=us.length - k/\n=T.length/\k<=us.length/\wX T tv sR/\Row 7 cx L2 lv kU/\L2.length<=E.most+1/\W0=(L2++Su E ct p T (us.drop k)).take (E.most+1)
def A6 (E:sQ) (sk tk lk en:Nat) (T:List ao) (W0:List az) (v:AV) (h':ab):Prop:=v=.aQ []/\∃ sS rq qB pJ,wX T sS rq/\Row 7 cx W0 qB pJ/\h'.Perm (HC E sk tk lk en sS qB++(rq++pJ))
set_option maxHeartbeats 2000000 in
theorem Gd (E:sQ) (sk tk lk en:Nat) (hE:Gb E) (p:bg) (T:List ao) (us:List ao) (ct:List (List ao)) (W0:List az) (pre:List (List ao)) (hA:E.bP=pre++us::ct) (dN:pre.length=T.length) (hp:jz E.s p) (IH:Gc E sk tk lk en ct) (kk:Nat) (X:Nat->Prop) :
  ∀ m r h,AG E sk tk lk en p T us ct W0 m r h->run Tryz.prog c194 Tryz.f194 ⟨Tryz.f194.ntmps,X,CN Tryz.prog Tryz.f194 (A6 E sk tk lk en T W0)⟩ (kk+3900) (.go [false,false,true,true,true,true,true]) [.head (mq [1,2,5,9,10,11,12,55,56,57] [] (Ai fun r h=>∃ m',m'<m/\AG E sk tk lk en p T us ct W0 m' r h)),.aS 0] r h:=by
 have dI:=hE.bE;have nY:=congrArg List.length hA;rw [List.length_append,List.length_cons] at nY;have lZ:=hp.bE;have Ge:=hE.most;have tC:T.length+1<=aV:=by unfold aV;omega
 have ba:E.bP[T.length]?=some us:=by rw [hA,<- dN];simp
 obtain ⟨xx,ig⟩:=hE.aj us (List.mem_of_getElem? ba);rintro m r h' ⟨k,n,L2,tv,sR,lv,kU,rfl,rfl,rfl,hn,hk,La,my,nZ,iI⟩;unfold Su at iI;(conv=>whnf);refine ⟨fun aD=>?_,fun aD=>?_⟩<;>simp at aD
 ·obtain ⟨u,hu⟩:=aN aD;have rK:=ig u (List.mem_of_getElem? hu);rw [drop_cons hu,List.flatMap_cons] at iI;have bZ:=vO hE.sp hp rK;have fR:=Be hE.sp p u;(conv=>whnf);repeat ((first|refine ix (by assumption) ?_|refine ae.k0 (Sk E.s p u hE.sp hp (by have:=rK.2.2.2;omega)) ?_|refine ⟨_,_,aK.here _,⟨Nat.le_of_ble_eq_true rfl,rfl⟩,?_⟩|intro (nb:Nat));conv=>whnf)
  refine cy rfl mixed [1,2,5,9,10,11,12,15,55,56,57,64,65,66] [] (fun m r h=>∃ (j:Nat) (n:Int) (L3:List az) (tv:AV) (sR:ab) (lv:AV) (kU:ab),r=[(1,[],.bn tk 0),(2,[],.au [.au (nR E.s)]),(5,[],.bn lk 0),(9,[],.au [.int .i64 E.most]),(10,[],.bn sk 0),(11,[],.au (fo p)),(12,[],.int .i64 n),(15,[],.au (aT u)),(55,[],.sl 2 none (us.map aT)),(56,[],.int .i64 (us.map aT).length),(57,[],.int .i64 k),(64,[],.sl 6 none ((aU E.s p u).map fo)),(65,[],.int .i64 ((aU E.s p u).map fo).length),(66,[],.int .i64 j)]/\h=HC E sk tk lk en tv lv++(sR++kU)/\m=(aU E.s p u).length - j/\n=T.length/\j<=(aU E.s p u).length/\wX T tv sR/\Row 7 cx L3 lv kU/\L3.length<=E.most+1/\W0=(L3++(((aU E.s p u).drop j).flatMap (fun q=>cN E.toEnv ct q (T++[u]))++(us.drop (k+1)).flatMap fun u=>(aU E.s p u).flatMap fun q=>cN E.toEnv ct q (T++[u]))).take (E.most+1)) ?_ ?_
  ·(conv=>whnf);exact ⟨_,_,ar.refl _ _,_,0,n,L2,_,_,_,_,rfl,rfl,rfl,hn,by omega,La,my,nZ,iI⟩
  clear La my nZ iI;rintro m r h' ⟨j,n,L3,tv,sR,lv,kU,rfl,rfl,rfl,rfl,hj,Lb,qM,th,jX⟩;(conv=>whnf);refine ⟨fun er=>?_,fun er=>?_⟩<;>simp at er
  ·obtain ⟨q,hq⟩:=aN er;have oc:=bZ q (List.mem_of_getElem? hq);rw [drop_cons hq,List.flatMap_cons,List.append_assoc] at jX;have A7:=Lb;have qN:=qM;rcases Lb with ⟨Sv,rfl,rfl⟩|⟨b3,rfl,rfl⟩<;>rcases qM with ⟨qO,rfl,rfl⟩|⟨qO,l3,rfl,rfl⟩
   all_goals
    (conv=>whnf);repeat ((first|refine ix (by assumption) ?_|(refine ⟨_,_,.tail _ (.tail _ (.head _)),rfl,?_⟩)|refine ⟨_,_,aK.here _,⟨Nat.le_of_ble_eq_true rfl,rfl⟩,?_⟩|intro (nb:Nat));conv=>whnf)
    refine ⟨fun bF=>?_,fun bF=>?_⟩<;>simp only [decide_eq_true_eq,decide_eq_false_iff_not] at bF
    ·have jY:E.most+1<=L3.length:=(by first|omega|(rw [qO];simp;omega));rw [List.take_append_of_le_length jY,List.take_of_length_le th] at jX;(conv=>whnf);exact ⟨rfl,_,_,_,_,A7,by rw [jX];exact qN,List.Perm.refl _⟩
    have jY:L3.length<=E.most:=(by first|omega|(rw [qO];simp));(conv=>whnf);repeat ((first|(refine ⟨⟨Nat.le_of_ble_eq_true rfl,Nat.le_of_ble_eq_true rfl⟩,fun b4=>?_⟩)|(refine ⟨_,.tail _ (.tail _ (.tail _ (.tail _ (.head _)))),⟨rL (fun _=>rfl),tC⟩,fun b4=>⟨_,.there (.there (.there (.there (.here _)))),?_⟩⟩)|(refine ⟨_,_,.there (.there (.here _)),aF,?_⟩)|refine ⟨_,_,.head _,rfl,?_⟩|refine ⟨_,_,.tail _ (.head _),rfl,?_⟩|refine ⟨_,_,.there (.here _),aF,?_⟩);conv=>whnf)
    first
     | (have Lc:wX (T++[u]) (.aR b4 0 1 2) [(b4,.vec (aT u++[]))]:=.inr ⟨b4,by rw [Sv];rfl,by rw [Sv];rfl⟩
        refine ay.mono ?_ (ay.perm (IH q (T++[u]) L3 _ _ _ _ ⟨pre++[us],by rw [hA];simp,by simp [dN]⟩ oc Lc qN (fun _=>jY) th) (List.perm_middle (l₁:=HC E sk tk lk en (.aR b4 0 1 2) _))))
     | (have Lc:wX (T++[u]) (.aR b4 0 (T.length+1) 2) [(b4,.vec ((T.map aT).flatten++(aT u++[])))]:=.inr ⟨b4,by rw [List.length_append];rfl,by rw [List.map_append,List.flatten_append];rfl⟩
        refine ay.mono ?_ (ay.perm (IH q (T++[u]) L3 _ _ _ _ ⟨pre++[us],by rw [hA];simp,by simp [dN]⟩ oc Lc qN (fun _=>jY) th) (List.Perm.refl _)))
    rintro v h1 ⟨rfl,V8,V9,W1,W2,A8,A9,rfl⟩;have eO:((T++[u]).map aT).flatten=(T.map aT).flatten++aT u:=(by simp);rcases A8 with ⟨e5,_,_⟩|⟨b5,rfl,Kl⟩
    ·simp at e5
    rw [eO] at Kl;subst Kl;(conv=>whnf);repeat ((first|refine ⟨af ⟨by omega,by omega⟩,?_⟩|(refine ⟨af ⟨by omega,by omega,by simp;omega,.inl rfl⟩,?_⟩)|refine ⟨_,_,.tail _ (.head _),rfl,?_⟩|refine ⟨_,_,.there (.here _),aF,?_⟩);conv=>whnf)
    exact ⟨_,_,ar.cut (xs:=(T.map aT).flatten) (ys:=aT u) (.there (.there (.there (.there (.here _))))),_,(by omega),j+1,_,_,_,_,_,_,rfl,rfl,rfl,rfl,by omega,.inr ⟨b5,rfl,rfl⟩,A9,by rw [List.length_take];omega,by rw [Ss];exact jX⟩
  rw [drop_nil er,List.flatMap_nil,List.nil_append] at jX;(conv=>whnf);repeat (refine ⟨af ⟨by omega,by omega⟩,?_⟩;conv=>whnf)
  exact ⟨_,_,ar.refl _ _,_,(by omega),k+1,_,L3,_,_,_,_,rfl,rfl,rfl,rfl,by omega,Lb,qM,th,jX⟩
 rw [drop_nil aD,List.flatMap_nil,List.append_nil,List.take_of_length_le nZ] at iI;(conv=>whnf);skip;exact ⟨rfl,_,_,_,_,La,by rw [iI];exact my,List.Perm.refl _⟩
set_option maxHeartbeats 4000000 in
theorem Sw (E:sQ) (sk tk lk en:Nat) (hE:Gb E) (rest:List (List ao)) (IH:∀ us r,rest=us::r->Gc E sk tk lk en r):Gc E sk tk lk en rest:=by
 intro p T L tv sR lv kU lX hp hT hL B0 xw;obtain ⟨pre,hA,dN⟩:=lX;have dI:=hE.bE;have nY:=congrArg List.length hA;rw [List.length_append] at nY;have lZ:=hp.bE;have Ge:=hE.most;have W3:=hE.place;have tC:T.length+1<=aV:=by unfold aV;omega
 refine ay.post (R:=fun v h'=>v=.aQ []/\∃ sS rq qB pJ,wX T sS rq/\Row 7 cx ((L++cN E.toEnv rest p T).take (E.most+1)) qB pJ/\h'.Perm (HC E sk tk lk en sS qB++(rq++pJ))) ?_ ?_
 ·have wY:=hT;rcases hT with ⟨qb,rfl,rfl⟩|⟨b,rfl,rfl⟩
  ·have B1:T.length=0:=by rw [qb];rfl
   have hW:(L++cN E.toEnv rest p T).take (E.most+1)=(L++eR E.toEnv rest p T).take (E.most+1):=by unfold cN jy;rw [B1];rfl
   have gy:=hL;have jd:=xw;obtain ⟨L1,eQ⟩:∃ L1,L1=L:=⟨_,rfl⟩;rw [<- eQ] at gy jd;have hW:(L++cN E.toEnv rest p T).take (E.most+1)=(L1++eR E.toEnv rest p T).take (E.most+1):=(by rw [hW,eQ]);refine aG (F:=Tryz.f194) c194 rfl rfl rfl mixed rfl fun X=>?_;(conv=>whnf);repeat ((first|(refine aX (KV E.s p hE.sp hp) ?_)|refine ⟨_,_,.tail _ (.head _),rfl,?_⟩);conv=>whnf)
   refine cF rfl ?_;(conv=>whnf);skip;refine ⟨fun hz=>?_,fun hz=>?_⟩<;>simp only [decide_eq_true_eq,decide_eq_false_iff_not,List.length_map] at hz
   ·have hr:rest=[]:=List.eq_nil_of_length_eq_zero (by omega);rw [hr,show eR E.toEnv [] p T=[] from rfl,List.append_nil,List.take_of_length_le jd,<- hr] at hW;(conv=>whnf);exact ⟨rfl,_,_,_,_,wY,by rw [hW];exact gy,(by first|exact List.Perm.refl _|exact List.perm_append_comm (l₁:=[_]) (l₂:=[_,_,_,_,_]))⟩
   obtain ⟨us,ct,hr⟩:∃ us r,rest=us::r:=by
    cases rest with
    | nil=>simp at nY;omega
    | cons us r=>exact ⟨us,r,rfl⟩
   have ba:E.bP[T.length]?=some us:=by rw [hA,hr,<- dN];simp
   obtain ⟨xx,ig⟩:=hE.aj us (List.mem_of_getElem? ba);have IH:=IH us ct hr;have oU:eR E.toEnv rest p T=us.flatMap fun u=>(aU E.s p u).flatMap fun q=>cN E.toEnv ct q (T++[u]):=by rw [hr];rfl
   rw [oU] at hW;(conv=>whnf);repeat ((refine cj T.length (by first|rfl|omega) ba ?_);conv=>whnf)
   refine cy rfl mixed [1,2,5,9,10,11,12,55,56,57] [] (AG E sk tk lk en p T us ct ((L++cN E.toEnv rest p T).take (E.most+1))) ?_ (Gd E sk tk lk en hE p T us ct _ pre (by rw [hA,hr]) dN hp IH _ X);(conv=>whnf);exact ⟨_,_,ar.perm (by first|exact List.Perm.refl _|exact List.perm_append_comm (l₁:=[_]) (l₂:=[_,_,_,_,_])),_,0,_,L1,_,_,_,_,rfl,rfl,rfl,by first|rfl|omega,by omega,wY,gy,jd,hW⟩
  refine aG (F:=Tryz.f194) c194 rfl rfl rfl mixed rfl fun X=>?_;(conv=>whnf);repeat ((first|(refine aX (KV E.s p hE.sp hp) ?_)|refine ⟨_,_,.tail _ (.head _),rfl,?_⟩);conv=>whnf)
  refine ⟨fun hq=>?_,fun hq=>?_⟩
  ·have hq:(decide (0<(T.length:Int))&&ll E.s p)=true:=hq;have hh:jy E.toEnv p T=[oT E.toEnv p T]:=by unfold jy;rw [if_pos hq]
   have B2:T≠[]:=by intro h;rw [h] at hq;cases hq
   have W4:=B0 B2;obtain ⟨L1,eQ⟩:∃ L1,L1=L++[oT E.toEnv p T]:=⟨_,rfl⟩;have jd:L1.length<=E.most+1:=by rw [eQ,List.length_append,List.length_singleton];omega
   have hW:(L++cN E.toEnv rest p T).take (E.most+1)=(L1++eR E.toEnv rest p T).take (E.most+1):=by unfold cN;rw [hh,eQ,List.append_assoc]
   rcases hL with ⟨tg,rfl,rfl⟩|⟨tg,lb,rfl,rfl⟩
   ·(conv=>whnf);repeat ((first|refine aX (KT p.cl (by unfold aV;omega)) ?_|(refine ⟨_,_,.tail _ (.tail _ (.tail _ (.head _))),rfl,?_⟩)|refine ⟨_,_,.tail _ (.head _),rfl,?_⟩|refine And.intro (by show aJ (aH Tryz.f194 _) _=true;decide +kernel) ?_);conv=>whnf)
    refine Ef (ae.perm (h:=[(b,.vec (T.map aT).flatten)]) (h2:=HC E sk tk lk en (.aR b 0 T.length 2) .fM++[]) (St b T (by unfold aV;omega)) (List.perm_middle (l₁:=HC E sk tk lk en (.aR b 0 T.length 2) .fM) (l₂:=[])).symm) ?_;(conv=>whnf);repeat ((first|refine ⟨af ⟨by omega,by omega⟩,?_⟩|(refine ⟨_,_,.tail _ (.tail _ (.head _)),rfl,?_⟩)|(refine aX (KZ E.H ⟨⟨E.entry,E.ending,p.cl⟩,T⟩ hE.fit.lex hE.jc (by show p.cl.length<=aq;unfold aq;omega) hE.entry (by show T.length<=1048576;omega)) ?_)|(refine ⟨⟨Nat.le_of_ble_eq_true rfl,Nat.le_of_ble_eq_true rfl⟩,fun b4=>?_⟩)|(refine ⟨_,_,.there (.there (.there (.here _))),aF,?_⟩)|refine ⟨_,_,aK.here _,?_⟩|refine ⟨_,_,.here _,aF,?_⟩|refine And.intro (by show aJ (aH Tryz.f194 _) _=true;decide +kernel) ?_|intro (nb:Nat));conv=>whnf)
    have gy:Row 7 cx L1 (.aR b4 0 1 7) [(b4,.vec (cx (oT E.toEnv p T)++[]))]:=by rw [eQ,tg];exact .inr ⟨by simp,b4,rfl,by simp⟩
    refine ⟨fun hz=>?_,fun hz=>?_⟩<;>simp only [decide_eq_true_eq,decide_eq_false_iff_not,List.length_map] at hz
    ·have hr:rest=[]:=List.eq_nil_of_length_eq_zero (by omega);rw [hr,show eR E.toEnv [] p T=[] from rfl,List.append_nil,List.take_of_length_le jd,<- hr] at hW;(conv=>whnf);exact ⟨rfl,_,_,_,_,wY,by rw [hW];exact gy,(by first|exact List.Perm.refl _|exact List.perm_append_comm (l₁:=[_]) (l₂:=[_,_,_,_,_]))⟩
    obtain ⟨us,ct,hr⟩:∃ us r,rest=us::r:=by
     cases rest with
     | nil=>simp at nY;omega
     | cons us r=>exact ⟨us,r,rfl⟩
    have ba:E.bP[T.length]?=some us:=by rw [hA,hr,<- dN];simp
    obtain ⟨xx,ig⟩:=hE.aj us (List.mem_of_getElem? ba);have IH:=IH us ct hr;have oU:eR E.toEnv rest p T=us.flatMap fun u=>(aU E.s p u).flatMap fun q=>cN E.toEnv ct q (T++[u]):=by rw [hr];rfl
    rw [oU] at hW;(conv=>whnf);repeat (refine ix (by assumption) ?_;conv=>whnf)
    refine cy rfl mixed [1,2,5,9,10,11,12,55,56,57] [] (AG E sk tk lk en p T us ct ((L++cN E.toEnv rest p T).take (E.most+1))) ?_ (Gd E sk tk lk en hE p T us ct _ pre (by rw [hA,hr]) dN hp IH _ X);(conv=>whnf);exact ⟨_,_,ar.perm (by first|exact List.Perm.refl _|exact List.perm_append_comm (l₁:=[_]) (l₂:=[_,_,_,_,_])),_,0,_,L1,_,_,_,_,rfl,rfl,rfl,by first|rfl|omega,by omega,wY,gy,jd,hW⟩
   have zd:L.length+1<=aV:=by unfold aV;omega
   (conv=>whnf);repeat ((first|refine aX (KT p.cl (by unfold aV;omega)) ?_|(refine ⟨_,_,.tail _ (.tail _ (.tail _ (.head _))),rfl,?_⟩)|refine ⟨_,_,.tail _ (.head _),rfl,?_⟩|refine And.intro (by show aJ (aH Tryz.f194 _) _=true;decide +kernel) ?_);conv=>whnf)
   refine Ef (ae.perm (h:=[(b,.vec (T.map aT).flatten)]) (h2:=HC E sk tk lk en (.aR b 0 T.length 2) (.aR lb 0 L.length 7)++[(lb,.vec (L.map cx).flatten)]) (St b T (by unfold aV;omega)) (List.perm_middle (l₁:=HC E sk tk lk en (.aR b 0 T.length 2) (.aR lb 0 L.length 7)) (l₂:=[(lb,.vec (L.map cx).flatten)])).symm) ?_;(conv=>whnf);repeat ((first|refine ⟨af ⟨by omega,by omega⟩,?_⟩|(refine ⟨_,_,.tail _ (.tail _ (.head _)),rfl,?_⟩)|(refine aX (KZ E.H ⟨⟨E.entry,E.ending,p.cl⟩,T⟩ hE.fit.lex hE.jc (by show p.cl.length<=aq;unfold aq;omega) hE.entry (by show T.length<=1048576;omega)) ?_)|(refine ⟨_,.tail _ (.tail _ (.tail _ (.tail _ (.tail _ (.head _))))),⟨rL (fun _=>rfl),zd⟩,fun b4=>⟨_,.there (.there (.there (.there (.there (.here _))))),?_⟩⟩)|(refine ⟨_,_,.there (.there (.here _)),aF,?_⟩)|refine ⟨_,_,aK.here _,?_⟩|refine ⟨_,_,.here _,aF,?_⟩|refine And.intro (by show aJ (aH Tryz.f194 _) _=true;decide +kernel) ?_|intro (nb:Nat));conv=>whnf)
   have gy:Row 7 cx L1 (.aR b4 0 (L.length+1) 7) [(b4,.vec ((L.map cx).flatten++(cx (oT E.toEnv p T)++[])))]:=by rw [eQ];exact .inr ⟨by simp,b4,by rw [List.length_append];rfl,by rw [List.map_append,List.flatten_append];rfl⟩
   refine ⟨fun hz=>?_,fun hz=>?_⟩<;>simp only [decide_eq_true_eq,decide_eq_false_iff_not,List.length_map] at hz
   ·have hr:rest=[]:=List.eq_nil_of_length_eq_zero (by omega);rw [hr,show eR E.toEnv [] p T=[] from rfl,List.append_nil,List.take_of_length_le jd,<- hr] at hW;(conv=>whnf);exact ⟨rfl,_,_,_,_,wY,by rw [hW];exact gy,(by first|exact List.Perm.refl _|exact List.perm_append_comm (l₁:=[_]) (l₂:=[_,_,_,_,_]))⟩
   obtain ⟨us,ct,hr⟩:∃ us r,rest=us::r:=by
    cases rest with
    | nil=>simp at nY;omega
    | cons us r=>exact ⟨us,r,rfl⟩
   have ba:E.bP[T.length]?=some us:=by rw [hA,hr,<- dN];simp
   obtain ⟨xx,ig⟩:=hE.aj us (List.mem_of_getElem? ba);have IH:=IH us ct hr;have oU:eR E.toEnv rest p T=us.flatMap fun u=>(aU E.s p u).flatMap fun q=>cN E.toEnv ct q (T++[u]):=by rw [hr];rfl
   rw [oU] at hW;(conv=>whnf);repeat (refine ix (by assumption) ?_;conv=>whnf)
   refine cy rfl mixed [1,2,5,9,10,11,12,55,56,57] [] (AG E sk tk lk en p T us ct ((L++cN E.toEnv rest p T).take (E.most+1))) ?_ (Gd E sk tk lk en hE p T us ct _ pre (by rw [hA,hr]) dN hp IH _ X);(conv=>whnf);exact ⟨_,_,ar.perm (by first|exact List.Perm.refl _|exact List.perm_append_comm (l₁:=[_]) (l₂:=[_,_,_,_,_])),_,0,_,L1,_,_,_,_,rfl,rfl,rfl,by first|rfl|omega,by omega,wY,gy,jd,hW⟩
  have hq:(decide (0<(T.length:Int))&&ll E.s p)=false:=hq;have hh:jy E.toEnv p T=[]:=by unfold jy;rw [if_neg (by rw [hq];decide)]
  obtain ⟨L1,eQ⟩:∃ L1,L1=L:=⟨_,rfl⟩;have gy:=hL;have jd:=xw;rw [<- eQ] at gy jd;have hW:(L++cN E.toEnv rest p T).take (E.most+1)=(L1++eR E.toEnv rest p T).take (E.most+1):=by unfold cN;rw [hh,List.nil_append,eQ]
  (conv=>whnf);skip;refine ⟨fun hz=>?_,fun hz=>?_⟩<;>simp only [decide_eq_true_eq,decide_eq_false_iff_not,List.length_map] at hz
  ·have hr:rest=[]:=List.eq_nil_of_length_eq_zero (by omega);rw [hr,show eR E.toEnv [] p T=[] from rfl,List.append_nil,List.take_of_length_le jd,<- hr] at hW;(conv=>whnf);exact ⟨rfl,_,_,_,_,wY,by rw [hW];exact gy,(by first|exact List.Perm.refl _|exact List.perm_append_comm (l₁:=[_]) (l₂:=[_,_,_,_,_]))⟩
  obtain ⟨us,ct,hr⟩:∃ us r,rest=us::r:=by
   cases rest with
   | nil=>simp at nY;omega
   | cons us r=>exact ⟨us,r,rfl⟩
  have ba:E.bP[T.length]?=some us:=by rw [hA,hr,<- dN];simp
  obtain ⟨xx,ig⟩:=hE.aj us (List.mem_of_getElem? ba);have IH:=IH us ct hr;have oU:eR E.toEnv rest p T=us.flatMap fun u=>(aU E.s p u).flatMap fun q=>cN E.toEnv ct q (T++[u]):=by rw [hr];rfl
  rw [oU] at hW;(conv=>whnf);repeat (refine ix (by assumption) ?_;conv=>whnf)
  refine cy rfl mixed [1,2,5,9,10,11,12,55,56,57] [] (AG E sk tk lk en p T us ct ((L++cN E.toEnv rest p T).take (E.most+1))) ?_ (Gd E sk tk lk en hE p T us ct _ pre (by rw [hA,hr]) dN hp IH _ X);(conv=>whnf);exact ⟨_,_,ar.perm (by first|exact List.Perm.refl _|exact List.perm_append_comm (l₁:=[_]) (l₂:=[_,_,_,_,_])),_,0,_,L1,_,_,_,_,rfl,rfl,rfl,by first|rfl|omega,by omega,wY,gy,jd,hW⟩
 rintro v h1 ⟨rfl,sS,rq,qB,pJ,nX,tA,eH⟩;exact ⟨_,_,⟨rfl,sS,rq,qB,pJ,nX,tA,rfl⟩,ag.refl _,fun k o hm=>eH.mem_iff.2 hm,fun hn=>by unfold keys at hn ⊢;exact ((eH.map _).nodup_iff).1 hn⟩
theorem Sx (E:sQ) (sk tk lk en:Nat) (hE:Gb E):∀ rest,Gc E sk tk lk en rest
 | []=>Sw E sk tk lk en hE [] (fun us r h=>by cases h)
 | us::r=>Sw E sk tk lk en hE (us::r) (fun ze r' h=>by cases h;exact Sx E sk tk lk en hE r)
end Go.Abs.Wall
namespace Go.Abs.Wall
open Go Go.Abs Go.Proofs
abbrev B3:=Int × Int × Int × List Int × List ao
def Dn (w:cO):B3:=(w.aj.length,w.form.entry,w.form.ending,w.form.ah,w.aj)
def ny (a b:cO):Int:=fT [bN a.aj.length b.aj.length,bN a.form.entry b.form.entry,bN a.form.ending b.form.ending,cu bN a.form.ah b.form.ah,cu fl a.aj b.aj]
theorem zW:iX ny:=by
 have h:=(iX.jt zI (iX.jt zI (iX.jt zI (iX.jt zI.cu zU.cu)))).of Dn (fun a b h=>by
  obtain ⟨⟨a1,a2,a3⟩,a4⟩:=a;obtain ⟨⟨b1,b2,b3⟩,b4⟩:=b;unfold Dn at h;simp at h;simp [h])
 have he:ny=fun a b=>jt bN (jt bN (jt bN (jt (cu bN) (cu fl)))) (Dn a) (Dn b):=by
  funext a b;have h1:∀ x:Int,fT [x]=x:=fun x=>by simp only [fT];split<;>omega
  simp only [ny,jt,Dn];rw [fT,fT,fT,yN];rfl
 rw [he];exact h
def xy (a b:az):Int:=ny a.word b.word
theorem GR:oG xy:=⟨fun x=>zW.c.rP _,fun x y z=>zW.c.tr _ _ _,fun x y z=>zW.c.nt _ _ _⟩
def jZ (L:List az):List az:=ni xy L
def c138:aw:=⟨[0,1,4,5,6,7,8,9,10,11,12,19,28,35],[],[],[],[],[]⟩
def c244:aw:=⟨[0,1,2,6,7,8,9,10,11,12,13,14,21,31,38],[],[8,9],[],[],[]⟩
def c199:aw:=⟨[0,1,2,3,4],[],[],[],[(1,[0,1,2,3,4,5,6,7,8,9,10,11,12,13,14,15,16,17,18,19,20,21,22,23,24,25,26,27,28,29,30,31,32,33,34,35],[])],[]⟩
def c198:aw:=⟨[0,1,2,3,4],[],[],[],[],[]⟩
theorem RB (a b:List Int) (ha:a.length<=aq) (hb:b.length<=aq):ae Tryz.prog 138 [.sl 1 none (ints a),.sl 1 none (ints b)] [] (.int .i64 (cu bN a b)):=by
 unfold aq at ha hb;refine aG (F:=Tryz.f138) c138 rfl rfl rfl mixed rfl fun X=>?_;(conv=>whnf);refine bM rfl mixed [0,1,9,10,11] [] (fun m r h=>∃ (i:Nat),r=[(0,[],.sl 1 none (ints a)),(1,[],.sl 1 none (ints b)),(9,[],.sl 1 none (ints a)),(10,[],.int .i64 (ints a).length),(11,[],.int .i64 i)]/\h=[]/\m=a.length - i/\i<=a.length/\i<=b.length/\cu bN a b=cu bN (a.drop i) (b.drop i)) ?_ ?_
 ·(conv=>whnf);exact ⟨_,0,rfl,rfl,rfl,by omega,by omega,rfl⟩
 rintro m r h ⟨i,rfl,rfl,rfl,hi,hj,hg⟩;(conv=>whnf);refine ⟨fun aD=>?_,fun aD=>?_⟩<;>simp at aD
 ·obtain ⟨x,hx⟩:=aN aD;(conv=>whnf);repeat (refine ix (by assumption) ?_;conv=>whnf)
  refine ⟨fun hq=>?_,fun hq=>?_⟩<;>simp at hq
  ·rw [drop_cons hx,drop_nil hq,cu] at hg;(conv=>whnf);exact ⟨by rw [hg],rfl⟩
  obtain ⟨y,hy⟩:=aN hq;rw [drop_cons hx,drop_cons hy,cu] at hg;(conv=>whnf);repeat ((first|refine ix (by assumption) ?_|refine ae.k0 (zm _ _) ?_);conv=>whnf)
  refine ⟨fun hc=>?_,fun hc=>?_⟩<;>simp at hc
  ·rw [if_pos hc] at hg;(conv=>whnf);exact ⟨by rw [hg],rfl⟩
  rw [if_neg (by simpa using hc)] at hg;(conv=>whnf);repeat (refine ⟨af ⟨by omega,by omega⟩,?_⟩;conv=>whnf)
  exact ⟨_,by omega,i+1,rfl,rfl,rfl,by omega,by omega,hg⟩
 (conv=>whnf);skip;refine ⟨fun hq=>?_,fun hq=>?_⟩<;>simp at hq
 ·obtain ⟨y,hy⟩:=aN (show i<b.length by omega);rw [drop_nil aD,drop_cons hy,cu] at hg;(conv=>whnf);exact ⟨by rw [hg],rfl⟩
 rw [drop_nil aD,drop_nil (by omega),cu] at hg;(conv=>whnf);exact ⟨by rw [hg],rfl⟩
theorem B4 (a b:List ao) (ha:a.length<=aq) (hb:b.length<=aq):ae Tryz.prog 244 [.sl 2 none (a.map aT),.sl 2 none (b.map aT),.fn 220 []] [] (.int .i64 (cu fl a b)):=by
 unfold aq at ha hb;refine aG (F:=Tryz.f244) c244 rfl rfl rfl mixed rfl fun X=>?_;(conv=>whnf);refine bM rfl mixed [0,1,2,11,12,13] [] (fun m r h=>∃ (i:Nat),r=[(0,[],.sl 2 none (a.map aT)),(1,[],.sl 2 none (b.map aT)),(2,[],.fn 220 []),(11,[],.sl 2 none (a.map aT)),(12,[],.int .i64 (a.map aT).length),(13,[],.int .i64 i)]/\h=[]/\m=a.length - i/\i<=a.length/\i<=b.length/\cu fl a b=cu fl (a.drop i) (b.drop i)) ?_ ?_
 ·(conv=>whnf);exact ⟨_,0,rfl,rfl,rfl,by omega,by omega,rfl⟩
 rintro m r h ⟨i,rfl,rfl,rfl,hi,hj,hg⟩;(conv=>whnf);refine ⟨fun aD=>?_,fun aD=>?_⟩<;>simp at aD
 ·obtain ⟨x,hx⟩:=aN aD;(conv=>whnf);repeat ((first|refine ix (by assumption) ?_|refine ⟨_,_,aK.here _,⟨Nat.le_of_ble_eq_true rfl,rfl⟩,?_⟩|intro (nb:Nat));conv=>whnf)
  refine ⟨fun hq=>?_,fun hq=>?_⟩<;>simp at hq
  ·rw [drop_cons hx,drop_nil hq,cu] at hg;(conv=>whnf);exact ⟨by rw [hg],rfl⟩
  obtain ⟨y,hy⟩:=aN hq;rw [drop_cons hx,drop_cons hy,cu] at hg;(conv=>whnf);repeat ((first|refine ix (by assumption) ?_|refine ae.k0 (Sb _ _) ?_|refine ⟨_,_,aK.here _,⟨Nat.le_of_ble_eq_true rfl,rfl⟩,?_⟩|intro (nb:Nat));conv=>whnf)
  refine ⟨fun hc=>?_,fun hc=>?_⟩<;>simp at hc
  ·rw [if_pos hc] at hg;(conv=>whnf);exact ⟨by rw [hg],rfl⟩
  rw [if_neg (by simpa using hc)] at hg;(conv=>whnf);repeat (refine ⟨af ⟨by omega,by omega⟩,?_⟩;conv=>whnf)
  exact ⟨_,by omega,i+1,rfl,rfl,rfl,by omega,by omega,hg⟩
 (conv=>whnf);skip;refine ⟨fun hq=>?_,fun hq=>?_⟩<;>simp at hq
 ·obtain ⟨y,hy⟩:=aN (show i<b.length by omega);rw [drop_nil aD,drop_cons hy,cu] at hg;(conv=>whnf);exact ⟨by rw [hg],rfl⟩
 rw [drop_nil aD,drop_nil (by omega),cu] at hg;(conv=>whnf);exact ⟨by rw [hg],rfl⟩
structure od (w:cO):Prop where
 cl:w.form.ah.length<=1048576
 us:w.aj.length<=1048576
theorem B5 (a b:cO) (ha:od a) (hb:od b):ae Tryz.prog 199 [.agg (du a),.agg (du b)] [] (.int .i64 (ny a b)):=by
 have h1:=ha.cl;have h2:=ha.us;have h3:=hb.cl;have h4:=hb.us;refine aG (F:=Tryz.f199) c199 rfl rfl rfl mixed rfl fun X=>?_;(conv=>whnf);repeat ((first|refine aX (zm _ _) ?_|refine aX (RB a.form.ah b.form.ah (by unfold aq;omega) (by unfold aq;omega)) ?_|refine aX (B4 a.aj b.aj (by unfold aq;omega) (by unfold aq;omega)) ?_|refine aX (Bu [bN (a.aj.map aT).length (b.aj.map aT).length,bN a.form.entry b.form.entry,bN a.form.ending b.form.ending,cu bN a.form.ah b.form.ah,cu fl a.aj b.aj] (by simp [aq])) ?_|refine And.intro (by show aJ (aH Tryz.f199 _) _=true;decide +kernel) ?_);conv=>whnf)
 refine ⟨?_,rfl⟩;rw [List.length_map,List.length_map];rfl
theorem B6 (a b:az) (ha:od a.word) (hb:od b.word):ae Tryz.prog 198 [.agg (cx a),.agg (cx b)] [] (.int .i64 (xy a b)):=by
 refine aG (F:=Tryz.f198) c198 rfl rfl rfl mixed rfl fun X=>?_;(conv=>whnf);repeat (refine ae.k0 (B5 a.word b.word ha hb) ?_;conv=>whnf)
 exact ⟨rfl,rfl⟩
def Aw (l:List (List AV)):List Int:=l.map fun x=>match x with
 | [.int _ n]=>n
 | _=>0
theorem Rz (l:List Int):Aw (ints l)=l:=by unfold Aw ints;rw [List.map_map];exact (List.map_congr_left fun a _=>rfl).trans (List.map_id _)
def Sy:List AV->az
 | [.int _ a,.int _ b,.int _ c,.int _ e,.int _ n,.sl _ _ cl,.sl _ _ us]=>⟨a,b,c,⟨⟨e,n,Aw cl⟩,us.map FZ⟩⟩
 | _=>⟨0,0,0,⟨⟨0,0,[]⟩,[]⟩⟩
theorem B7 (e:az):Sy (cx e)=e:=by obtain ⟨a,b,c,⟨⟨f,n,cl⟩,us⟩⟩:=e;show az.mk a b c ⟨⟨f,n,Aw (ints cl)⟩,(us.map aT).map FZ⟩=_;rw [Rz,List.map_map,show us.map (FZ ∘ aT)=us from (List.map_congr_left fun a _=>rfl).trans (List.map_id _)]
theorem B8:yF Tryz.prog 197 198 7:=
 Kw Tryz.YL 7 198 Tryz.isAgg141 Tryz.sizeOf141 (fun args w=>AX ⟨Tryz.f198,_,rfl,rfl,rfl⟩)
def c197:aw:=⟨[0,1,4],[],[],[],[],[]⟩
def c243:aw:=⟨[0,1,2,3,4,10,11,12,13,14,15,16,17,18,19,20,25,32,39,56,75,80,97,125],[],[],[],[(17,[0,1,2,3,4,5,6,7,8,9,10,11,12,13,14,15,16],[])],[]⟩
def c264:aw:=⟨[0,1,2,3,8,9,14,34],[],[],[],[(4,[0,1,2,3,4,5,6,7,8,9,10,11,12,13,14,15,16],[]),(6,[0,1,2,3,4,5,6,7,8,9,10,11,12,13,14,15,16,17],[])],[]⟩
theorem B9 (c:FuncId):ae Tryz.prog 264 [.aW,.int .i64 0,.int .i64 0,.fn c []] [] (.aQ []):=by
 refine aG (F:=Tryz.f264) c264 rfl rfl rfl mixed rfl fun X=>?_;(conv=>whnf);repeat (refine ⟨af ⟨by omega,by omega⟩,?_⟩;conv=>whnf)
 refine bM rfl mixed [0,1,2,3,8] [] (fun m r h=>r=[(0,[],.aW),(1,[],.int .i64 0),(2,[],.int .i64 0),(3,[],.fn c []),(8,[],.int .i64 1)]/\h=[]/\m=0/\True) ?_ ?_
 ·(conv=>whnf);exact ⟨_,rfl,rfl,rfl,trivial⟩
 rintro m r h ⟨rfl,rfl,rfl,_⟩;(conv=>whnf);refine cF rfl ?_;(conv=>whnf);exact ⟨rfl,rfl⟩
theorem C0 (c:FuncId):ae Tryz.prog 243 [.aW,.int .i64 0,.int .i64 0,.int .i64 0,.fn c []] [] (.aQ []):=by
 refine aG (F:=Tryz.f243) c243 rfl rfl rfl mixed rfl fun X=>?_;(conv=>whnf);skip;refine bM rfl mixed [0,1,2,3,4,10,11] [] (fun m r h=>r=[(0,[],.aW),(1,[],.int .i64 0),(2,[],.int .i64 0),(3,[],.int .i64 0),(4,[],.fn c []),(10,[],.bool true),(11,[],.bool true)]/\h=[]/\m=0/\True) ?_ ?_
 ·(conv=>whnf);exact ⟨_,rfl,rfl,rfl,trivial⟩
 rintro m r h ⟨rfl,rfl,rfl,_⟩;(conv=>whnf);repeat (refine ⟨af ⟨by omega,by omega⟩,?_⟩;conv=>whnf)
 refine cT rfl ?_;(conv=>whnf);repeat (refine ae.k0 (B9 c) ?_;conv=>whnf)
 exact ⟨rfl,rfl⟩
theorem C1 (c:FuncId):ae Tryz.prog 197 [.fM,.fn c []] [] (.aQ []):=by
 refine ae.args (wJ:=[.aW,.fn c []]) ?_ (.cons (by intro c u h;simpa [aa] using h) (.cons (ag.refl _) .nil));refine aG (F:=Tryz.f197) c197 rfl rfl rfl mixed rfl fun X=>?_;(conv=>whnf);repeat ((first|refine ae.k0 (bitsLen) ?_|refine ae.k0 (C0 c) ?_);conv=>whnf)
 exact ⟨rfl,rfl⟩
theorem C4 (b:Nat) (xs:List az) (aI:xs≠[]) (iS:xs.length<=4294967296) (hf:∀ x∈xs,od x.word) (ha:∀ x∈xs,∀ y∈xs,x.word=y.word->x=y) :
  ay Tryz.prog 197 [.aR b 0 xs.length 7,.fn 198 []] [(b,.vec (xs.map cx).flatten)] (fun v h'=>v=.aQ []/\h'=[(b,.vec ((jZ xs).map cx).flatten)]):=
 KJ (by decide) ⟨Tryz.f197,_,rfl,rfl,rfl⟩ ⟨Tryz.f198,_,rfl,rfl,rfl⟩ B8 xy (dec:=Sy) B7 (fun a=>rfl) GR xs (fun x hx y hy h1 h2=>ha x hx y hy (zW.c.uu _ _ h1 h2)) aI iS (fun x hx y hy=>B6 x y (hf x hx) (hf y hy)) b
end Go.Abs.Wall
namespace Go.Abs.Wall
open Go Go.Abs Go.Proofs
structure Gf (v:cV):Prop where
 kind:1<=v.kind/\v.kind<=3
 text:1<=v.text.length/\v.text.length<=8
structure Gg (s:eA):Prop where
 bE:s.values.length<=12
 each:∀ v∈s.values,Gf v
structure C5 (l:Lst):Prop where
 many:l.aB.length<=200
 each:∀ s∈l.aB,Gg s
theorem C6 {k:Int} {s:List UInt8} (h:mU k s=true):1<=s.length/\s.length<=8:=by unfold mU at h;simp only [Bool.and_eq_true,decide_eq_true_eq] at h;exact h.1
theorem C7 {l:Lst} {b:List cV} {v:cV} (h:mr l b v=0):Gf v:=by
 unfold mr at h;split at h
 ·cases h
 rename_i h1;simp only [not_or,Bool.not_eq_false] at h1;have h2:=C6 h1.2.2;refine ⟨by omega,h2⟩
theorem Sz {l:Lst} {vs:List cV}:∀ {t:List cV} {i:Nat},qz l vs t i=0->∀ v∈t,Gf v
 | [],_,_,v,hv=>by cases hv
 | a::t,i,h,v,hv=>by
   unfold qz at h;split at h
   ·rename_i h1;exact absurd h h1
   rename_i h1;rcases List.mem_cons.1 hv with rfl|hv
   ·exact C7 (by simpa using h1)
   exact Sz h v hv
theorem C8 {l:Lst} {s:eA} (h:jP l s=0):Gg s:=by
 unfold jP at h;split at h
 ·cases h
 split at h
 ·cases h
 rename_i h1 h2;exact ⟨by omega,Sz h⟩
theorem SA {l:Lst}:∀ {t:List eA} {seen:List (List UInt8)},rm l t seen=0->∀ s∈t,Gg s
 | [],_,_,s,hs=>by cases hs
 | a::t,seen,h,s,hs=>by
   unfold rm at h;split at h
   ·cases h
   split at h
   ·rename_i h1;exact absurd h h1
   rename_i h1;rcases List.mem_cons.1 hs with rfl|hs
   ·exact C8 (by simpa using h1)
   exact SA h s hs
theorem rO {l:Lst} (h:kS l=0):C5 l:=by
 unfold kS at h;split at h
 ·cases h
 split at h
 ·cases h
 exact ⟨by omega,SA h⟩
theorem C9 {v:cV} (h:Gf v):∀ u∈jT v,gG u:=by
 intro u hu;have h1:=h.text;unfold jT at hu;split at hu
 ·simp at hu;rcases hu with rfl|rfl<;>exact ⟨by simp,by simp,h1.1,h1.2⟩
 split at hu
 ·simp at hu;subst hu;exact ⟨by simp,by simp,h1.1,h1.2⟩
 split at hu
 ·simp at hu;subst hu;exact ⟨by simp,by simp,h1.1,h1.2⟩
 cases hu
theorem SB {p:Int}:∀ {l:List cV} {u:ao},u∈jM p l->∃ v∈l,u∈jT v
 | [],u,h=>by cases h
 | v::t,u,h=>by
   unfold jM at h;rcases List.mem_append.1 h with h|h
   ·split at h
    ·exact ⟨v,by simp,h⟩
    cases h
   obtain ⟨w,hw,hu⟩:=SB h;exact ⟨w,by simp [hw],hu⟩
theorem Bm {p:Int} {s:eA} (h:Gg s):(nz p s).length<=24/\∀ u∈nz p s,gG u:=by
 refine ⟨?_,fun u hu=>?_⟩
 ·unfold nz tG;rw [rN];have:=Ga p s.values;have:=h.bE;omega
 unfold nz tG at hu;rw [HZ] at hu;obtain ⟨v,hv,hu⟩:=SB hu;exact C9 (h.each v hv) u hu
def wE (H:ax) (n:Int):eA:=H.list.aB.getD n.toNat ⟨[],0,0,false,[]⟩
def fg (H:ax) (n:Int):List ao:=nz H.period (wE H n)
def mA (H:ax) (line:List Int) (at_:Nat):List (List ao):=((line.drop at_).take 12).map (fg H)
def mS (x:Lex) (e n:Int):List UInt8:=if n<0 then (cd x e).root else (cd x e).root++(gT x n).text
def dt (H:ax) (at_:Nat) (e n:Int):Env:=⟨H,⟨H,cd H.lex e,mS H.lex e n⟩,at_,e,n⟩
def vP (x:Lex) (e n:Int):Bool:=decide (0<=n)&&!decide ((gT x n).kind=(cd x e).kind)
def gh (H:ax) (bP:List (List ao)) (at_:Nat) (e:Nat) (k:Nat):List az:=if vP H.lex e ((k:Int) - 1)=true then [] else cN (dt H at_ e ((k:Int) - 1)) bP fS []
def lY (H:ax) (bP:List (List ao)) (at_:Nat) (e:Nat):List az:=(List.range (H.lex.bL.length+1)).flatMap (gh H bP at_ e)
def ln (H:ax) (bP:List (List ao)) (at_:Nat):List az:=(List.range H.lex.entries.length).flatMap (lY H bP at_)
def vC (H:ax) (line:List Int) (at_ most:Nat):List az:=jZ ((ln H (mA H line at_) at_).take (most+1))
theorem uA {H:ax} {n:Int} (h0:0<=n) (h1:n<H.list.aB.length):H.list.aB[n.toNat]?=some (wE H n):=by have:n.toNat<H.list.aB.length:=(by omega);unfold wE;simp [List.getElem?_eq_getElem this]
def c151:aw:=⟨[0,1,2,3,6,8],[],[],[],[(3,[0,1,2,3,4,5,6,7,8,9,10,11,12,13],[])],[]⟩
theorem SC (x:Lex) (e n:Int) (hx:pI x) (h0:0<=e) (h1:e<x.entries.length) (hn:n<x.bL.length):ae Tryz.prog 151 [.agg (eV x),.int .i64 e,.int .i64 n] [] (.str (mS x e n)):=by
 have hr:=mR (hx.cd h0 h1).root;refine aG (F:=Tryz.f151) c151 rfl rfl rfl mixed rfl fun X=>?_;(conv=>whnf);refine ⟨fun hc=>?_,fun hc=>?_⟩<;>simp at hc
 ·(conv=>whnf);repeat ((refine cj e.toNat (by omega) (oB h0 h1) ?_);conv=>whnf)
  exact ⟨by rw [mS,if_pos hc],rfl⟩
 have ht:=mR (hx.gT hc hn).text;(conv=>whnf);repeat ((first|(refine cj e.toNat (by omega) (oB h0 h1) ?_)|(refine cj n.toNat (by omega) (AD hc hn) ?_)|(refine ⟨af (by rw [List.length_append];unfold aq;omega),?_⟩)|refine And.intro (by show aJ (aH Tryz.f151 _) _=true;decide +kernel) ?_);conv=>whnf)
 exact ⟨by rw [mS,if_neg (by omega)],rfl⟩
theorem zf (E:Env) (p:bg):jy E p []=[]:=rfl
structure vQ (H:ax) (at_:Int) (e:az):Prop where
 Dm:e.Dm=at_
 to:e.to=at_+e.word.aj.length
 cost:e.cost=iM H e.word
 bE:e.word.aj.length<=12
 cl:e.word.form.ah.length<=3
 some:1<=e.word.aj.length
theorem SD {E:Env} (hs:jx E.s):∀ (rest:List (List ao)) (p:bg) (T:List ao),jz E.s p->(∀ us∈rest,∀ u∈us,gG u)->T.length+rest.length<=12->∀ e∈eR E rest p T,vQ E.H E.at_ e
 | [],_,_,_,_,_,e,he=>by cases he
 | us::r,p,T,hp,hu,hl,e,he=>by
   unfold eR at he;rw [List.mem_flatMap] at he;obtain ⟨u,DO,he⟩:=he;rw [List.mem_flatMap] at he;obtain ⟨q,hq,he⟩:=he;have oc:=vO hs hp (hu us (by simp) u DO) q hq;rw [List.length_cons] at hl;rcases List.mem_append.1 he with he|he
   ·unfold jy at he;split at he
    ·cases List.mem_singleton.1 he
     exact ⟨rfl,rfl,rfl,by show (T++[u]).length<=12;rw [List.length_append,List.length_singleton];omega,oc.bE,by show 1<=(T++[u]).length;simp⟩
    cases he
   exact SD hs r q (T++[u]) oc (fun ze h'=>hu ze (by simp [h'])) (by rw [List.length_append,List.length_singleton];omega) e he
theorem zc {H:ax} (hH:ic H) {at_:Nat} {e n:Int} (h0:0<=e) (h1:e<H.lex.entries.length) (hn:n<H.lex.bL.length):jx (dt H at_ e n).s:=by
 have hr:=mR (hH.lex.cd h0 h1).root;refine ⟨hH.lex,?_,?_⟩
 ·show 1<=(mS H.lex e n).length/\(mS H.lex e n).length<=12;unfold mS;split
  ·omega
  have ht:=mR (hH.lex.gT (by omega) hn).text;rw [List.length_append];omega
 show (cd H.lex e).root.length<=(mS H.lex e n).length;unfold mS;split
 ·omega
 rw [List.length_append];omega
theorem SE {H:ax} (hH:ic H) {line:List Int} {at_:Nat} (hl:∀ s∈line,0<=s/\s<H.list.aB.length):(mA H line at_).length<=12/\∀ us∈mA H line at_,us.length<=1048576/\∀ u∈us,gG u:=by refine ⟨by unfold mA;simp;omega,fun us ba=>?_⟩;unfold mA at ba;obtain ⟨s,hs,rfl⟩:=List.mem_map.1 ba;have qc:=hl s (List.mem_of_mem_drop (List.mem_of_mem_take hs));have bf:=(rO hH.oV).each _ (List.mem_of_getElem? (uA qc.1 qc.2));have:=Bm (p:=H.period) bf;exact ⟨by unfold fg;omega,this.2⟩
theorem DP {H:ax} (hH:ic H) {bP:List (List ao)} (hf:bP.length<=12) (hu:∀ us∈bP,us.length<=1048576/\∀ u∈us,gG u) {at_:Nat}:∀ e∈ln H bP at_,vQ H at_ e:=by
 intro e he;unfold ln at he;rw [List.mem_flatMap] at he;obtain ⟨i,hi,he⟩:=he;unfold lY at he;rw [List.mem_flatMap] at he;obtain ⟨k,hk,he⟩:=he;rw [List.mem_range] at hi hk;unfold gh at he;split at he
 ·cases he
 unfold cN at he;rw [zf,List.nil_append] at he;exact SD (E:=dt H at_ i ((k:Int) - 1)) (zc hH (by omega) (by omega) (by omega)) bP fS [] (zg _) (fun us h=>(hu us h).2) (by simp;omega) e he
theorem Mm {H:ax} {at_:Int} {a b:az} (ha:vQ H at_ a) (hb:vQ H at_ b) (h:a.word=b.word):a=b:=by obtain ⟨f,t,c,w⟩:=a;obtain ⟨f',t',c',w'⟩:=b;have h:w=w':=h;subst h;have h1:=ha.Dm;have h2:=ha.to;have h3:=ha.cost;have h4:=hb.Dm;have h5:=hb.to;have h6:=hb.cost;simp only at h1 h2 h3 h4 h5 h6;rw [h1,h2,h3,h4,h5,h6]
theorem Bf {α:Type} {A C:List α} {m:Nat}:(A.take m++C).take m=(A++C).take m:=by have:=Ss (A:=A) (B:=[]) (C:=C) (m:=m);simpa using this
end Go.Abs.Wall
namespace Go.Abs.Wall
open Go Go.Abs Go.Proofs
theorem ay.cells {f:FuncId} {vs:List AV} {h h':ab} {b:Nat} {xs ys:List AV} {R:AV->ab->Prop} (hf:ay Tryz.prog f vs h' R) (hu:cH b (.vec xs) b (.vec ys) h h') (hv:cP xs ys):ay Tryz.prog f vs h R:=by
 have si:keys h'=keys h:=by
  clear hf;induction hu with
  | here l=>rfl
  | there _ ih=>simp only [keys,List.map_cons] at ih ⊢;rw [ih]
 have lg:∀ k o',(k,o')∈h'->(k,o')∈h\/(k=b/\o'=.vec ys/\(b,Ob.vec xs)∈h):=by
  clear hf si;induction hu with
  | here l=>intro k o' hm;cases List.mem_cons.1 hm with
    | inl e=>cases e;exact .inr ⟨rfl,rfl,by simp⟩
    | inr e=>exact .inl (by simp [e])
  | there _ ih=>intro k o' hm;cases List.mem_cons.1 hm with
    | inl e=>subst e;exact .inl (by simp)
    | inr e=>
      rcases ih k o' e with h1|⟨h1,h2,h3⟩
      ·exact .inl (by simp [h1])
      exact .inr ⟨h1,h2,by simp [h3]⟩
 have hlen:∀ {xs ys:List AV},cP xs ys->xs.length=ys.length/\∀ (i:Nat) y,ys[i]?=some y->∃ x,xs[i]?=some x/\ag x y:=by
  intro xs ys hv;induction hv with
  | nil=>exact ⟨rfl,fun i y h=>by cases h⟩
  | cons h1 _ ih=>
    refine ⟨by simp [ih.1],fun i y hi=>?_⟩;cases i with
    | zero=>cases hi;exact ⟨_,rfl,h1⟩
    | succ i=>exact ih.2 i y (by simpa using hi)
 refine ⟨fun X g w us hc hr=>?_⟩
 obtain ⟨c2,s2⟩:=hc.Ah si (fun k o' hm=>by
  rcases lg k o' hm with h1|⟨rfl,rfl,h2⟩
  ·exact hc.obj k o' h1
  obtain ⟨p,cc,t,q1,q2,q3,q4,q5,q6⟩:=hc.obj k (.vec xs) h2;obtain ⟨l,hg⟩:=hlen hv;refine ⟨p,cc,t,q1,q2,q3,q4,by rw [<- l];exact q5,fun i y hy=>?_⟩;obtain ⟨x,hx,oD⟩:=hg i y hy;obtain ⟨u,u1,u2,u3⟩:=q6 i x hx;exact ⟨u,u1,u2,oD _ _ u3⟩)
 refine (hf.1 X g w us c2 (av.mono (Step.le s2) _ _ hr)).mono fun e w' he=>?_;obtain ⟨v,u,g',h1,rfl,hR,eM,hu,hs⟩:=he;exact ⟨v,u,g',h1,rfl,hR,eM,hu,s2.trans hc.own hs⟩
theorem ar.sublist {r:aC} {h h':ab} (hs:h'.Sublist h):ar r h r h':=
 ar.sub (fun k o hm=>hs.subset hm) (fun hn=>by unfold keys at hn ⊢;exact hn.sublist (hs.map _))
def zL (A:List (List ao)):List (List AV):=A.map fD
def c133:aw:=⟨[0,1,2,3,4,6,7,8,9,11,12,13,14,15,16,17,25,26,27,28,40,41,42,43,52,68,82],[],[12,13,15],[],[(5,[0,1,2,3,4,5,6],[]),(13,[0,1,2,3,4,5,6,7,8,9,10,11,12,13],[]),(14,[0,1,2,3,4,5,6,7,8,9,10],[15])],[]⟩
set_option maxHeartbeats 2000000 in
theorem D0 (H:ax) (line:List Int) (at_ most:Nat) (hH:ic H) (gi:eP H) (AH:∀ s∈line,0<=s/\s<H.list.aB.length) (hlen:line.length<=1048576) (cR:at_<=line.length) (Ge:most<=1048575) :
  ay Tryz.prog 133 [.agg (bJ H),.sl 1 none (ints line),.int .i64 at_,.int .i64 most] [] (fun v h'=>∃ hp Z,Row 7 cx (vC H line at_ most) v hp/\h'=hp++Z):=by
 have D1:=rO hH.oV;have Sj:=hH.lex.many;obtain ⟨uq,ur⟩:=SE hH (line:=line) (at_:=at_) AH;obtain ⟨ru,Gi⟩:∃ ru,ru=(line.drop at_).take 12:=⟨_,rfl⟩;have W5:ru.length<=12:=by rw [Gi];simp;omega
 have D2:∀ s∈ru,0<=s/\s<H.list.aB.length:=fun s hs=>by rw [Gi] at hs;exact AH s (List.mem_of_mem_drop (List.mem_of_mem_take hs))
 have gn:((ints line).take (min ((ints line).length:Int) ((at_:Int)+12)).toNat).drop (at_:Int).toNat=ints ru:=by
  rw [Gi,dB];unfold ints;rw [<- List.map_take,<- List.map_drop,List.drop_take];congr 1;rw [show (at_:Int).toNat=at_ from rfl];by_cases hc:line.length<=at_+12
  ·rw [show (min (line.length:Int) ((at_:Int)+12)).toNat - at_=line.length - at_ by omega,List.take_of_length_le (by simp),List.take_of_length_le (by simp;omega)]
  rw [show (min (line.length:Int) ((at_:Int)+12)).toNat - at_=12 by omega]
 refine aG (F:=Tryz.f133) c133 rfl rfl rfl mixed rfl fun X=>?_;(conv=>whnf);intro lk;(conv=>whnf);intro ak;(conv=>whnf);repeat ((first|refine ⟨af ⟨by omega,by omega⟩,?_⟩|(refine ⟨af ⟨by omega,by rw [dB];omega,by rw [dB];omega⟩,?_⟩));conv=>whnf)
 rw [gn];refine cy rfl mixed [4,6,7,8,9,25,26,27] [] (fun m r h=>∃ (i:Nat) (v:AV) (hp:ab),r=[(4,[],.au (bJ H)),(6,[],.au [.int .i64 at_]),(7,[],.au [.int .i64 most]),(8,[],.bn lk 0),(9,[],.bn ak 0),(25,[],.sl 1 none (ints ru)),(26,[],.int .i64 (ints ru).length),(27,[],.int .i64 i)]/\h=(ak,.vec [v])::(lk,.vec [.aW])::hp/\m=ru.length - i/\i<=ru.length/\Out 1 fD ((ru.take i).map (fg H)) v hp) ?_ ?_
 ·(conv=>whnf);exact ⟨_,_,ar.refl _ _,_,0,_,_,rfl,rfl,rfl,by omega,.inl ⟨rfl,rfl,rfl⟩⟩
 rintro m r h' ⟨i,v,hp,rfl,rfl,rfl,hi,ho⟩;(conv=>whnf);refine ⟨fun aD=>?_,fun aD=>?_⟩<;>simp at aD
 ·obtain ⟨s,hs⟩:=aN aD;have qc:=D2 s (List.mem_of_getElem? hs);have mL:=uA qc.1 qc.2;have Ld:=(D1.each _ (List.mem_of_getElem? mL)).bE;have ch:=dg hs;rcases ho with ⟨he,rfl,rfl⟩|⟨q,rfl,rfl⟩
  all_goals
   (conv=>whnf);repeat ((first|refine ⟨af ⟨by omega,by omega⟩,?_⟩|refine ix (by assumption) ?_|(refine aX (KU H s (wE H s) qc.1 mL (by omega)) ?_)|(refine ⟨Nat.le_of_ble_eq_true rfl,fun q'=>?_⟩)|(refine ⟨(by simp;unfold aV;omega),fun q'=>⟨_,.there (.there (.here _)),?_⟩⟩)|refine ⟨_,_,.head _,rfl,?_⟩|refine ⟨_,_,.here _,aF,?_⟩|refine ⟨_,_,.there (.here _),aF,?_⟩|refine And.intro (by show aJ (aH Tryz.f133 _) _=true;decide +kernel) ?_);conv=>whnf)
   refine ⟨_,[(ak,.vec [.sl 1 (some q') (((ru.take (i+1)).map (fg H)).map fD)]),(lk,.vec [.aW]),(q',.tok)],?_,_,(by omega),i+1,_,[(q',.tok)],rfl,rfl,rfl,by omega,.inr ⟨q',rfl,rfl⟩⟩;rw [ch,List.map_append,List.map_append]
   first
    | (rw [he];exact ar.perm (List.perm_append_comm (l₁:=[_]) (l₂:=[_,_])))
    | exact ar.refl _ _
 rw [List.take_of_length_le aD] at ho;have D3:ru.map (fg H)=mA H line at_:=by rw [Gi];rfl
 rw [D3] at ho;obtain ⟨bP,zi⟩:∃ A,A=mA H line at_:=⟨_,rfl⟩;rw [<- zi] at ho uq ur;have Gj:vC H line at_ most=jZ ((ln H bP at_).take (most+1)):=by rw [zi];rfl
 (conv=>whnf);skip;refine cy rfl mixed [4,6,7,8,9,40,41,42] [] (fun m r h=>∃ (i:Nat) (lv:AV) (kU:ab),r=[(4,[],.au (bJ H)),(6,[],.au [.int .i64 at_]),(7,[],.au [.int .i64 most]),(8,[],.bn lk 0),(9,[],.au [.sl 1 none (bP.map fD)]),(40,[],.sl 4 none (H.lex.entries.map fu)),(41,[],.int .i64 (H.lex.entries.map fu).length),(42,[],.int .i64 i)]/\h=(lk,.vec [lv])::kU/\m=H.lex.entries.length - i/\i<=H.lex.entries.length/\Row 7 cx (((List.range i).flatMap (lY H bP at_)).take (most+1)) lv kU) ?_ ?_
 ·(conv=>whnf);refine ⟨_,_,?_,_,0,.fM,[],rfl,rfl,rfl,by omega,.inl ⟨by simp,rfl,rfl⟩⟩;refine ar.trans (ar.cells (.here _) (.cons (Out.le (by decide) ho) .nil)) ?_;refine ar.trans (ar.freeze (.here _) (kN.refl _) (.cons (.refl _) (.cons (.refl _) (.cons (.refl _) (.cons (.refl _) (.cons (.ptr rfl) (tX.refl _))))))) ?_;refine ar.trans (ar.cells (.here _) (.cons xC .nil)) (ar.sublist (.cons_cons _ (List.nil_sublist _)))
 clear ho;rintro m r h' ⟨i,lv,kU,rfl,rfl,rfl,hi,hr⟩;(conv=>whnf);refine ⟨fun aD=>?_,fun aD=>?_⟩<;>simp at aD
 ·obtain ⟨e,he⟩:=aN aD;have ra:e=cd H.lex i:=by have:=oB (x:=H.lex) (n:=(i:Int)) (by omega) (by omega);rw [show ((i:Int)).toNat=i from rfl,he] at this;exact Option.some.inj this
  subst ra;have W6:=(hH.lex.cd (n:=(i:Int)) (by omega) (by omega));(conv=>whnf);repeat ((first|refine ix (by assumption) ?_|(refine And.intro ⟨Nat.le_of_ble_eq_true rfl,rfl⟩ ?_)|refine ⟨_,_,aK.here _,⟨Nat.le_of_ble_eq_true rfl,rfl⟩,?_⟩|refine ⟨_,_,aK.there (.here _),?_⟩|refine ⟨_,_,.here _,aF,?_⟩|intro (nb:Nat));conv=>whnf)
  refine cy rfl mixed [4,6,7,8,9,12,13,14,40,41,42] [] (fun m r h=>∃ (k:Nat) (c:Int) (en:Nat) (lv:AV) (kU:ab),r=[(4,[],.au (bJ H)),(6,[],.au [.int .i64 at_]),(7,[],.au [.int .i64 most]),(8,[],.bn lk 0),(9,[],.au [.sl 1 none (bP.map fD)]),(12,[],.au [.int .i64 i]),(13,[],.au (fu (cd H.lex i))),(14,[],.bn en 0),(40,[],.sl 4 none (H.lex.entries.map fu)),(41,[],.int .i64 (H.lex.entries.map fu).length),(42,[],.int .i64 i)]/\h=(en,.vec [.int .i64 c])::(lk,.vec [lv])::kU/\m=H.lex.bL.length+1 - k/\c=(k:Int) - 1/\k<=H.lex.bL.length+1/\Row 7 cx (((List.range i).flatMap (lY H bP at_)++(List.range k).flatMap (gh H bP at_ i)).take (most+1)) lv kU) ?_ ?_
  ·(conv=>whnf);exact ⟨_,_,ar.refl _ _,_,0,-1,_,_,_,rfl,rfl,rfl,rfl,by omega,by simpa using hr⟩
  clear hr;rintro m r h' ⟨k,c,en,lv,kU,rfl,rfl,rfl,hc,hk,hr⟩;have bY:(List.range (k+1)).flatMap (gh H bP at_ i)=(List.range k).flatMap (gh H bP at_ i)++gh H bP at_ i k:=(by rw [List.range_succ,List.flatMap_append,List.flatMap_singleton]);(conv=>whnf);repeat (refine ⟨_,_,.head _,rfl,?_⟩;conv=>whnf)
  refine ⟨fun cI=>?_,fun cI=>?_⟩<;>simp at cI
  ·(conv=>whnf);repeat ((first|(refine qQ (⟨0,[],[],0⟩:lp) ?_ ?_;(focus (conv=>whnf;skip));(focus (intro g0;have g0:=of_decide_eq_true g0;show 0<=_/\_<_;omega)))|refine ⟨_,_,.head _,rfl,?_⟩|refine And.intro (by show aJ (aH Tryz.f133 _) _=true;decide +kernel) ?_);conv=>whnf)
   refine ⟨fun hs=>?_,fun hs=>?_⟩
   ·have hs:vP H.lex i c=true:=hs;have xD:gh H bP at_ i k=[]:=by unfold gh;rw [<- hc,if_pos hs]
    rw [xD,List.append_nil] at bY;(conv=>whnf);repeat ((first|refine ⟨af ⟨by omega,by omega⟩,?_⟩|refine ⟨_,_,.head _,rfl,?_⟩|refine ⟨_,_,.here _,aF,?_⟩|intro (nb:Nat));conv=>whnf)
    exact ⟨_,_,ar.sublist (.cons_cons _ (.cons _ (.cons_cons _ (List.Sublist.refl _)))),_,(by omega),k+1,_,_,_,_,rfl,rfl,rfl,by omega,by omega,by rw [bY];exact hr⟩
   have hs:vP H.lex i c=false:=hs;obtain ⟨E,AI⟩:∃ E:sQ,E=⟨dt H at_ i c,most,bP⟩:=⟨_,rfl⟩;have xD:gh H bP at_ i k=cN E.toEnv bP fS []:=by unfold gh;rw [<- hc,if_neg (by rw [hs];decide),AI]
   have hE:Gb E:=by rw [AI];exact ⟨hH,gi,zc hH (by omega) (by omega) (by omega),⟨by show (0:Int)<=i;omega,by show (i:Int)<H.lex.entries.length;omega⟩,⟨by show (0:Int)<=at_;omega,by show (at_:Int)<=1048576;omega⟩,by show most<=1048576;omega,uq,ur⟩
   (conv=>whnf);repeat ((first|refine aX (SC H.lex i c hH.lex (by omega) (by omega) (by omega)) ?_|refine ⟨_,_,aK.here _,?_⟩|refine ⟨_,_,.head _,rfl,?_⟩|refine ⟨_,_,.here _,aF,?_⟩|refine And.intro (by show aJ (aH Tryz.f133 _) _=true;decide +kernel) ?_|intro (nb:Nat));conv=>whnf)
   have aA:=fun sk tk=>Sx E sk tk lk en hE bP fS [] _ .fM [] lv kU ⟨[],by rw [AI];rfl,rfl⟩ (zg _) (.inl ⟨rfl,rfl,rfl⟩) hr (fun h=>absurd rfl h) (by rw [AI,List.length_take];show min (most+1) _<=most+1;omega);simp only [AI] at aA;refine ay.mono ?_ (ay.cells (ay.perm (ay.args (aA _ _) (.cons (ag.agg (.cons (ag.refl _) (.cons (ag.refl _) (.cons (ag.refl _) (.cons (ag.nil (by decide)) (.cons (ag.refl _) (.cons (ag.refl _) .nil))))))) (cP.refl _))) (.cons _ (.cons _ (.swap _ _ _)))) (.there (.here _)) (.cons xC .nil));rintro v h1 ⟨rfl,sS,rq,qB,pJ,W7,D4,rfl⟩;(conv=>whnf);repeat ((first|(refine ⟨_,_,.tail _ (.tail _ (.tail _ (.head _))),rfl,?_⟩)|(refine ⟨af (show -9223372036854775808<=c+1/\c+1<=9223372036854775807 by omega),?_⟩)|refine ⟨_,_,.head _,rfl,?_⟩|refine ⟨_,_,.here _,aF,?_⟩|intro (nb:Nat));conv=>whnf)
   have h9:Row 7 cx ((((List.range i).flatMap (lY H bP at_)++(List.range k).flatMap (gh H bP at_ i)).take (most+1)++cN (dt H at_ i c) bP fS []).take (most+1)) qB pJ:=D4;rw [Bf] at h9;exact ⟨_,_::(lk,.vec [qB])::pJ,ar.sublist (.cons_cons _ (.cons _ (.cons _ (.cons_cons _ (.cons _ (List.sublist_append_right rq pJ)))))),_,(by omega),k+1,_,_,_,_,rfl,rfl,rfl,(by show c+1=_;omega),by omega,by rw [bY,xD,AI];rw [List.append_assoc] at h9;exact h9⟩
  have KK:k=H.lex.bL.length+1:=(by omega);rw [KK] at hr;(conv=>whnf);repeat (refine ⟨af ⟨by omega,by omega⟩,?_⟩;conv=>whnf)
  exact ⟨_,_,ar.sublist (.cons _ (List.Sublist.refl _)),_,(by omega),i+1,_,_,rfl,rfl,rfl,by omega,by rw [List.range_succ,List.flatMap_append,List.flatMap_singleton];exact hr⟩
 have bO:i=H.lex.entries.length:=(by omega);rw [bO] at hr;have xw:((ln H bP at_).take (most+1)).length<=4294967296:=by rw [List.length_take];omega
 have xG:∀ e∈(ln H bP at_).take (most+1),vQ H at_ e:=fun e he=>DP hH uq ur e (List.mem_of_mem_take he);rcases hr with ⟨aI,rfl,rfl⟩|⟨aI,b,rfl,rfl⟩
 ·have aI:(ln H bP at_).take (most+1)=[]:=aI;(conv=>whnf);repeat ((first|refine ae.k0 (C1 _) ?_|refine ⟨_,_,.head _,rfl,?_⟩|refine ⟨_,_,.here _,aF,?_⟩);conv=>whnf)
  exact ⟨[],_,.inl ⟨by rw [Gj,aI];simp [jZ,ni],rfl,rfl⟩,rfl⟩
 have aI:(ln H bP at_).take (most+1)≠[]:=aI;(conv=>whnf);repeat (refine ⟨_,_,.head _,rfl,?_⟩;conv=>whnf)
 refine ay.mono ?_ (ay.perm (ay.frame (C4 b _ aI xw (fun x hx=>⟨by have:=(xG x hx).cl;omega,by have:=(xG x hx).bE;omega⟩) (fun x hx y hy=>Mm (xG x hx) (xG y hy))) _) (.swap _ _ _));rintro v h1 ⟨h2,⟨rfl,rfl⟩,rfl⟩;(conv=>whnf);repeat ((first|refine ⟨_,_,.tail _ (.head _),rfl,?_⟩|refine ⟨_,_,.there (.here _),aF,?_⟩);conv=>whnf)
 refine ⟨_,_,.inr ⟨?_,b,?_,rfl⟩,by rw [Gj];rfl⟩
 ·rw [Gj];intro h;have:=congrArg List.length h;rw [jZ,rN] at this;exact aI (List.eq_nil_of_length_eq_zero this)
 rw [Gj,jZ,rN];rfl
theorem Mr (H:ax) (line:List Int) (at_ most:Nat) (hH:ic H) (gi:eP H) (AH:∀ s∈line,0<=s/\s<H.list.aB.length) (hlen:line.length<=1048576) (cR:at_<=line.length) (Ge:most<=1048575) :
  ae Tryz.prog 133 [.agg (bJ H),.sl 1 none (ints line),.int .i64 at_,.int .i64 most] [] (.sl 7 none ((vC H line at_ most).map cx)):=Row.ok (by decide) (fun _=>rfl) (D0 H line at_ most hH gi AH hlen cR Ge)
end Go.Abs.Wall
