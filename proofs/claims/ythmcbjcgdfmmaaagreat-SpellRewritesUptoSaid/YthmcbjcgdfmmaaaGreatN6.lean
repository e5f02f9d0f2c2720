/- Small laws for the walks and contracts of functions; each theorem names its conditions. -/
import Derived.Test.YthmcbjcgdfmmaaaGreatN5
set_option maxRecDepth 100000
set_option maxHeartbeats 2000000
namespace Go.Abs.Wall
open Go Go.Abs Go.Proofs
def lS (s:Sp) (p:bU):List UInt8:=(dQ s p.cl).drop p.bX.length
def sI (s:Sp) (p:bU):Bool:=decide (p.bX.length=(dQ s p.cl).length)
def iY (cl:List Int):Int:=match cl.getLast? with
 | some c=>c+1
 | none=>0
def iK (p:bU) (u:az):List kU->Int->List bU
 | [],_=>[]
 | k::t,c=>(if fN k.text u.text=true then [⟨p.bX++u.text,p.closed,p.cl++[c],u⟩] else [])++iK p u t (c+1)
def lI (s:Sp) (p:bU) (u:az):List bU:=
 if lS s p≠[] then (if fN (lS s p) u.text=true then [⟨p.bX++u.text,p.closed,p.cl,u⟩] else [])
 else if p.cl.length<3 then iK p u (s.H.lex.ao.drop (iY p.cl).toNat) (iY p.cl) else []
theorem FD {s:Sp} {p:bU} (hp:kL s p):0<=iY p.cl/\iY p.cl<=s.H.lex.ao.length:=by
 unfold iY;cases h:p.cl.getLast? with
 | none=>simp
 | some c=>
   have:=hp.eh c (List.mem_of_getLast? h);simp only;omega
theorem SN (p:bU) (u:az):∀ (l:List kU) (c:Int),(iK p u l c).length<=l.length
 | [],_=>by simp [iK]
 | k::t,c=>by have:=SN p u t (c+1);unfold iK;rw [List.length_append,List.length_cons];split<;>simp<;>omega
def Out {α:Type} (k:Nat) (enc:α->List AV) (o:List α) (v:AV) (hp:af):Prop:=(o=[]/\v=.aS/\hp=[])\/∃ q,v=.sl k (some q) (o.map enc)/\hp=[(q,.tok)]
theorem Out.le {α:Type} {k:Nat} {enc:α->List AV} {o:List α} {v:AV} {hp:af} (hk:0<k) (h:Out k enc o v hp):aa v (.sl k none (o.map enc)):=by
 rcases h with ⟨rfl,rfl,rfl⟩|⟨q,rfl,rfl⟩
 ·exact aa.nil hk
 exact aa.sl
theorem uN {t:Option Nat} {cl:List Int} {c:Int}:aa (.sl 1 t (ints cl++[[.int .i64 c]])) (.sl 1 none (ints (cl++[c]))):=by rw [show ints (cl++[c])=ints cl++[[.int .i64 c]] by simp [ints]];exact aa.sl
theorem xS {v:AV} {p:bU} {u:az} {c:Int} (hv:aa v (.sl 1 none (ints (p.cl++[c])))):cu [.str (p.bX++u.text),.int .i64 0,.bool p.closed,v,.int .i64 u.kind,.str u.text] (jZ ⟨p.bX++u.text,p.closed,p.cl++[c],u⟩):=
 .cons (aa.refl _) (.cons (aa.refl _) (.cons (aa.refl _) (.cons hv (.cons (aa.refl _) (.cons (aa.refl _) .nil)))))
def c118:av:=⟨[0,1,2,4,5,6,7,8,9,10,11,16,20,38,61,77],[4],[],[],[(15,[0,1,2,3,4,5,6,7,8,9,10,11,12,13],[])],[]⟩
theorem D7 (s:Sp) (p:bU) (u:az) (hs:lW s) (hp:kL s p) (hu:u.text.length<=1048576) :
  ab Tryz.prog 118 [.ai (ri s),.agg (jZ p),.agg (aU u)] [] (.sl 6 none ((lI s p u).map jZ)):=by
 have hb:=hs.body;have dG:=hp.bB;have ej:=hp.bX;have SO:=hs.dQ hp.eh;have cM:(lS s p).length<=aq:=by unfold lS aq;rw [List.length_drop];omega
 have mc:u.text.length<=aq:=by unfold aq;omega
 have eQ:(p.bX++u.text).length<=aq:=by rw [List.length_append];unfold aq;omega
 have SP:=hs.lex.many.2.2;refine ab.of (aA (F:=Tryz.f118) c118 rfl rfl rfl mixed rfl fun X=>?_);(conv=>whnf);intro kp;(conv=>whnf);repeat ((first|refine ab.k0 (D6 s p hs hp) ?_|refine ⟨_,_,.head _,rfl,?_⟩);conv=>whnf)
 refine ⟨fun hc=>?_,fun hc=>?_⟩<;>simp only [Bool.not_eq_true',Bool.not_eq_false',decide_eq_true_eq,decide_eq_false_iff_not] at hc
 ·have hc:lS s p≠[]:=hc;have hm:lI s p u=if fN (lS s p) u.text=true then [⟨p.bX++u.text,p.closed,p.cl,u⟩] else []:=(by rw [lI,if_pos hc]);(conv=>whnf);repeat (refine ab.k0 (hasPrefix (lS s p) u.text cM mc) ?_;conv=>whnf)
  refine ⟨fun hq=>?_,fun hq=>?_⟩
  ·rw [if_pos hq] at hm;rw [hm];(conv=>whnf);repeat ((first|(refine ⟨ag eQ,?_⟩)|(refine ⟨Nat.le_of_ble_eq_true rfl,fun q=>?_⟩)|refine ⟨_,_,.head _,rfl,?_⟩|refine ⟨_,_,.here _,aI,?_⟩);conv=>whnf)
   exact aa.sl
  rw [if_neg (by rw [hq];decide)] at hm;rw [hm];(conv=>whnf);skip;exact aa.nil (by decide)
 have hc:lS s p=[]:=hc;have hm:lI s p u=if p.cl.length<3 then iK p u (s.H.lex.ao.drop (iY p.cl).toNat) (iY p.cl) else []:=(by rw [lI,if_neg (by simpa using hc)]);have jv:=FD hp;(conv=>whnf);repeat (refine ⟨_,_,.head _,rfl,?_⟩;conv=>whnf)
 refine ⟨fun hn=>?_,fun hn=>?_⟩<;>simp at hn
 ·obtain ⟨c,bq⟩:=aF (l:=p.cl) (i:=p.cl.length - 1) (by omega);have Y0:=hp.eh c (List.mem_of_getElem? bq);have hf:iY p.cl=c+1:=by unfold iY;rw [List.getLast?_eq_getElem?,bq]
  (conv=>whnf);repeat ((first|refine ⟨ag ⟨by omega,by omega⟩,?_⟩|(refine cp (p.cl.length - 1) (by simp [ints];omega) bq ?_)|(refine ⟨ag ⟨by simp [ints];omega,by simp [ints];omega⟩,?_⟩)|refine ⟨_,_,.head _,rfl,?_⟩);conv=>whnf)
  rw [<- hf];refine bD rfl mixed [0,4,5,6,10] [] (fun m r h=>∃ (c:Int) (o:List bU) (v:AV) (hD:af),r=[(0,[],.ai (ri s)),(4,[],.ba kp 0),(5,[],.ai (aU u)),(6,[],v),(10,[],.int .i64 c)]/\h=hD++[(kp,.vec (jZ p))]/\m=(s.H.lex.ao.length - c).toNat/\0<=c/\c<=s.H.lex.ao.length/\Out 6 jZ o v hD/\o.length<=c/\lI s p u=o++(if p.cl.length<3 then iK p u (s.H.lex.ao.drop c.toNat) c else [])) ?_ ?_
  ·(conv=>whnf);exact ⟨_,_,ah.refl _ _,_,iY p.cl,[],_,[],rfl,rfl,rfl,jv.1,jv.2,.inl ⟨rfl,rfl,rfl⟩,by simpa using jv.1,by rw [hm];rfl⟩
  rintro m r h' ⟨c,o,v,hD,rfl,rfl,rfl,lK,uG,hv,mL,bI⟩;have jt:o.length+1<=aN:=by have:=hs.lex.many;unfold aN;omega
  rcases hv with ⟨he,rfl,rfl⟩|⟨q,rfl,rfl⟩
  all_goals
   (conv=>whnf);repeat ((first|refine ⟨_,_,.head _,rfl,?_⟩|refine ⟨_,_,.tail _ (.head _),rfl,?_⟩);conv=>whnf)
   refine ⟨fun aG=>?_,fun aG=>?_⟩
   ·have dg:c<s.H.lex.ao.length/\p.cl.length<3:=by simp at aG;exact ⟨aG.1,by omega⟩
    have AR:=lP (hs.lex.cS lK dg.1).text;have bq:(cS s.H.lex c).text.length<=aq:=by unfold aq;omega
    rw [if_pos dg.2,drop_cons (kz lK dg.1),iK,show ((c.toNat:Nat)+1)=(c+1).toNat by omega] at bI;(conv=>whnf);repeat ((first|(refine cp c.toNat (by omega) (kz lK dg.1) ?_)|refine aY (hasPrefix (cS s.H.lex c).text u.text bq mc) ?_|refine And.intro (by show aJ (aH Tryz.f118 _) _=true;decide +kernel) ?_);conv=>whnf)
    refine ⟨fun hq=>?_,fun hq=>?_⟩<;>simp only [Bool.not_eq_true',Bool.not_eq_false'] at hq
    ·rw [if_neg (by rw [hq];decide),List.nil_append] at bI;(conv=>whnf);repeat (refine ⟨ag ⟨by omega,by omega⟩,?_⟩;conv=>whnf)
     refine ⟨_,_,ah.refl _ _,_,(by omega),c+1,o,_,_,rfl,rfl,rfl,by omega,by omega,?_,by omega,by rw [if_pos dg.2];exact bI⟩;first|exact .inl ⟨he,rfl,rfl⟩|exact .inr ⟨q,rfl,rfl⟩
    rw [if_pos hq] at bI;(conv=>whnf);repeat ((first|(refine ⟨_,_,.tail _ (.tail _ (.head _)),rfl,?_⟩)|refine ⟨_,_,.head _,rfl,?_⟩|refine ⟨_,_,.tail _ (.head _),rfl,?_⟩|refine ⟨_,_,.here _,aI,?_⟩|intro (nb:Nat));conv=>whnf)
    refine aw.mono ?_ (aw.frame (LY p.cl (by unfold aN;omega)) _);rintro v h1 ⟨h2,zk,rfl⟩;rcases zk with ⟨tf,rfl,rfl⟩|⟨q2,rfl,rfl⟩
    all_goals
     (conv=>whnf);repeat ((first|refine ⟨ag ⟨by omega,by omega⟩,?_⟩|(refine ⟨ag eQ,?_⟩)|(refine ⟨(by first|exact Nat.le_of_ble_eq_true rfl|(simp [ints,aN];omega)),fun q3=>?_⟩)|(refine ⟨_,.here _,?_⟩)|(refine ⟨_,.there (.there (.here _)),?_⟩)|refine ⟨_,_,.tail _ (.head _),rfl,?_⟩|refine ⟨_,_,.there (.here _),aI,?_⟩);conv=>whnf)
     refine ⟨[(0,[],.ai (ri s)),(4,[],.ba kp 0),(5,[],.ai (aU u)),(6,[],.sl 6 (some q3) ((o++[(⟨p.bX++u.text,p.closed,p.cl++[c],u⟩:bU)]).map jZ)),(10,[],.int .i64 (c+1))],[(q3,.tok),(kp,.vec (jZ p))],?_,_,(by omega),c+1,_,_,[(q3,.tok)],rfl,rfl,rfl,by omega,by omega,.inr ⟨_,rfl,rfl⟩,by simp;omega,by rw [if_pos dg.2,bI,List.append_assoc]⟩;refine ah.trans (ah.nD (.cons (aa.refl _) (.cons (aa.refl _) (.cons (aa.refl _) (.cons ?_ (gT.refl _)))))) (ah.sub ?_ ?_)
     ·first
       | (rw [he];exact aa.lH (.cons (xS uN) .nil))
       | (rw [he];refine aa.lH (.cons (xS ?_) .nil);have h9:=fun t=>uN (t:=t) (cl:=p.cl) (c:=c);rw [tf] at h9;exact h9 _)
       | (rw [List.map_append];exact aa.lH (gz.snoc (xS uN)))
       | (rw [List.map_append];refine aa.lH (gz.snoc (xS ?_));have h9:=fun t=>uN (t:=t) (cl:=p.cl) (c:=c);rw [tf] at h9;exact h9 _)
     ·intro k o hm;simp only [List.mem_cons,List.not_mem_nil,or_false] at hm;rcases hm with hm|hm<;>simp [hm]
     intro hn;simp [keys] at hn ⊢;simp [hn]
   have zZ:lI s p u=o:=by
    rw [bI];simp at aG;split
    ·rename_i h3;rw [drop_nil (by omega)];simp [iK]
    simp
   rw [zZ];(conv=>whnf);skip;first|exact Out.le (by decide) (.inl ⟨he,rfl,rfl⟩)|exact Out.le (by decide) (.inr ⟨q,rfl,rfl⟩)
 have hf:iY p.cl=0:=by rw [hn];rfl
 (conv=>whnf);skip;have Lz:(0:Int)=iY p.cl:=hf.symm;rw [Lz];refine bD rfl mixed [0,4,5,6,10] [] (fun m r h=>∃ (c:Int) (o:List bU) (v:AV) (hD:af),r=[(0,[],.ai (ri s)),(4,[],.ba kp 0),(5,[],.ai (aU u)),(6,[],v),(10,[],.int .i64 c)]/\h=hD++[(kp,.vec (jZ p))]/\m=(s.H.lex.ao.length - c).toNat/\0<=c/\c<=s.H.lex.ao.length/\Out 6 jZ o v hD/\o.length<=c/\lI s p u=o++(if p.cl.length<3 then iK p u (s.H.lex.ao.drop c.toNat) c else [])) ?_ ?_
 ·(conv=>whnf);exact ⟨_,_,ah.refl _ _,_,iY p.cl,[],_,[],rfl,rfl,rfl,jv.1,jv.2,.inl ⟨rfl,rfl,rfl⟩,by simpa using jv.1,by rw [hm];rfl⟩
 rintro m r h' ⟨c,o,v,hD,rfl,rfl,rfl,lK,uG,hv,mL,bI⟩;have jt:o.length+1<=aN:=by have:=hs.lex.many;unfold aN;omega
 rcases hv with ⟨he,rfl,rfl⟩|⟨q,rfl,rfl⟩
 all_goals
  (conv=>whnf);repeat ((first|refine ⟨_,_,.head _,rfl,?_⟩|refine ⟨_,_,.tail _ (.head _),rfl,?_⟩);conv=>whnf)
  refine ⟨fun aG=>?_,fun aG=>?_⟩
  ·have dg:c<s.H.lex.ao.length/\p.cl.length<3:=by simp at aG;exact ⟨aG.1,by omega⟩
   have AR:=lP (hs.lex.cS lK dg.1).text;have bq:(cS s.H.lex c).text.length<=aq:=by unfold aq;omega
   rw [if_pos dg.2,drop_cons (kz lK dg.1),iK,show ((c.toNat:Nat)+1)=(c+1).toNat by omega] at bI;(conv=>whnf);repeat ((first|(refine cp c.toNat (by omega) (kz lK dg.1) ?_)|refine aY (hasPrefix (cS s.H.lex c).text u.text bq mc) ?_|refine And.intro (by show aJ (aH Tryz.f118 _) _=true;decide +kernel) ?_);conv=>whnf)
   refine ⟨fun hq=>?_,fun hq=>?_⟩<;>simp only [Bool.not_eq_true',Bool.not_eq_false'] at hq
   ·rw [if_neg (by rw [hq];decide),List.nil_append] at bI;(conv=>whnf);repeat (refine ⟨ag ⟨by omega,by omega⟩,?_⟩;conv=>whnf)
    refine ⟨_,_,ah.refl _ _,_,(by omega),c+1,o,_,_,rfl,rfl,rfl,by omega,by omega,?_,by omega,by rw [if_pos dg.2];exact bI⟩;first|exact .inl ⟨he,rfl,rfl⟩|exact .inr ⟨q,rfl,rfl⟩
   rw [if_pos hq] at bI;(conv=>whnf);repeat ((first|(refine ⟨_,_,.tail _ (.tail _ (.head _)),rfl,?_⟩)|refine ⟨_,_,.head _,rfl,?_⟩|refine ⟨_,_,.tail _ (.head _),rfl,?_⟩|refine ⟨_,_,.here _,aI,?_⟩|intro (nb:Nat));conv=>whnf)
   refine aw.mono ?_ (aw.frame (LY p.cl (by unfold aN;omega)) _);rintro v h1 ⟨h2,zk,rfl⟩;rcases zk with ⟨tf,rfl,rfl⟩|⟨q2,rfl,rfl⟩
   all_goals
    (conv=>whnf);repeat ((first|refine ⟨ag ⟨by omega,by omega⟩,?_⟩|(refine ⟨ag eQ,?_⟩)|(refine ⟨(by first|exact Nat.le_of_ble_eq_true rfl|(simp [ints,aN];omega)),fun q3=>?_⟩)|(refine ⟨_,.here _,?_⟩)|(refine ⟨_,.there (.there (.here _)),?_⟩)|refine ⟨_,_,.tail _ (.head _),rfl,?_⟩|refine ⟨_,_,.there (.here _),aI,?_⟩);conv=>whnf)
    refine ⟨[(0,[],.ai (ri s)),(4,[],.ba kp 0),(5,[],.ai (aU u)),(6,[],.sl 6 (some q3) ((o++[(⟨p.bX++u.text,p.closed,p.cl++[c],u⟩:bU)]).map jZ)),(10,[],.int .i64 (c+1))],[(q3,.tok),(kp,.vec (jZ p))],?_,_,(by omega),c+1,_,_,[(q3,.tok)],rfl,rfl,rfl,by omega,by omega,.inr ⟨_,rfl,rfl⟩,by simp;omega,by rw [if_pos dg.2,bI,List.append_assoc]⟩;refine ah.trans (ah.nD (.cons (aa.refl _) (.cons (aa.refl _) (.cons (aa.refl _) (.cons ?_ (gT.refl _)))))) (ah.sub ?_ ?_)
    ·first
      | (rw [he];exact aa.lH (.cons (xS uN) .nil))
      | (rw [he];refine aa.lH (.cons (xS ?_) .nil);have h9:=fun t=>uN (t:=t) (cl:=p.cl) (c:=c);rw [tf] at h9;exact h9 _)
      | (rw [List.map_append];exact aa.lH (gz.snoc (xS uN)))
      | (rw [List.map_append];refine aa.lH (gz.snoc (xS ?_));have h9:=fun t=>uN (t:=t) (cl:=p.cl) (c:=c);rw [tf] at h9;exact h9 _)
    ·intro k o hm;simp only [List.mem_cons,List.not_mem_nil,or_false] at hm;rcases hm with hm|hm<;>simp [hm]
    intro hn;simp [keys] at hn ⊢;simp [hn]
  have zZ:lI s p u=o:=by
   rw [bI];simp at aG;split
   ·rename_i h3;rw [drop_nil (by omega)];simp [iK]
   simp
  rw [zZ];(conv=>whnf);skip;first|exact Out.le (by decide) (.inl ⟨he,rfl,rfl⟩)|exact Out.le (by decide) (.inr ⟨q,rfl,rfl⟩)
end Go.Abs.Wall
namespace Go.Abs.Wall
open Go Go.Abs Go.Proofs
def uO (s:Sp) (p:bU) (u:az):Bool:=!decide (p.last.kind=0)||!decide (u.text=s.e.root)
def Mb (p:bU):Bool:=decide (p.last.kind=2)||(decide (p.last.kind=1)&&decide (2<=(p.last.text.length:Int)))
def sq (p:bU) (u:az):Bool:=!Mb p||decide ((p.last.text.length:Int)<u.text.length)||!oT p.bX u.text
def Aa (s:Sp) (p:bU) (u:az):Bool:=p.closed||decide (s.e.cls=[])||!decide (u.text=s.e.cls)||decide (0<(p.cl.length:Int))||!decide ((p.bX.length:Int)=s.body.length)
def bk (s:Sp) (p:bU) (u:az):List bU:=
 if u.kind=1 then lI s p u
 else if u.kind=2 then (if uO s p u=true then [] else [⟨u.text,p.closed,p.cl,u⟩])
 else if u.kind=3 then (if sq p u=true then [] else [⟨p.bX,p.closed,p.cl,u⟩])
 else if u.kind=4 then (if Aa s p u=true then [] else [⟨p.bX,true,p.cl,u⟩])
 else []
def c78:av:=⟨[0,1,2,4,5,6,7,9,10,16,31,35,73,74,112],[4],[],[],[(6,[0,1,2,3,4,5,6,7,8,9,10,11,12,13],[]),(14,[0,1,2,3,4,5,6,7,8,9,10,11,12,13,14,15,16,17,18,19,20,21,22,23,24,25,26,27,28,29,30,31,32,33,34,35,36],[])],[]⟩
theorem D8 (s:Sp) (p:bU) (u:az) (hs:lW s) (hp:kL s p) (hu:u.text.length<=1048576) :
  ab Tryz.prog 78 [.ai (ri s),.agg (jZ p),.agg (aU u)] [] (.sl 6 none ((bk s p u).map jZ)):=by
 have hb:=hs.body;have dG:=hp.bB;have ej:=hp.bX;have SO:=hs.dQ hp.eh;have cM:p.bX.length<=aq:=by unfold aq;omega
 have mc:u.text.length<=aq:=by unfold aq;omega
 refine ab.of (aA (F:=Tryz.f78) c78 rfl rfl rfl mixed rfl fun X=>?_);(conv=>whnf);intro kp;(conv=>whnf);skip;refine ⟨fun h1=>?_,fun h1=>?_⟩<;>simp only [decide_eq_true_eq,decide_eq_false_iff_not] at h1
 ·have hm:bk s p u=lI s p u:=(by rw [bk,if_pos h1]);rw [hm];(conv=>whnf);repeat ((first|refine ab.k0 (D7 s p u hs hp hu) ?_|refine ⟨_,_,.head _,rfl,?_⟩);conv=>whnf)
  exact aa.refl _
 (conv=>whnf);skip;refine ⟨fun h2=>?_,fun h2=>?_⟩<;>simp only [decide_eq_true_eq,decide_eq_false_iff_not] at h2
 ·have hm:bk s p u=if uO s p u=true then [] else [⟨u.text,p.closed,p.cl,u⟩]:=(by rw [bk,if_neg h1,if_pos h2]);(conv=>whnf);repeat ((first|refine ⟨_,_,.head _,rfl,?_⟩|refine And.intro (by show aJ (aH Tryz.f78 _) _=true;decide +kernel) ?_);conv=>whnf)
  refine ⟨fun hq=>?_,fun hq=>?_⟩
  ·have hq:uO s p u=true:=hq;rw [hm,if_pos hq];(conv=>whnf);exact aa.nil (by decide)
  have hq:uO s p u=false:=hq;rw [hm,if_neg (by rw [hq];decide)];(conv=>whnf);repeat ((first|refine ⟨_,_,.head _,rfl,?_⟩|refine ⟨_,_,.here _,aI,?_⟩);conv=>whnf)
  exact aa.refl _
 (conv=>whnf);skip;refine ⟨fun h3=>?_,fun h3=>?_⟩<;>simp only [decide_eq_true_eq,decide_eq_false_iff_not] at h3
 ·have hm:bk s p u=if sq p u=true then [] else [⟨p.bX,p.closed,p.cl,u⟩]:=(by rw [bk,if_neg h1,if_neg h2,if_pos h3]);(conv=>whnf);repeat ((first|refine aY (hasSuffix p.bX u.text cM mc) ?_|refine ⟨_,_,.head _,rfl,?_⟩);conv=>whnf)
  refine ⟨fun hq=>?_,fun hq=>?_⟩
  ·have hq:sq p u=true:=hq;rw [hm,if_pos hq];(conv=>whnf);exact aa.nil (by decide)
  have hq:sq p u=false:=hq;rw [hm,if_neg (by rw [hq];decide)];(conv=>whnf);repeat ((first|refine ⟨_,_,.head _,rfl,?_⟩|refine ⟨_,_,.here _,aI,?_⟩);conv=>whnf)
  exact aa.refl _
 (conv=>whnf);skip;refine ⟨fun h4=>?_,fun h4=>?_⟩<;>simp only [decide_eq_true_eq,decide_eq_false_iff_not] at h4
 ·have hm:bk s p u=if Aa s p u=true then [] else [⟨p.bX,true,p.cl,u⟩]:=(by rw [bk,if_neg h1,if_neg h2,if_neg h3,if_pos h4]);(conv=>whnf);repeat ((first|refine ⟨_,_,.head _,rfl,?_⟩|refine And.intro (by show aJ (aH Tryz.f78 _) _=true;decide +kernel) ?_);conv=>whnf)
  refine ⟨fun hq=>?_,fun hq=>?_⟩
  ·have hq:(p.closed||decide (s.e.cls=[])||!decide (u.text=s.e.cls)||decide (0<((ints p.cl).length:Int))||!decide ((p.bX.length:Int)=s.body.length))=true:=hq;rw [cO] at hq;have hq:Aa s p u=true:=hq;rw [hm,if_pos hq];(conv=>whnf);exact aa.nil (by decide)
  have hq:(p.closed||decide (s.e.cls=[])||!decide (u.text=s.e.cls)||decide (0<((ints p.cl).length:Int))||!decide ((p.bX.length:Int)=s.body.length))=false:=hq;rw [cO] at hq;have hq:Aa s p u=false:=hq;rw [hm,if_neg (by rw [hq];decide)];(conv=>whnf);repeat ((first|refine ⟨_,_,.head _,rfl,?_⟩|refine ⟨_,_,.here _,aI,?_⟩);conv=>whnf)
  exact aa.refl _
 have hm:bk s p u=[]:=(by rw [bk,if_neg h1,if_neg h2,if_neg h3,if_neg h4]);rw [hm];(conv=>whnf);skip;exact aa.nil (by decide)
def kK (u:az):Prop:=1<=u.kind/\u.kind<=4/\1<=u.text.length/\u.text.length<=8
theorem SQ {t w:List UInt8} (h:fN t w=true):w.length<=t.length:=by unfold fN at h;simp only [Bool.and_eq_true,decide_eq_true_eq] at h;omega
theorem SR {s:Sp} {p:bU} {u:az} (hp:kL s p) (hu:kK u) (he:p.bX.length=(dQ s p.cl).length) (h3:p.cl.length<3):∀ (l:List kU) (c:Int),0<=c->s.H.lex.ao.drop c.toNat=l->∀ q∈iK p u l c,kL s q
 | [],_,_,_,q,hq=>by cases hq
 | k::t,c,h0,hd,q,hq=>by
   unfold iK at hq;have hk:s.H.lex.ao[c.toNat]?=some k:=by have:=congrArg (fun z=>z[0]?) hd;simpa using this
   have aP:=(List.getElem?_eq_some_iff.1 hk).1;have kE:s.H.lex.ao.drop (c+1).toNat=t:=by have:=congrArg List.tail hd;rw [show (c+1).toNat=c.toNat+1 by omega];simpa [List.tail_drop] using this
   rcases List.mem_append.1 hq with hq|hq
   ·split at hq
    ·rename_i hb;cases List.mem_singleton.1 hq
     have lD:(cS s.H.lex c)=k:=by have:=kz (x:=s.H.lex) h0 (by omega);rw [hk] at this;exact (Option.some.inj this).symm
     refine ⟨by simp;omega,fun d hd=>?_,?_,fun h=>?_⟩
     ·rcases List.mem_append.1 hd with hd|hd
      ·exact hp.eh d hd
      cases List.mem_singleton.1 hd;omega
     ·show (p.bX++u.text).length<=(dQ s (p.cl++[c])).length;rw [Bz,List.length_append,List.length_append,lD];have:=SQ hb;omega
     exact absurd h (by have:=hu.1;show ¬ u.kind=0;omega)
    cases hq
   exact SR hp hu he h3 t (c+1) (by omega) kE q hq
theorem D9 {s:Sp} {p:bU} {u:az} (hp:kL s p) (hu:kK u):∀ q∈lI s p u,kL s q:=by
 intro q hq;unfold lI at hq;split at hq
 ·split at hq
  ·rename_i hb;cases List.mem_singleton.1 hq
   have:=SQ hb;unfold lS at this;rw [List.length_drop] at this;refine ⟨hp.bB,hp.eh,?_,fun h=>absurd h (by have:=hu.1;show ¬ u.kind=0;omega)⟩;show (p.bX++u.text).length<=_;rw [List.length_append];have:=hp.bX;show _<=(dQ s p.cl).length;omega
  cases hq
 rename_i h0;split at hq
 ·rename_i h3;have he:p.bX.length=(dQ s p.cl).length:=by have h1:=hp.bX;simp only [ne_eq,Decidable.not_not] at h0;unfold lS at h0;rw [List.drop_eq_nil_iff] at h0;omega
  exact SR hp hu he h3 _ _ (FD hp).1 rfl q hq
 cases hq
theorem wC {s:Sp} {p:bU} {u:az} (hs:lW s) (hp:kL s p) (hu:kK u):∀ q∈bk s p u,kL s q:=by
 intro q hq;have hk:¬ u.kind=0:=by have:=hu.1;omega
 unfold bk at hq;split at hq
 ·exact D9 hp hu q hq
 split at hq
 ·split at hq
  ·cases hq
  rename_i hb;cases List.mem_singleton.1 hq
  rw [Bool.not_eq_true] at hb;unfold uO at hb;simp only [Bool.or_eq_false_iff,Bool.not_eq_false',decide_eq_true_eq] at hb;obtain ⟨h1,h2⟩:=hp.new hb.1;refine ⟨hp.bB,hp.eh,?_,fun h=>absurd h hk⟩;show u.text.length<=_;rw [hb.2];have:=hs.root;unfold dQ;rw [List.length_append];omega
 split at hq
 ·split at hq
  ·cases hq
  cases List.mem_singleton.1 hq
  exact ⟨hp.bB,hp.eh,hp.bX,fun h=>absurd h hk⟩
 split at hq
 ·split at hq
  ·cases hq
  cases List.mem_singleton.1 hq
  exact ⟨hp.bB,hp.eh,hp.bX,fun h=>absurd h hk⟩
 cases hq
def jj:bU:=⟨[],false,[],⟨0,[]⟩⟩
theorem Cb (s:Sp):kL s jj:=⟨by simp [jj],by simp [jj],by simp [jj],fun _=>⟨rfl,rfl⟩⟩
end Go.Abs.Wall
namespace Go.Abs.Wall
open Go Go.Abs Go.Proofs
structure eJ where
 form:br
 ay:List az
deriving DecidableEq
def cG (w:eJ):List AV:=dt w.form++[.sl 2 none (w.ay.map aU)]
def Ab (c:zY) (u:az):Int:=
 if u.kind=1 then c.spell else if u.kind=2 then c.De else if u.kind=3 then c.cV else if u.kind=4 then c.cls else 0
def sr (c:zY) (l:List az):Int:=(l.map (Ab c)).sum
def xT (l:List az):Bool:=l.any fun u=>decide (u.kind=4)
def vR (x:Lex) (f:br):Int:=if fC x f=0 then gE x f else 0
def nT (H:aD) (w:eJ):Int:=
 vR H.lex w.form+sr H.cC w.ay+(if (!xT w.ay&&!decide ((bY H.lex w.form.entry).cls=[]))=true then H.cC.oW else 0)
structure kc (H:aD):Prop where
 qy:ln H.list=0
 lex:pW H.lex
 cC:∀ c∈iq H.cC,0<=c/\c<=1000
 period:1<=H.period/\H.period<=H.list.iO
theorem vN {H:aD} (h:fA H=0):kc H:=by
 unfold fA at h;split at h
 ·rename_i h1;exact absurd h h1
 rename_i h1;split at h
 ·rename_i h2;exact absurd h h2
 rename_i h2;split at h
 ·cases h
 rename_i h3;split at h
 ·cases h
 rename_i h4;rw [Bool.not_eq_false,List.all_eq_true] at h3;rw [Bool.not_eq_false,dL] at h4;exact ⟨by omega,SC (by omega),fun c hc=>dL.1 (h3 c hc),h4⟩
theorem Mc {H:aD} (h:kc H) (u:az):0<=Ab H.cC u/\Ab H.cC u<=1000:=by
 have hc:=h.cC;unfold Ab;split
 ·exact hc _ (by simp [iq])
 split
 ·exact hc _ (by simp [iq])
 split
 ·exact hc _ (by simp [iq])
 split
 ·exact hc _ (by simp [iq])
 omega
theorem Dw {H:aD} (h:kc H):∀ l:List az,0<=sr H.cC l/\sr H.cC l<=1000*l.length
 | []=>by simp [sr]
 | u::l=>by have h1:=Dw h l;have h2:=Mc h u;unfold sr at h1 ⊢;simp only [List.map_cons,List.sum_cons,List.length_cons];omega
theorem SS {c:zY} {l:List az} {u:az}:sr c (l++[u])=sr c l+Ab c u:=by unfold sr;simp
theorem SU {l:List az} {u:az}:xT (l++[u])=(xT l||decide (u.kind=4)):=by unfold xT;simp
theorem Md {x:Lex} {f:br}:0<=vR x f/\vR x f<=5000:=by
 unfold vR;split
 ·rename_i h;exact (qF h).jP
 omega
theorem PZ {H:aD} (h:kc H) {w:eJ}:0<=nT H w/\nT H w<=6000+1000*w.ay.length:=by have h1:=Md (x:=H.lex) (f:=w.form);have h2:=Dw h w.ay;have h3:=h.cC H.cC.oW (by simp [iq]);unfold nT;split<;>omega
def c77:av:=⟨[0,1,2,3,4,5,7,9,19,20,21,22,26,27,34,41,48,69],[],[9],[],[],[]⟩
theorem SV (H:aD) (w:eJ) (hx:rT H.lex) (hH:kc H) (hf:w.form.ao.length<=aq) (he:0<=w.form.entry/\w.form.entry<H.lex.entries.length) (hu:w.ay.length<=1048576) :
  ab Tryz.prog 77 [.agg (aZ H),.agg (cG w)] [] (.int .i64 (nT H w)):=by
 have E0:=Md (x:=H.lex) (f:=w.form);have cR:=hH.cC H.cC.oW (by simp [iq]);refine aA (F:=Tryz.f77) c77 rfl rfl rfl mixed rfl fun X=>?_;(conv=>whnf);repeat (refine ab.k0 (PK H.lex w.form hx hf) ?_;conv=>whnf)
 refine bS rfl mixed [2,3,5,7,19,20,21] [] (fun m r h=>∃ (i:Nat) (n:Int) (cl:Bool),r=[(2,[],.ai (aZ H)),(3,[],.ai (cG w)),(5,[],.int .i64 n),(7,[],.bool cl),(19,[],.sl 2 none (w.ay.map aU)),(20,[],.int .i64 (w.ay.map aU).length),(21,[],.int .i64 i)]/\h=[]/\m=w.ay.length - i/\i<=w.ay.length/\n=vR H.lex w.form+sr H.cC (w.ay.take i)/\cl=xT (w.ay.take i)) ?_ ?_
 ·(conv=>whnf);exact ⟨_,0,vR H.lex w.form,false,rfl,rfl,rfl,by omega,by simp [sr],by simp [xT]⟩
 rintro m r h' ⟨i,n,cl,rfl,rfl,rfl,hi,hn,bq⟩;have hb:=Dw hH (w.ay.take i);rw [List.length_take] at hb;(conv=>whnf);refine ⟨fun aG=>?_,fun aG=>?_⟩<;>simp at aG
 ·obtain ⟨u,dK⟩:=aF aG;have ly:=cN dK;have eW:=Mc hH u;have fZ:=SS (c:=H.cC) (l:=w.ay.take i) (u:=u);have fl:=SU (l:=w.ay.take i) (u:=u);rw [<- ly] at fZ fl;unfold Ab at fZ eW;(conv=>whnf);repeat ((first|refine ix (by assumption) ?_|refine ⟨_,_,bj.here _,⟨Nat.le_of_ble_eq_true rfl,rfl⟩,?_⟩|intro (nb:Nat));conv=>whnf)
  refine ⟨fun hk=>?_,fun hk=>?_⟩<;>simp only [decide_eq_true_eq,decide_eq_false_iff_not] at hk
  ·rw [if_pos hk] at fZ eW;(conv=>whnf);repeat (refine ⟨ag ⟨by omega,by omega⟩,?_⟩;conv=>whnf)
   exact ⟨_,by omega,i+1,_,_,rfl,rfl,rfl,by omega,by rw [fZ,hn];show _+_=_;omega,by rw [fl,bq,decide_eq_false (by omega),Bool.or_false]⟩
  rw [if_neg hk] at fZ eW;(conv=>whnf);refine ⟨fun bg=>?_,fun bg=>?_⟩<;>simp only [decide_eq_true_eq,decide_eq_false_iff_not] at bg
  ·rw [if_pos bg] at fZ eW;(conv=>whnf);repeat (refine ⟨ag ⟨by omega,by omega⟩,?_⟩;conv=>whnf)
   exact ⟨_,by omega,i+1,_,_,rfl,rfl,rfl,by omega,by rw [fZ,hn];show _+_=_;omega,by rw [fl,bq,decide_eq_false (by omega),Bool.or_false]⟩
  rw [if_neg bg] at fZ eW;(conv=>whnf);refine ⟨fun jT=>?_,fun jT=>?_⟩<;>simp only [decide_eq_true_eq,decide_eq_false_iff_not] at jT
  ·rw [if_pos jT] at fZ eW;(conv=>whnf);repeat (refine ⟨ag ⟨by omega,by omega⟩,?_⟩;conv=>whnf)
   exact ⟨_,by omega,i+1,_,_,rfl,rfl,rfl,by omega,by rw [fZ,hn];show _+_=_;omega,by rw [fl,bq,decide_eq_false (by omega),Bool.or_false]⟩
  rw [if_neg jT] at fZ eW;(conv=>whnf);refine ⟨fun rj=>?_,fun rj=>?_⟩<;>simp only [decide_eq_true_eq,decide_eq_false_iff_not] at rj
  ·rw [if_pos rj] at fZ eW;(conv=>whnf);repeat (refine ⟨ag ⟨by omega,by omega⟩,?_⟩;conv=>whnf)
   exact ⟨_,by omega,i+1,_,_,rfl,rfl,rfl,by omega,by rw [fZ,hn];show _+_=_;omega,by rw [fl,decide_eq_true rj,Bool.or_true]⟩
  rw [if_neg rj] at fZ eW;(conv=>whnf);repeat (refine ⟨ag ⟨by omega,by omega⟩,?_⟩;conv=>whnf)
  exact ⟨_,by omega,i+1,_,_,rfl,rfl,rfl,by omega,by rw [fZ,hn];omega,by rw [fl,bq,decide_eq_false rj,Bool.or_false]⟩
 rw [List.take_of_length_le aG] at hn bq hb;(conv=>whnf);repeat ((refine cp w.form.entry.toNat (by omega) (nY he.1 he.2) ?_);conv=>whnf)
 refine ⟨fun hq=>?_,fun hq=>?_⟩
 ·have hq:(!cl&&!decide ((bY H.lex w.form.entry).cls=[]))=true:=hq;rw [bq] at hq;(conv=>whnf);repeat (refine ⟨ag ⟨by omega,by omega⟩,?_⟩;conv=>whnf)
  refine ⟨congrArg (AV.int .i64) ?_,rfl⟩;rw [nT,if_pos hq,hn]
 have hq:(!cl&&!decide ((bY H.lex w.form.entry).cls=[]))=false:=hq;rw [bq] at hq;(conv=>whnf);skip;refine ⟨congrArg (AV.int .i64) ?_,rfl⟩;rw [nT,if_neg (by rw [hq];decide),hn];omega
end Go.Abs.Wall
namespace Go.Abs.Wall
open Go Go.Abs Go.Proofs
structure ar where
 uL:Int
 to:Int
 cost:Int
 word:eJ
deriving DecidableEq
def bZ (e:ar):List AV:=[.int .i64 e.uL,.int .i64 e.to,.int .i64 e.cost]++cG e.word
def eD (us:List az):List AV:=[.sl 2 none (us.map aU)]
structure Env where
 H:aD
 s:Sp
 at_:Int
 entry:Int
 ending:Int
structure tI extends Env where
 most:Nat
 bV:List (List az)
def qm (E:Env) (p:bU) (T:List az):ar:=⟨E.at_,E.at_+T.length,nT E.H ⟨⟨E.entry,E.ending,p.cl⟩,T⟩,⟨⟨E.entry,E.ending,p.cl⟩,T⟩⟩
def mC (E:Env) (p:bU) (T:List az):List ar:=if (decide (0<(T.length:Int))&&sI E.s p)=true then [qm E p T] else []
def fU (E:Env):List (List az)->bU->List az->List ar
 | [],_,_=>[]
 | us::r,p,T=>us.flatMap fun u=>(bk E.s p u).flatMap fun q=>mC E q (T++[u])++fU E r q (T++[u])
def df (E:Env) (rest:List (List az)) (p:bU) (T:List az):List ar:=mC E p T++fU E rest p T
structure Hn (E:tI):Prop where
 ka:kc E.H
 fit:dx E.H
 sp:lW E.s
 entry:0<=E.entry/\E.entry<E.H.lex.entries.length
 place:0<=E.at_/\E.at_<=1048576
 most:E.most<=1048576
 bB:E.bV.length<=12
 ay:∀ us∈E.bV,us.length<=1048576/\∀ u∈us,kK u
def SX (E:tI) (sk tk lk en:Nat):List AV:=
 [.ba tk 0,.ai [.ai (ri E.s)],.ai [.int .i64 E.entry],.ba en 0,.ba lk 0,.ai [.int .i64 E.at_],.ai (aZ E.H),.ai [.sl 1 none (E.bV.map eD)],.ai [.int .i64 E.most],.ba sk 0]
def HC (E:tI) (sk tk lk en:Nat) (tv lv:AV):af:=[(sk,.vec [.fn 73 (SX E sk tk lk en)]),(tk,.vec [tv]),(lk,.vec [lv]),(en,.vec [.int .i64 E.ending])]
def xU (T:List az) (v:AV) (hp:af):Prop:=(T=[]/\v=.gu/\hp=[])\/∃ b,v=.aQ b 0 T.length 2/\hp=[(b,.vec (T.map aU).flatten)]
theorem SY {α:Type} {A B C:List α} {m:Nat}:((A++B).take m++C).take m=(A++(B++C)).take m:=by
 rw [<- List.append_assoc];by_cases h:(A++B).length<=m
 ·rw [List.take_of_length_le h]
 have h1:m<=(A++B).length:=(by omega);rw [List.take_append_of_le_length h1,List.take_append_of_le_length (by rw [List.length_take];omega),List.take_take,Nat.min_self]
theorem aw.perm {f:FuncId} {vs:List AV} {h h':af} {R:AV->af->Prop} (hf:aw Tryz.prog f vs h R) (hp:h.Perm h'):aw Tryz.prog f vs h' R:=
 aw.pre hf (fun k o hm=>hp.mem_iff.1 hm) (fun hn=>by unfold keys at hn ⊢;exact ((hp.map _).nodup_iff).2 hn)
theorem ab.perm {f:FuncId} {vs:List AV} {h h2 h':af} {v:AV} (hf:ab Tryz.prog f vs h v) (hp:(h++h2).Perm h'):ab Tryz.prog f vs h' v:=by refine aw.post (aw.perm (aw.frame hf h2) hp) ?_;rintro v' h1 ⟨h3,⟨rfl,rfl⟩,rfl⟩;exact ⟨_,h',⟨rfl,rfl⟩,aa.refl _,fun k o hm=>hp.mem_iff.2 hm,fun hn=>by unfold keys at hn ⊢;exact ((hp.map _).nodup_iff).1 hn⟩
theorem ah.perm {r:aC} {h h':af} (hp:h.Perm h'):ah r h r h':=
 ah.sub (fun k o hm=>hp.mem_iff.2 hm) (fun hn=>by unfold keys at hn ⊢;exact ((hp.map _).nodup_iff).1 hn)
theorem SZ (b:Nat) (l:List az) (hl:l.length<=aN):ab Tryz.prog 76 [.aQ b 0 l.length 2] [(b,.vec (l.map aU).flatten)] (.sl 2 none (l.map aU)):=by have:=B9 b l [] hl;rwa [List.append_nil] at this
theorem EU {s:Sp} (hs:lW s) (p:bU) (u:az):(bk s p u).length<=11:=by
 have h1:=hs.lex.many.2.2;unfold bk lI;repeat' split
 all_goals first|(simp;done)|(have h2:=SN p u (s.H.lex.ao.drop (iY p.cl).toNat) (iY p.cl);rw [List.length_drop] at h2;omega)
def Ho (E:tI) (sk tk lk en:Nat) (rest:List (List az)):Prop:=
 ∀ (p:bU) (T:List az) (L:List ar) (tv:AV) (tJ:af) (lv:AV) (lp:af),(∃ pre,E.bV=pre++rest/\pre.length=T.length)->kL E.s p->xU T tv tJ->Row 7 bZ L lv lp->(T≠[]->L.length<=E.most)->L.length<=E.most+1 ->
  aw Tryz.prog 73 (.agg (jZ p)::SX E sk tk lk en) (HC E sk tk lk en tv lv++(tJ++lp))
   (fun v h'=>v=.aB []/\∃ tK ss rk pY,xU T tK ss/\Row 7 bZ ((L++df E.toEnv rest p T).take (E.most+1)) rk pY/\h'=HC E sk tk lk en tK rk++(ss++pY))
def c73:av:=⟨[0,1,2,3,4,5,6,7,8,9,10,11,12,13,15,17,26,51,55,56,57,58,64,65,66,67,73],[],[13,15,17],[],[(3,[0,1,2,3,4,5,6,7,8,9,10],[13]),(4,[0,1,2,3,4,5,6,7,8,9,10,11,12],[])],[]⟩
def Ta (E:tI) (cr:List (List az)) (p:bU) (T:List az) (us:List az):List ar:=us.flatMap fun u=>(bk E.s p u).flatMap fun q=>df E.toEnv cr q (T++[u])
def BA (E:tI) (sk tk lk en:Nat) (p:bU) (T:List az) (us:List az) (cr:List (List az)) (W0:List ar) (m:Nat) (r:aC) (h:af):Prop:=
 ∃ (k:Nat) (n:Int) (L2:List ar) (tv:AV) (tJ:af) (lv:AV) (lp:af),r=[(1,[],.ba tk 0),(2,[],.ai [.ai (ri E.s)]),(5,[],.ba lk 0),(9,[],.ai [.int .i64 E.most]),(10,[],.ba sk 0),(11,[],.ai (jZ p)),(12,[],.int .i64 n),(55,[],.sl 2 none (us.map aU)),(56,[],.int .i64 (us.map aU).length),(57,[],.int .i64 k)]/\h=HC E sk tk lk en tv lv++(tJ++lp)/\m=us.length - k/\n=T.length/\k<=us.length/\xU T tv tJ/\Row 7 bZ L2 lv lp/\L2.length<=E.most+1/\W0=(L2++Ta E cr p T (us.drop k)).take (E.most+1)
def E1 (E:tI) (sk tk lk en:Nat) (T:List az) (W0:List ar) (v:AV) (h':af):Prop:=v=.aB []/\∃ tK ss rk pY,xU T tK ss/\Row 7 bZ W0 rk pY/\h'.Perm (HC E sk tk lk en tK rk++(ss++pY))
set_option maxHeartbeats 2000000 in
theorem Hp (E:tI) (sk tk lk en:Nat) (hE:Hn E) (p:bU) (T:List az) (us:List az) (cr:List (List az)) (W0:List ar) (pre:List (List az)) (hA:E.bV=pre++us::cr) (cM:pre.length=T.length) (hp:kL E.s p) (IH:Ho E sk tk lk en cr) (kk:Nat) (X:Nat->Prop) :
  ∀ m r h,BA E sk tk lk en p T us cr W0 m r h->run Tryz.prog c73 Tryz.f73 ⟨Tryz.f73.ntmps,X,DS Tryz.prog Tryz.f73 (E1 E sk tk lk en T W0)⟩ (kk+3900) (.go [false,false,true,true,true,true,true]) [.head (mn [1,2,5,9,10,11,12,55,56,57] [] (Bk fun r h=>∃ m',m'<m/\BA E sk tk lk en p T us cr W0 m' r h)),.aT 0] r h:=by
 have dG:=hE.bB;have oJ:=congrArg List.length hA;rw [List.length_append,List.length_cons] at oJ;have kN:=hp.bB;have Hq:=hE.most;have ug:T.length+1<=aN:=by unfold aN;omega
 have bd:E.bV[T.length]?=some us:=by rw [hA,<- cM];simp
 obtain ⟨yp,qo⟩:=hE.ay us (List.mem_of_getElem? bd);rintro m r h' ⟨k,n,L2,tv,tJ,lv,lp,rfl,rfl,rfl,hn,hk,Me,mD,oK,iT⟩;unfold Ta at iT;(conv=>whnf);refine ⟨fun aG=>?_,fun aG=>?_⟩<;>simp at aG
 ·obtain ⟨u,hu⟩:=aF aG;have qp:=qo u (List.mem_of_getElem? hu);rw [drop_cons hu,List.flatMap_cons] at iT;have cz:=wC hE.sp hp qp;have gx:=EU hE.sp p u;(conv=>whnf);repeat ((first|refine ix (by assumption) ?_|refine ab.k0 (D8 E.s p u hE.sp hp (by have:=qp.2.2.2;omega)) ?_|refine ⟨_,_,bj.here _,⟨Nat.le_of_ble_eq_true rfl,rfl⟩,?_⟩|intro (nb:Nat));conv=>whnf)
  refine bD rfl mixed [1,2,5,9,10,11,12,15,55,56,57,64,65,66] [] (fun m r h=>∃ (j:Nat) (n:Int) (L3:List ar) (tv:AV) (tJ:af) (lv:AV) (lp:af),r=[(1,[],.ba tk 0),(2,[],.ai [.ai (ri E.s)]),(5,[],.ba lk 0),(9,[],.ai [.int .i64 E.most]),(10,[],.ba sk 0),(11,[],.ai (jZ p)),(12,[],.int .i64 n),(15,[],.ai (aU u)),(55,[],.sl 2 none (us.map aU)),(56,[],.int .i64 (us.map aU).length),(57,[],.int .i64 k),(64,[],.sl 6 none ((bk E.s p u).map jZ)),(65,[],.int .i64 ((bk E.s p u).map jZ).length),(66,[],.int .i64 j)]/\h=HC E sk tk lk en tv lv++(tJ++lp)/\m=(bk E.s p u).length - j/\n=T.length/\j<=(bk E.s p u).length/\xU T tv tJ/\Row 7 bZ L3 lv lp/\L3.length<=E.most+1/\W0=(L3++(((bk E.s p u).drop j).flatMap (fun q=>df E.toEnv cr q (T++[u]))++(us.drop (k+1)).flatMap fun u=>(bk E.s p u).flatMap fun q=>df E.toEnv cr q (T++[u]))).take (E.most+1)) ?_ ?_
  ·(conv=>whnf);exact ⟨_,_,ah.refl _ _,_,0,n,L2,_,_,_,_,rfl,rfl,rfl,hn,by omega,Me,mD,oK,iT⟩
  clear Me mD oK iT;rintro m r h' ⟨j,n,L3,tv,tJ,lv,lp,rfl,rfl,rfl,rfl,hj,Mf,rC,tX,kd⟩;(conv=>whnf);refine ⟨fun eI=>?_,fun eI=>?_⟩<;>simp at eI
  ·obtain ⟨q,hq⟩:=aF eI;have oL:=cz q (List.mem_of_getElem? hq);rw [drop_cons hq,List.flatMap_cons,List.append_assoc] at kd;have E2:=Mf;have rD:=rC;rcases Mf with ⟨Tb,rfl,rfl⟩|⟨b3,rfl,rfl⟩<;>rcases rC with ⟨rE,rfl,rfl⟩|⟨rE,l3,rfl,rfl⟩
   all_goals
    (conv=>whnf);repeat ((first|refine ix (by assumption) ?_|(refine ⟨_,_,.tail _ (.tail _ (.head _)),rfl,?_⟩)|refine ⟨_,_,bj.here _,⟨Nat.le_of_ble_eq_true rfl,rfl⟩,?_⟩|intro (nb:Nat));conv=>whnf)
    refine ⟨fun bx=>?_,fun bx=>?_⟩<;>simp only [decide_eq_true_eq,decide_eq_false_iff_not] at bx
    ·have ke:E.most+1<=L3.length:=(by first|omega|(rw [rE];simp;omega));rw [List.take_append_of_le_length ke,List.take_of_length_le tX] at kd;(conv=>whnf);exact ⟨rfl,_,_,_,_,E2,by rw [kd];exact rD,List.Perm.refl _⟩
    have ke:L3.length<=E.most:=(by first|omega|(rw [rE];simp));(conv=>whnf);repeat ((first|(refine ⟨⟨Nat.le_of_ble_eq_true rfl,Nat.le_of_ble_eq_true rfl⟩,fun b4=>?_⟩)|(refine ⟨_,.tail _ (.tail _ (.tail _ (.tail _ (.head _)))),⟨qq (fun _=>rfl),ug⟩,fun b4=>⟨_,.there (.there (.there (.there (.here _)))),?_⟩⟩)|(refine ⟨_,_,.there (.there (.here _)),aI,?_⟩)|refine ⟨_,_,.head _,rfl,?_⟩|refine ⟨_,_,.tail _ (.head _),rfl,?_⟩|refine ⟨_,_,.there (.here _),aI,?_⟩);conv=>whnf)
    first
     | (have Mg:xU (T++[u]) (.aQ b4 0 1 2) [(b4,.vec (aU u++[]))]:=.inr ⟨b4,by rw [Tb];rfl,by rw [Tb];rfl⟩
        refine aw.mono ?_ (aw.perm (IH q (T++[u]) L3 _ _ _ _ ⟨pre++[us],by rw [hA];simp,by simp [cM]⟩ oL Mg rD (fun _=>ke) tX) (List.perm_middle (l₁:=HC E sk tk lk en (.aQ b4 0 1 2) _))))
     | (have Mg:xU (T++[u]) (.aQ b4 0 (T.length+1) 2) [(b4,.vec ((T.map aU).flatten++(aU u++[])))]:=.inr ⟨b4,by rw [List.length_append];rfl,by rw [List.map_append,List.flatten_append];rfl⟩
        refine aw.mono ?_ (aw.perm (IH q (T++[u]) L3 _ _ _ _ ⟨pre++[us],by rw [hA];simp,by simp [cM]⟩ oL Mg rD (fun _=>ke) tX) (List.Perm.refl _)))
    rintro v h1 ⟨rfl,Y1,Y2,Y3,Y4,E3,E4,rfl⟩;have cY:((T++[u]).map aU).flatten=(T.map aU).flatten++aU u:=(by simp);rcases E3 with ⟨e5,_,_⟩|⟨b5,rfl,Tc⟩
    ·simp at e5
    rw [cY] at Tc;subst Tc;(conv=>whnf);repeat ((first|refine ⟨ag ⟨by omega,by omega⟩,?_⟩|(refine ⟨ag ⟨by omega,by omega,by simp;omega,.inl rfl⟩,?_⟩)|refine ⟨_,_,.tail _ (.head _),rfl,?_⟩|refine ⟨_,_,.there (.here _),aI,?_⟩);conv=>whnf)
    exact ⟨_,_,ah.cut (xs:=(T.map aU).flatten) (ys:=aU u) (.there (.there (.there (.there (.here _))))),_,(by omega),j+1,_,_,_,_,_,_,rfl,rfl,rfl,rfl,by omega,.inr ⟨b5,rfl,rfl⟩,E4,by rw [List.length_take];omega,by rw [SY];exact kd⟩
  rw [drop_nil eI,List.flatMap_nil,List.nil_append] at kd;(conv=>whnf);repeat (refine ⟨ag ⟨by omega,by omega⟩,?_⟩;conv=>whnf)
  exact ⟨_,_,ah.refl _ _,_,(by omega),k+1,_,L3,_,_,_,_,rfl,rfl,rfl,rfl,by omega,Mf,rC,tX,kd⟩
 rw [drop_nil aG,List.flatMap_nil,List.append_nil,List.take_of_length_le oK] at iT;(conv=>whnf);skip;exact ⟨rfl,_,_,_,_,Me,by rw [iT];exact mD,List.Perm.refl _⟩
set_option maxHeartbeats 4000000 in
theorem Td (E:tI) (sk tk lk en:Nat) (hE:Hn E) (rest:List (List az)) (IH:∀ us r,rest=us::r->Ho E sk tk lk en r):Ho E sk tk lk en rest:=by
 intro p T L tv tJ lv lp oI hp hT hL E5 yo;obtain ⟨pre,hA,cM⟩:=oI;have dG:=hE.bB;have oJ:=congrArg List.length hA;rw [List.length_append] at oJ;have kN:=hp.bB;have Hq:=hE.most;have Qh:=hE.place;have ug:T.length+1<=aN:=by unfold aN;omega
 refine aw.post (R:=fun v h'=>v=.aB []/\∃ tK ss rk pY,xU T tK ss/\Row 7 bZ ((L++df E.toEnv rest p T).take (E.most+1)) rk pY/\h'.Perm (HC E sk tk lk en tK rk++(ss++pY))) ?_ ?_
 ·have xV:=hT;rcases hT with ⟨qD,rfl,rfl⟩|⟨b,rfl,rfl⟩
  ·have E6:T.length=0:=by rw [qD];rfl
   have hW:(L++df E.toEnv rest p T).take (E.most+1)=(L++fU E.toEnv rest p T).take (E.most+1):=by unfold df mC;rw [E6];rfl
   have gL:=hL;have ji:=yo;obtain ⟨L1,fg⟩:∃ L1,L1=L:=⟨_,rfl⟩;rw [<- fg] at gL ji;have hW:(L++df E.toEnv rest p T).take (E.most+1)=(L1++fU E.toEnv rest p T).take (E.most+1):=(by rw [hW,fg]);refine aA (F:=Tryz.f73) c73 rfl rfl rfl mixed rfl fun X=>?_;(conv=>whnf);repeat ((first|(refine aY (SM E.s p hE.sp hp) ?_)|refine ⟨_,_,.tail _ (.head _),rfl,?_⟩);conv=>whnf)
   refine cF rfl ?_;(conv=>whnf);skip;refine ⟨fun hz=>?_,fun hz=>?_⟩<;>simp only [decide_eq_true_eq,decide_eq_false_iff_not,List.length_map] at hz
   ·have hr:rest=[]:=List.eq_nil_of_length_eq_zero (by omega);rw [hr,show fU E.toEnv [] p T=[] from rfl,List.append_nil,List.take_of_length_le ji,<- hr] at hW;(conv=>whnf);exact ⟨rfl,_,_,_,_,xV,by rw [hW];exact gL,(by first|exact List.Perm.refl _|exact List.perm_append_comm (l₁:=[_]) (l₂:=[_,_,_,_,_]))⟩
   obtain ⟨us,cr,hr⟩:∃ us r,rest=us::r:=by
    cases rest with
    | nil=>simp at oJ;omega
    | cons us r=>exact ⟨us,r,rfl⟩
   have bd:E.bV[T.length]?=some us:=by rw [hA,hr,<- cM];simp
   obtain ⟨yp,qo⟩:=hE.ay us (List.mem_of_getElem? bd);have IH:=IH us cr hr;have nx:fU E.toEnv rest p T=us.flatMap fun u=>(bk E.s p u).flatMap fun q=>df E.toEnv cr q (T++[u]):=by rw [hr];rfl
   rw [nx] at hW;(conv=>whnf);repeat ((refine cp T.length (by first|rfl|omega) bd ?_);conv=>whnf)
   refine bD rfl mixed [1,2,5,9,10,11,12,55,56,57] [] (BA E sk tk lk en p T us cr ((L++df E.toEnv rest p T).take (E.most+1))) ?_ (Hp E sk tk lk en hE p T us cr _ pre (by rw [hA,hr]) cM hp IH _ X);(conv=>whnf);exact ⟨_,_,ah.perm (by first|exact List.Perm.refl _|exact List.perm_append_comm (l₁:=[_]) (l₂:=[_,_,_,_,_])),_,0,_,L1,_,_,_,_,rfl,rfl,rfl,by first|rfl|omega,by omega,xV,gL,ji,hW⟩
  refine aA (F:=Tryz.f73) c73 rfl rfl rfl mixed rfl fun X=>?_;(conv=>whnf);repeat ((first|(refine aY (SM E.s p hE.sp hp) ?_)|refine ⟨_,_,.tail _ (.head _),rfl,?_⟩);conv=>whnf)
  refine ⟨fun hq=>?_,fun hq=>?_⟩
  ·have hq:(decide (0<(T.length:Int))&&sI E.s p)=true:=hq;have hh:mC E.toEnv p T=[qm E.toEnv p T]:=by unfold mC;rw [if_pos hq]
   have E7:T≠[]:=by intro h;rw [h] at hq;cases hq
   have Y5:=E5 E7;obtain ⟨L1,fg⟩:∃ L1,L1=L++[qm E.toEnv p T]:=⟨_,rfl⟩;have ji:L1.length<=E.most+1:=by rw [fg,List.length_append,List.length_singleton];omega
   have hW:(L++df E.toEnv rest p T).take (E.most+1)=(L1++fU E.toEnv rest p T).take (E.most+1):=by unfold df;rw [hh,fg,List.append_assoc]
   rcases hL with ⟨fw,rfl,rfl⟩|⟨fw,lb,rfl,rfl⟩
   ·(conv=>whnf);repeat ((first|refine aY (LZ p.cl (by unfold aN;omega)) ?_|(refine ⟨_,_,.tail _ (.tail _ (.tail _ (.head _))),rfl,?_⟩)|refine ⟨_,_,.tail _ (.head _),rfl,?_⟩|refine And.intro (by show aJ (aH Tryz.f73 _) _=true;decide +kernel) ?_);conv=>whnf)
    refine Fu (ab.perm (h:=[(b,.vec (T.map aU).flatten)]) (h2:=HC E sk tk lk en (.aQ b 0 T.length 2) .gu++[]) (SZ b T (by unfold aN;omega)) (List.perm_middle (l₁:=HC E sk tk lk en (.aQ b 0 T.length 2) .gu) (l₂:=[])).symm) ?_;(conv=>whnf);repeat ((first|refine ⟨ag ⟨by omega,by omega⟩,?_⟩|(refine ⟨_,_,.tail _ (.tail _ (.head _)),rfl,?_⟩)|(refine aY (SV E.H ⟨⟨E.entry,E.ending,p.cl⟩,T⟩ hE.fit.lex hE.ka (by show p.cl.length<=aq;unfold aq;omega) hE.entry (by show T.length<=1048576;omega)) ?_)|(refine ⟨⟨Nat.le_of_ble_eq_true rfl,Nat.le_of_ble_eq_true rfl⟩,fun b4=>?_⟩)|(refine ⟨_,_,.there (.there (.there (.here _))),aI,?_⟩)|refine ⟨_,_,bj.here _,?_⟩|refine ⟨_,_,.here _,aI,?_⟩|refine And.intro (by show aJ (aH Tryz.f73 _) _=true;decide +kernel) ?_|intro (nb:Nat));conv=>whnf)
    have gL:Row 7 bZ L1 (.aQ b4 0 1 7) [(b4,.vec (bZ (qm E.toEnv p T)++[]))]:=by rw [fg,fw];exact .inr ⟨by simp,b4,rfl,by simp⟩
    refine ⟨fun hz=>?_,fun hz=>?_⟩<;>simp only [decide_eq_true_eq,decide_eq_false_iff_not,List.length_map] at hz
    ·have hr:rest=[]:=List.eq_nil_of_length_eq_zero (by omega);rw [hr,show fU E.toEnv [] p T=[] from rfl,List.append_nil,List.take_of_length_le ji,<- hr] at hW;(conv=>whnf);exact ⟨rfl,_,_,_,_,xV,by rw [hW];exact gL,(by first|exact List.Perm.refl _|exact List.perm_append_comm (l₁:=[_]) (l₂:=[_,_,_,_,_]))⟩
    obtain ⟨us,cr,hr⟩:∃ us r,rest=us::r:=by
     cases rest with
     | nil=>simp at oJ;omega
     | cons us r=>exact ⟨us,r,rfl⟩
    have bd:E.bV[T.length]?=some us:=by rw [hA,hr,<- cM];simp
    obtain ⟨yp,qo⟩:=hE.ay us (List.mem_of_getElem? bd);have IH:=IH us cr hr;have nx:fU E.toEnv rest p T=us.flatMap fun u=>(bk E.s p u).flatMap fun q=>df E.toEnv cr q (T++[u]):=by rw [hr];rfl
    rw [nx] at hW;(conv=>whnf);repeat (refine ix (by assumption) ?_;conv=>whnf)
    refine bD rfl mixed [1,2,5,9,10,11,12,55,56,57] [] (BA E sk tk lk en p T us cr ((L++df E.toEnv rest p T).take (E.most+1))) ?_ (Hp E sk tk lk en hE p T us cr _ pre (by rw [hA,hr]) cM hp IH _ X);(conv=>whnf);exact ⟨_,_,ah.perm (by first|exact List.Perm.refl _|exact List.perm_append_comm (l₁:=[_]) (l₂:=[_,_,_,_,_])),_,0,_,L1,_,_,_,_,rfl,rfl,rfl,by first|rfl|omega,by omega,xV,gL,ji,hW⟩
   have rF:L.length+1<=aN:=by unfold aN;omega
   (conv=>whnf);repeat ((first|refine aY (LZ p.cl (by unfold aN;omega)) ?_|(refine ⟨_,_,.tail _ (.tail _ (.tail _ (.head _))),rfl,?_⟩)|refine ⟨_,_,.tail _ (.head _),rfl,?_⟩|refine And.intro (by show aJ (aH Tryz.f73 _) _=true;decide +kernel) ?_);conv=>whnf)
   refine Fu (ab.perm (h:=[(b,.vec (T.map aU).flatten)]) (h2:=HC E sk tk lk en (.aQ b 0 T.length 2) (.aQ lb 0 L.length 7)++[(lb,.vec (L.map bZ).flatten)]) (SZ b T (by unfold aN;omega)) (List.perm_middle (l₁:=HC E sk tk lk en (.aQ b 0 T.length 2) (.aQ lb 0 L.length 7)) (l₂:=[(lb,.vec (L.map bZ).flatten)])).symm) ?_;(conv=>whnf);repeat ((first|refine ⟨ag ⟨by omega,by omega⟩,?_⟩|(refine ⟨_,_,.tail _ (.tail _ (.head _)),rfl,?_⟩)|(refine aY (SV E.H ⟨⟨E.entry,E.ending,p.cl⟩,T⟩ hE.fit.lex hE.ka (by show p.cl.length<=aq;unfold aq;omega) hE.entry (by show T.length<=1048576;omega)) ?_)|(refine ⟨_,.tail _ (.tail _ (.tail _ (.tail _ (.tail _ (.head _))))),⟨qq (fun _=>rfl),rF⟩,fun b4=>⟨_,.there (.there (.there (.there (.there (.here _))))),?_⟩⟩)|(refine ⟨_,_,.there (.there (.here _)),aI,?_⟩)|refine ⟨_,_,bj.here _,?_⟩|refine ⟨_,_,.here _,aI,?_⟩|refine And.intro (by show aJ (aH Tryz.f73 _) _=true;decide +kernel) ?_|intro (nb:Nat));conv=>whnf)
   have gL:Row 7 bZ L1 (.aQ b4 0 (L.length+1) 7) [(b4,.vec ((L.map bZ).flatten++(bZ (qm E.toEnv p T)++[])))]:=by rw [fg];exact .inr ⟨by simp,b4,by rw [List.length_append];rfl,by rw [List.map_append,List.flatten_append];rfl⟩
   refine ⟨fun hz=>?_,fun hz=>?_⟩<;>simp only [decide_eq_true_eq,decide_eq_false_iff_not,List.length_map] at hz
   ·have hr:rest=[]:=List.eq_nil_of_length_eq_zero (by omega);rw [hr,show fU E.toEnv [] p T=[] from rfl,List.append_nil,List.take_of_length_le ji,<- hr] at hW;(conv=>whnf);exact ⟨rfl,_,_,_,_,xV,by rw [hW];exact gL,(by first|exact List.Perm.refl _|exact List.perm_append_comm (l₁:=[_]) (l₂:=[_,_,_,_,_]))⟩
   obtain ⟨us,cr,hr⟩:∃ us r,rest=us::r:=by
    cases rest with
    | nil=>simp at oJ;omega
    | cons us r=>exact ⟨us,r,rfl⟩
   have bd:E.bV[T.length]?=some us:=by rw [hA,hr,<- cM];simp
   obtain ⟨yp,qo⟩:=hE.ay us (List.mem_of_getElem? bd);have IH:=IH us cr hr;have nx:fU E.toEnv rest p T=us.flatMap fun u=>(bk E.s p u).flatMap fun q=>df E.toEnv cr q (T++[u]):=by rw [hr];rfl
   rw [nx] at hW;(conv=>whnf);repeat (refine ix (by assumption) ?_;conv=>whnf)
   refine bD rfl mixed [1,2,5,9,10,11,12,55,56,57] [] (BA E sk tk lk en p T us cr ((L++df E.toEnv rest p T).take (E.most+1))) ?_ (Hp E sk tk lk en hE p T us cr _ pre (by rw [hA,hr]) cM hp IH _ X);(conv=>whnf);exact ⟨_,_,ah.perm (by first|exact List.Perm.refl _|exact List.perm_append_comm (l₁:=[_]) (l₂:=[_,_,_,_,_])),_,0,_,L1,_,_,_,_,rfl,rfl,rfl,by first|rfl|omega,by omega,xV,gL,ji,hW⟩
  have hq:(decide (0<(T.length:Int))&&sI E.s p)=false:=hq;have hh:mC E.toEnv p T=[]:=by unfold mC;rw [if_neg (by rw [hq];decide)]
  obtain ⟨L1,fg⟩:∃ L1,L1=L:=⟨_,rfl⟩;have gL:=hL;have ji:=yo;rw [<- fg] at gL ji;have hW:(L++df E.toEnv rest p T).take (E.most+1)=(L1++fU E.toEnv rest p T).take (E.most+1):=by unfold df;rw [hh,List.nil_append,fg]
  (conv=>whnf);skip;refine ⟨fun hz=>?_,fun hz=>?_⟩<;>simp only [decide_eq_true_eq,decide_eq_false_iff_not,List.length_map] at hz
  ·have hr:rest=[]:=List.eq_nil_of_length_eq_zero (by omega);rw [hr,show fU E.toEnv [] p T=[] from rfl,List.append_nil,List.take_of_length_le ji,<- hr] at hW;(conv=>whnf);exact ⟨rfl,_,_,_,_,xV,by rw [hW];exact gL,(by first|exact List.Perm.refl _|exact List.perm_append_comm (l₁:=[_]) (l₂:=[_,_,_,_,_]))⟩
  obtain ⟨us,cr,hr⟩:∃ us r,rest=us::r:=by
   cases rest with
   | nil=>simp at oJ;omega
   | cons us r=>exact ⟨us,r,rfl⟩
  have bd:E.bV[T.length]?=some us:=by rw [hA,hr,<- cM];simp
  obtain ⟨yp,qo⟩:=hE.ay us (List.mem_of_getElem? bd);have IH:=IH us cr hr;have nx:fU E.toEnv rest p T=us.flatMap fun u=>(bk E.s p u).flatMap fun q=>df E.toEnv cr q (T++[u]):=by rw [hr];rfl
  rw [nx] at hW;(conv=>whnf);repeat (refine ix (by assumption) ?_;conv=>whnf)
  refine bD rfl mixed [1,2,5,9,10,11,12,55,56,57] [] (BA E sk tk lk en p T us cr ((L++df E.toEnv rest p T).take (E.most+1))) ?_ (Hp E sk tk lk en hE p T us cr _ pre (by rw [hA,hr]) cM hp IH _ X);(conv=>whnf);exact ⟨_,_,ah.perm (by first|exact List.Perm.refl _|exact List.perm_append_comm (l₁:=[_]) (l₂:=[_,_,_,_,_])),_,0,_,L1,_,_,_,_,rfl,rfl,rfl,by first|rfl|omega,by omega,xV,gL,ji,hW⟩
 rintro v h1 ⟨rfl,tK,ss,rk,pY,oG,ud,eS⟩;exact ⟨_,_,⟨rfl,tK,ss,rk,pY,oG,ud,rfl⟩,aa.refl _,fun k o hm=>eS.mem_iff.2 hm,fun hn=>by unfold keys at hn ⊢;exact ((eS.map _).nodup_iff).1 hn⟩
theorem Te (E:tI) (sk tk lk en:Nat) (hE:Hn E):∀ rest,Ho E sk tk lk en rest
 | []=>Td E sk tk lk en hE [] (fun us r h=>by cases h)
 | us::r=>Td E sk tk lk en hE (us::r) (fun BY r' h=>by cases h;exact Te E sk tk lk en hE r)
end Go.Abs.Wall
namespace Go.Abs.Wall
open Go Go.Abs Go.Proofs
abbrev E8:=Int × Int × Int × List Int × List az
def Er (w:eJ):E8:=(w.ay.length,w.form.entry,w.form.ending,w.form.ao,w.ay)
def rL (a b:eJ):Int:=gV [ct a.ay.length b.ay.length,ct a.form.entry b.form.entry,ct a.form.ending b.form.ending,cE ct a.form.ao b.form.ao,cE lQ a.ay b.ay]
theorem zW:kH rL:=by
 have h:=(kH.mu zI (kH.mu zI (kH.mu zI (kH.mu zI.cE zU.cE)))).of Er (fun a b h=>by
  obtain ⟨⟨a1,a2,a3⟩,a4⟩:=a;obtain ⟨⟨b1,b2,b3⟩,b4⟩:=b;unfold Er at h;simp at h;simp [h])
 have he:rL=fun a b=>mu ct (mu ct (mu ct (mu (cE ct) (cE lQ)))) (Er a) (Er b):=by
  funext a b;have h1:∀ x:Int,gV [x]=x:=fun x=>by simp only [gV];split<;>omega
  simp only [rL,mu,Er];rw [gV,gV,gV,Hk];rfl
 rw [he];exact h
def Cc (a b:ar):Int:=rL a.word b.word
theorem Nn:pb Cc:=⟨fun x=>zW.c.ua _,fun x y z=>zW.c.tr _ _ _,fun x y z=>zW.c.nt _ _ _⟩
def lB (L:List ar):List ar:=pz Cc L
def c124:av:=⟨[0,1,4,5,6,7,8,9,10,11,12,19,28,35],[],[],[],[],[]⟩
def c125:av:=⟨[0,1,2,6,7,8,9,10,11,12,13,14,21,31,38],[],[8,9],[],[],[]⟩
def c81:av:=⟨[0,1,2,3,4],[],[],[],[(1,[0,1,2,3,4,5,6,7,8,9,10,11,12,13,14,15,16,17,18,19,20,21,22,23,24,25,26,27,28,29,30,31,32,33,34,35],[])],[]⟩
def c80:av:=⟨[0,1,2,3,4],[],[],[],[],[]⟩
theorem E9 (a b:List Int) (ha:a.length<=aq) (hb:b.length<=aq):ab Tryz.prog 124 [.sl 1 none (ints a),.sl 1 none (ints b)] [] (.int .i64 (cE ct a b)):=by
 unfold aq at ha hb;refine aA (F:=Tryz.f124) c124 rfl rfl rfl mixed rfl fun X=>?_;(conv=>whnf);refine bS rfl mixed [0,1,9,10,11] [] (fun m r h=>∃ (i:Nat),r=[(0,[],.sl 1 none (ints a)),(1,[],.sl 1 none (ints b)),(9,[],.sl 1 none (ints a)),(10,[],.int .i64 (ints a).length),(11,[],.int .i64 i)]/\h=[]/\m=a.length - i/\i<=a.length/\i<=b.length/\cE ct a b=cE ct (a.drop i) (b.drop i)) ?_ ?_
 ·(conv=>whnf);exact ⟨_,0,rfl,rfl,rfl,by omega,by omega,rfl⟩
 rintro m r h ⟨i,rfl,rfl,rfl,hi,hj,hg⟩;(conv=>whnf);refine ⟨fun aG=>?_,fun aG=>?_⟩<;>simp at aG
 ·obtain ⟨x,hx⟩:=aF aG;(conv=>whnf);repeat (refine ix (by assumption) ?_;conv=>whnf)
  refine ⟨fun hq=>?_,fun hq=>?_⟩<;>simp at hq
  ·rw [drop_cons hx,drop_nil hq,cE] at hg;(conv=>whnf);exact ⟨by rw [hg],rfl⟩
  obtain ⟨y,hy⟩:=aF hq;rw [drop_cons hx,drop_cons hy,cE] at hg;(conv=>whnf);repeat ((first|refine ix (by assumption) ?_|refine ab.k0 (Co _ _) ?_);conv=>whnf)
  refine ⟨fun hc=>?_,fun hc=>?_⟩<;>simp at hc
  ·rw [if_pos hc] at hg;(conv=>whnf);exact ⟨by rw [hg],rfl⟩
  rw [if_neg (by simpa using hc)] at hg;(conv=>whnf);repeat (refine ⟨ag ⟨by omega,by omega⟩,?_⟩;conv=>whnf)
  exact ⟨_,by omega,i+1,rfl,rfl,rfl,by omega,by omega,hg⟩
 (conv=>whnf);skip;refine ⟨fun hq=>?_,fun hq=>?_⟩<;>simp at hq
 ·obtain ⟨y,hy⟩:=aF (show i<b.length by omega);rw [drop_nil aG,drop_cons hy,cE] at hg;(conv=>whnf);exact ⟨by rw [hg],rfl⟩
 rw [drop_nil aG,drop_nil (by omega),cE] at hg;(conv=>whnf);exact ⟨by rw [hg],rfl⟩
theorem F0 (a b:List az) (ha:a.length<=aq) (hb:b.length<=aq):ab Tryz.prog 125 [.sl 2 none (a.map aU),.sl 2 none (b.map aU),.fn 117 []] [] (.int .i64 (cE lQ a b)):=by
 unfold aq at ha hb;refine aA (F:=Tryz.f125) c125 rfl rfl rfl mixed rfl fun X=>?_;(conv=>whnf);refine bS rfl mixed [0,1,2,11,12,13] [] (fun m r h=>∃ (i:Nat),r=[(0,[],.sl 2 none (a.map aU)),(1,[],.sl 2 none (b.map aU)),(2,[],.fn 117 []),(11,[],.sl 2 none (a.map aU)),(12,[],.int .i64 (a.map aU).length),(13,[],.int .i64 i)]/\h=[]/\m=a.length - i/\i<=a.length/\i<=b.length/\cE lQ a b=cE lQ (a.drop i) (b.drop i)) ?_ ?_
 ·(conv=>whnf);exact ⟨_,0,rfl,rfl,rfl,by omega,by omega,rfl⟩
 rintro m r h ⟨i,rfl,rfl,rfl,hi,hj,hg⟩;(conv=>whnf);refine ⟨fun aG=>?_,fun aG=>?_⟩<;>simp at aG
 ·obtain ⟨x,hx⟩:=aF aG;(conv=>whnf);repeat ((first|refine ix (by assumption) ?_|refine ⟨_,_,bj.here _,⟨Nat.le_of_ble_eq_true rfl,rfl⟩,?_⟩|intro (nb:Nat));conv=>whnf)
  refine ⟨fun hq=>?_,fun hq=>?_⟩<;>simp at hq
  ·rw [drop_cons hx,drop_nil hq,cE] at hg;(conv=>whnf);exact ⟨by rw [hg],rfl⟩
  obtain ⟨y,hy⟩:=aF hq;rw [drop_cons hx,drop_cons hy,cE] at hg;(conv=>whnf);repeat ((first|refine ix (by assumption) ?_|refine ab.k0 (SE _ _) ?_|refine ⟨_,_,bj.here _,⟨Nat.le_of_ble_eq_true rfl,rfl⟩,?_⟩|intro (nb:Nat));conv=>whnf)
  refine ⟨fun hc=>?_,fun hc=>?_⟩<;>simp at hc
  ·rw [if_pos hc] at hg;(conv=>whnf);exact ⟨by rw [hg],rfl⟩
  rw [if_neg (by simpa using hc)] at hg;(conv=>whnf);repeat (refine ⟨ag ⟨by omega,by omega⟩,?_⟩;conv=>whnf)
  exact ⟨_,by omega,i+1,rfl,rfl,rfl,by omega,by omega,hg⟩
 (conv=>whnf);skip;refine ⟨fun hq=>?_,fun hq=>?_⟩<;>simp at hq
 ·obtain ⟨y,hy⟩:=aF (show i<b.length by omega);rw [drop_nil aG,drop_cons hy,cE] at hg;(conv=>whnf);exact ⟨by rw [hg],rfl⟩
 rw [drop_nil aG,drop_nil (by omega),cE] at hg;(conv=>whnf);exact ⟨by rw [hg],rfl⟩
structure nE (w:eJ):Prop where
 cl:w.form.ao.length<=1048576
 us:w.ay.length<=1048576
theorem F1 (a b:eJ) (ha:nE a) (hb:nE b):ab Tryz.prog 81 [.agg (cG a),.agg (cG b)] [] (.int .i64 (rL a b)):=by
 have h1:=ha.cl;have h2:=ha.us;have h3:=hb.cl;have h4:=hb.us;refine aA (F:=Tryz.f81) c81 rfl rfl rfl mixed rfl fun X=>?_;(conv=>whnf);repeat ((first|refine aY (Co _ _) ?_|refine aY (E9 a.form.ao b.form.ao (by unfold aq;omega) (by unfold aq;omega)) ?_|refine aY (F0 a.ay b.ay (by unfold aq;omega) (by unfold aq;omega)) ?_|refine aY (Fs [ct (a.ay.map aU).length (b.ay.map aU).length,ct a.form.entry b.form.entry,ct a.form.ending b.form.ending,cE ct a.form.ao b.form.ao,cE lQ a.ay b.ay] (by simp [aq])) ?_|refine And.intro (by show aJ (aH Tryz.f81 _) _=true;decide +kernel) ?_);conv=>whnf)
 refine ⟨?_,rfl⟩;rw [List.length_map,List.length_map];rfl
theorem F2 (a b:ar) (ha:nE a.word) (hb:nE b.word):ab Tryz.prog 80 [.agg (bZ a),.agg (bZ b)] [] (.int .i64 (Cc a b)):=by
 refine aA (F:=Tryz.f80) c80 rfl rfl rfl mixed rfl fun X=>?_;(conv=>whnf);repeat (refine ab.k0 (F1 a.word b.word ha hb) ?_;conv=>whnf)
 exact ⟨rfl,rfl⟩
def Hr (l:List (List AV)):List Int:=l.map fun x=>match x with
 | [.int _ n]=>n
 | _=>0
theorem F3 (l:List Int):Hr (ints l)=l:=by unfold Hr ints;rw [List.map_map];exact (List.map_congr_left fun a _=>rfl).trans (List.map_id _)
def Tf:List AV->ar
 | [.int _ a,.int _ b,.int _ c,.int _ e,.int _ n,.sl _ _ cl,.sl _ _ us]=>⟨a,b,c,⟨⟨e,n,Hr cl⟩,us.map Hl⟩⟩
 | _=>⟨0,0,0,⟨⟨0,0,[]⟩,[]⟩⟩
theorem F4 (e:ar):Tf (bZ e)=e:=by obtain ⟨a,b,c,⟨⟨f,n,cl⟩,us⟩⟩:=e;show ar.mk a b c ⟨⟨f,n,Hr (ints cl)⟩,(us.map aU).map Hl⟩=_;rw [F3,List.map_map,show us.map (Hl ∘ aU)=us from (List.map_congr_left fun a _=>rfl).trans (List.map_id _)]
theorem F5:Bq Tryz.prog 79 80 7:=
 RV Tryz.j1 7 80 Tryz.isAgg68 Tryz.sizeOf68 (fun args w=>EM ⟨Tryz.f80,_,rfl,rfl,rfl⟩)
def c79:av:=⟨[0,1,4],[],[],[],[],[]⟩
def c120:av:=⟨[0,1,2,3,4,10,11,12,13,14,15,16,17,18,19,20,25,32,39,56,75,80,97,125],[],[],[],[(17,[0,1,2,3,4,5,6,7,8,9,10,11,12,13,14,15,16],[])],[]⟩
def c162:av:=⟨[0,1,2,3,8,9,14,34],[],[],[],[(4,[0,1,2,3,4,5,6,7,8,9,10,11,12,13,14,15,16],[]),(6,[0,1,2,3,4,5,6,7,8,9,10,11,12,13,14,15,16,17],[])],[]⟩
theorem F6 (c:FuncId):ab Tryz.prog 162 [.aS,.int .i64 0,.int .i64 0,.fn c []] [] (.aB []):=by
 refine aA (F:=Tryz.f162) c162 rfl rfl rfl mixed rfl fun X=>?_;(conv=>whnf);repeat (refine ⟨ag ⟨by omega,by omega⟩,?_⟩;conv=>whnf)
 refine bS rfl mixed [0,1,2,3,8] [] (fun m r h=>r=[(0,[],.aS),(1,[],.int .i64 0),(2,[],.int .i64 0),(3,[],.fn c []),(8,[],.int .i64 1)]/\h=[]/\m=0/\True) ?_ ?_
 ·(conv=>whnf);exact ⟨_,rfl,rfl,rfl,trivial⟩
 rintro m r h ⟨rfl,rfl,rfl,_⟩;(conv=>whnf);refine cF rfl ?_;(conv=>whnf);exact ⟨rfl,rfl⟩
theorem F7 (c:FuncId):ab Tryz.prog 120 [.aS,.int .i64 0,.int .i64 0,.int .i64 0,.fn c []] [] (.aB []):=by
 refine aA (F:=Tryz.f120) c120 rfl rfl rfl mixed rfl fun X=>?_;(conv=>whnf);skip;refine bS rfl mixed [0,1,2,3,4,10,11] [] (fun m r h=>r=[(0,[],.aS),(1,[],.int .i64 0),(2,[],.int .i64 0),(3,[],.int .i64 0),(4,[],.fn c []),(10,[],.bool true),(11,[],.bool true)]/\h=[]/\m=0/\True) ?_ ?_
 ·(conv=>whnf);exact ⟨_,rfl,rfl,rfl,trivial⟩
 rintro m r h ⟨rfl,rfl,rfl,_⟩;(conv=>whnf);repeat (refine ⟨ag ⟨by omega,by omega⟩,?_⟩;conv=>whnf)
 refine cT rfl ?_;(conv=>whnf);repeat (refine ab.k0 (F6 c) ?_;conv=>whnf)
 exact ⟨rfl,rfl⟩
theorem F8 (c:FuncId):ab Tryz.prog 79 [.gu,.fn c []] [] (.aB []):=by
 refine ab.args (zx:=[.aS,.fn c []]) ?_ (.cons (by intro c u h;simpa [ae] using h) (.cons (aa.refl _) .nil));refine aA (F:=Tryz.f79) c79 rfl rfl rfl mixed rfl fun X=>?_;(conv=>whnf);repeat ((first|refine ab.k0 (bitsLen) ?_|refine ab.k0 (F7 c) ?_);conv=>whnf)
 exact ⟨rfl,rfl⟩
theorem F9 (b:Nat) (xs:List ar) (aM:xs≠[]) (jR:xs.length<=4294967296) (hf:∀ x∈xs,nE x.word) (ha:∀ x∈xs,∀ y∈xs,x.word=y.word->x=y) :
  aw Tryz.prog 79 [.aQ b 0 xs.length 7,.fn 80 []] [(b,.vec (xs.map bZ).flatten)] (fun v h'=>v=.aB []/\h'=[(b,.vec ((lB xs).map bZ).flatten)]):=
 SG (by decide) ⟨Tryz.f79,_,rfl,rfl,rfl⟩ ⟨Tryz.f80,_,rfl,rfl,rfl⟩ F5 Cc (dec:=Tf) F4 (fun a=>rfl) Nn xs (fun x hx y hy h1 h2=>ha x hx y hy (zW.c.yy _ _ h1 h2)) aM jR (fun x hx y hy=>F2 x y (hf x hx) (hf y hy)) b
end Go.Abs.Wall
namespace Go.Abs.Wall
open Go Go.Abs Go.Proofs
structure Hs (v:de):Prop where
 kind:1<=v.kind/\v.kind<=3
 text:1<=v.text.length/\v.text.length<=8
structure Ht (s:eN):Prop where
 bB:s.values.length<=12
 each:∀ v∈s.values,Hs v
structure G0 (l:Lst):Prop where
 many:l.aK.length<=200
 each:∀ s∈l.aK,Ht s
theorem G1 {k:Int} {s:List UInt8} (h:ng k s=true):1<=s.length/\s.length<=8:=by unfold ng at h;simp only [Bool.and_eq_true,decide_eq_true_eq] at h;exact h.1
theorem G2 {l:Lst} {b:List de} {v:de} (h:mr l b v=0):Hs v:=by
 unfold mr at h;split at h
 ·cases h
 rename_i h1;simp only [not_or,Bool.not_eq_false] at h1;have h2:=G1 h1.2.2;refine ⟨by omega,h2⟩
theorem Tg {l:Lst} {vs:List de}:∀ {t:List de} {i:Nat},rf l vs t i=0->∀ v∈t,Hs v
 | [],_,_,v,hv=>by cases hv
 | a::t,i,h,v,hv=>by
   unfold rf at h;split at h
   ·rename_i h1;exact absurd h h1
   rename_i h1;rcases List.mem_cons.1 hv with rfl|hv
   ·exact G2 (by simpa using h1)
   exact Tg h v hv
theorem G3 {l:Lst} {s:eN} (h:jV l s=0):Ht s:=by
 unfold jV at h;split at h
 ·cases h
 split at h
 ·cases h
 rename_i h1 h2;exact ⟨by omega,Tg h⟩
theorem Th {l:Lst}:∀ {t:List eN} {seen:List (List UInt8)},si l t seen=0->∀ s∈t,Ht s
 | [],_,_,s,hs=>by cases hs
 | a::t,seen,h,s,hs=>by
   unfold si at h;split at h
   ·cases h
   split at h
   ·rename_i h1;exact absurd h h1
   rename_i h1;rcases List.mem_cons.1 hs with rfl|hs
   ·exact G3 (by simpa using h1)
   exact Th h s hs
theorem sK {l:Lst} (h:ln l=0):G0 l:=by
 unfold ln at h;split at h
 ·cases h
 split at h
 ·cases h
 exact ⟨by omega,Th h⟩
theorem G4 {v:de} (h:Hs v):∀ u∈jY v,kK u:=by
 intro u hu;have h1:=h.text;unfold jY at hu;split at hu
 ·simp at hu;rcases hu with rfl|rfl<;>exact ⟨by simp,by simp,h1.1,h1.2⟩
 split at hu
 ·simp at hu;subst hu;exact ⟨by simp,by simp,h1.1,h1.2⟩
 split at hu
 ·simp at hu;subst hu;exact ⟨by simp,by simp,h1.1,h1.2⟩
 cases hu
theorem Ti {p:Int}:∀ {l:List de} {u:az},u∈jS p l->∃ v∈l,u∈jY v
 | [],u,h=>by cases h
 | v::t,u,h=>by
   unfold jS at h;rcases List.mem_append.1 h with h|h
   ·split at h
    ·exact ⟨v,by simp,h⟩
    cases h
   obtain ⟨w,hw,hu⟩:=Ti h;exact ⟨w,by simp [hw],hu⟩
theorem Fb {p:Int} {s:eN} (h:Ht s):(rh p s).length<=24/\∀ u∈rh p s,kK u:=by
 refine ⟨?_,fun u hu=>?_⟩
 ·unfold rh xR;rw [sJ];have:=Hm p s.values;have:=h.bB;omega
 unfold rh xR at hu;rw [Jn] at hu;obtain ⟨v,hv,hu⟩:=Ti hu;exact G4 (h.each v hv) u hu
def AW (H:aD) (n:Int):eN:=H.list.aK.getD n.toNat ⟨[],0,0,false,[]⟩
def gM (H:aD) (n:Int):List az:=rh H.period (AW H n)
def oM (H:aD) (line:List Int) (at_:Nat):List (List az):=((line.drop at_).take 12).map (gM H)
def pd (x:Lex) (e n:Int):List UInt8:=if n<0 then (bY x e).root else (bY x e).root++(gG x n).text
def dD (H:aD) (at_:Nat) (e n:Int):Env:=⟨H,⟨H,bY H.lex e,pd H.lex e n⟩,at_,e,n⟩
def wE (x:Lex) (e n:Int):Bool:=decide (0<=n)&&!decide ((gG x n).kind=(bY x e).kind)
def ic (H:aD) (bV:List (List az)) (at_:Nat) (e:Nat) (k:Nat):List ar:=if wE H.lex e ((k:Int) - 1)=true then [] else df (dD H at_ e ((k:Int) - 1)) bV jj []
def ny (H:aD) (bV:List (List az)) (at_:Nat) (e:Nat):List ar:=(List.range (H.lex.bM.length+1)).flatMap (ic H bV at_ e)
def mE (H:aD) (bV:List (List az)) (at_:Nat):List ar:=(List.range H.lex.entries.length).flatMap (ny H bV at_)
def wk (H:aD) (line:List Int) (at_ most:Nat):List ar:=lB ((mE H (oM H line at_) at_).take (most+1))
theorem yB {H:aD} {n:Int} (h0:0<=n) (h1:n<H.list.aK.length):H.list.aK[n.toNat]?=some (AW H n):=by have:n.toNat<H.list.aK.length:=(by omega);unfold AW;simp [List.getElem?_eq_getElem this]
def c72:av:=⟨[0,1,2,3,6,8],[],[],[],[(3,[0,1,2,3,4,5,6,7,8,9,10,11,12,13],[])],[]⟩
theorem G5 (x:Lex) (e n:Int) (hx:pW x) (h0:0<=e) (h1:e<x.entries.length) (hn:n<x.bM.length):ab Tryz.prog 72 [.agg (fo x),.int .i64 e,.int .i64 n] [] (.str (pd x e n)):=by
 have hr:=lP (hx.bY h0 h1).root;refine aA (F:=Tryz.f72) c72 rfl rfl rfl mixed rfl fun X=>?_;(conv=>whnf);refine ⟨fun hc=>?_,fun hc=>?_⟩<;>simp at hc
 ·(conv=>whnf);repeat ((refine cp e.toNat (by omega) (nY h0 h1) ?_);conv=>whnf)
  exact ⟨by rw [pd,if_pos hc],rfl⟩
 have ht:=lP (hx.gG hc hn).text;(conv=>whnf);repeat ((first|(refine cp e.toNat (by omega) (nY h0 h1) ?_)|(refine cp n.toNat (by omega) (zt hc hn) ?_)|(refine ⟨ag (by rw [List.length_append];unfold aq;omega),?_⟩)|refine And.intro (by show aJ (aH Tryz.f72 _) _=true;decide +kernel) ?_);conv=>whnf)
 exact ⟨by rw [pd,if_neg (by omega)],rfl⟩
theorem Ca (E:Env) (p:bU):mC E p []=[]:=rfl
structure wF (H:aD) (at_:Int) (e:ar):Prop where
 uL:e.uL=at_
 to:e.to=at_+e.word.ay.length
 cost:e.cost=nT H e.word
 bB:e.word.ay.length<=12
 cl:e.word.form.ao.length<=3
 some:1<=e.word.ay.length
theorem Tj {E:Env} (hs:lW E.s):∀ (rest:List (List az)) (p:bU) (T:List az),kL E.s p->(∀ us∈rest,∀ u∈us,kK u)->T.length+rest.length<=12->∀ e∈fU E rest p T,wF E.H E.at_ e
 | [],_,_,_,_,_,e,he=>by cases he
 | us::r,p,T,hp,hu,hl,e,he=>by
   unfold fU at he;rw [List.mem_flatMap] at he;obtain ⟨u,wB,he⟩:=he;rw [List.mem_flatMap] at he;obtain ⟨q,hq,he⟩:=he;have oL:=wC hs hp (hu us (by simp) u wB) q hq;rw [List.length_cons] at hl;rcases List.mem_append.1 he with he|he
   ·unfold mC at he;split at he
    ·cases List.mem_singleton.1 he
     exact ⟨rfl,rfl,rfl,by show (T++[u]).length<=12;rw [List.length_append,List.length_singleton];omega,oL.bB,by show 1<=(T++[u]).length;simp⟩
    cases he
   exact Tj hs r q (T++[u]) oL (fun BY h'=>hu BY (by simp [h'])) (by rw [List.length_append,List.length_singleton];omega) e he
theorem BU {H:aD} (hH:kc H) {at_:Nat} {e n:Int} (h0:0<=e) (h1:e<H.lex.entries.length) (hn:n<H.lex.bM.length):lW (dD H at_ e n).s:=by
 have hr:=lP (hH.lex.bY h0 h1).root;refine ⟨hH.lex,?_,?_⟩
 ·show 1<=(pd H.lex e n).length/\(pd H.lex e n).length<=12;unfold pd;split
  ·omega
  have ht:=lP (hH.lex.gG (by omega) hn).text;rw [List.length_append];omega
 show (bY H.lex e).root.length<=(pd H.lex e n).length;unfold pd;split
 ·omega
 rw [List.length_append];omega
theorem Tk {H:aD} (hH:kc H) {line:List Int} {at_:Nat} (hl:∀ s∈line,0<=s/\s<H.list.aK.length):(oM H line at_).length<=12/\∀ us∈oM H line at_,us.length<=1048576/\∀ u∈us,kK u:=by refine ⟨by unfold oM;simp;omega,fun us bd=>?_⟩;unfold oM at bd;obtain ⟨s,hs,rfl⟩:=List.mem_map.1 bd;have mN:=hl s (List.mem_of_mem_drop (List.mem_of_mem_take hs));have aV:=(sK hH.qy).each _ (List.mem_of_getElem? (yB mN.1 mN.2));have:=Fb (p:=H.period) aV;exact ⟨by unfold gM;omega,this.2⟩
theorem EV {H:aD} (hH:kc H) {bV:List (List az)} (hf:bV.length<=12) (hu:∀ us∈bV,us.length<=1048576/\∀ u∈us,kK u) {at_:Nat}:∀ e∈mE H bV at_,wF H at_ e:=by
 intro e he;unfold mE at he;rw [List.mem_flatMap] at he;obtain ⟨i,hi,he⟩:=he;unfold ny at he;rw [List.mem_flatMap] at he;obtain ⟨k,hk,he⟩:=he;rw [List.mem_range] at hi hk;unfold ic at he;split at he
 ·cases he
 unfold df at he;rw [Ca,List.nil_append] at he;exact Tj (E:=dD H at_ i ((k:Int) - 1)) (BU hH (by omega) (by omega) (by omega)) bV jj [] (Cb _) (fun us h=>(hu us h).2) (by simp;omega) e he
theorem Np {H:aD} {at_:Int} {a b:ar} (ha:wF H at_ a) (hb:wF H at_ b) (h:a.word=b.word):a=b:=by obtain ⟨f,t,c,w⟩:=a;obtain ⟨f',t',c',w'⟩:=b;have h:w=w':=h;subst h;have h1:=ha.uL;have h2:=ha.to;have h3:=ha.cost;have h4:=hb.uL;have h5:=hb.to;have h6:=hb.cost;simp only at h1 h2 h3 h4 h5 h6;rw [h1,h2,h3,h4,h5,h6]
theorem BW {α:Type} {A C:List α} {m:Nat}:(A.take m++C).take m=(A++C).take m:=by have:=SY (A:=A) (B:=[]) (C:=C) (m:=m);simpa using this
end Go.Abs.Wall
namespace Go.Abs.Wall
open Go Go.Abs Go.Proofs
theorem aw.cells {f:FuncId} {vs:List AV} {h h':af} {b:Nat} {xs ys:List AV} {R:AV->af->Prop} (hf:aw Tryz.prog f vs h' R) (hu:cP b (.vec xs) b (.vec ys) h h') (hv:cu xs ys):aw Tryz.prog f vs h R:=by
 have sX:keys h'=keys h:=by
  clear hf;induction hu with
  | here l=>rfl
  | there _ ih=>simp only [keys,List.map_cons] at ih ⊢;rw [ih]
 have lz:∀ k o',(k,o')∈h'->(k,o')∈h\/(k=b/\o'=.vec ys/\(b,Ob.vec xs)∈h):=by
  clear hf sX;induction hu with
  | here l=>intro k o' hm;cases List.mem_cons.1 hm with
    | inl e=>cases e;exact .inr ⟨rfl,rfl,by simp⟩
    | inr e=>exact .inl (by simp [e])
  | there _ ih=>intro k o' hm;cases List.mem_cons.1 hm with
    | inl e=>subst e;exact .inl (by simp)
    | inr e=>
      rcases ih k o' e with h1|⟨h1,h2,h3⟩
      ·exact .inl (by simp [h1])
      exact .inr ⟨h1,h2,by simp [h3]⟩
 have hlen:∀ {xs ys:List AV},cu xs ys->xs.length=ys.length/\∀ (i:Nat) y,ys[i]?=some y->∃ x,xs[i]?=some x/\aa x y:=by
  intro xs ys hv;induction hv with
  | nil=>exact ⟨rfl,fun i y h=>by cases h⟩
  | cons h1 _ ih=>
    refine ⟨by simp [ih.1],fun i y hi=>?_⟩;cases i with
    | zero=>cases hi;exact ⟨_,rfl,h1⟩
    | succ i=>exact ih.2 i y (by simpa using hi)
 refine ⟨fun X g w us hc hr=>?_⟩
 obtain ⟨c2,s2⟩:=hc.Bj sX (fun k o' hm=>by
  rcases lz k o' hm with h1|⟨rfl,rfl,h2⟩
  ·exact hc.obj k o' h1
  obtain ⟨p,cc,t,q1,q2,q3,q4,q5,q6⟩:=hc.obj k (.vec xs) h2;obtain ⟨l,hg⟩:=hlen hv;refine ⟨p,cc,t,q1,q2,q3,q4,by rw [<- l];exact q5,fun i y hy=>?_⟩;obtain ⟨x,hx,oY⟩:=hg i y hy;obtain ⟨u,u1,u2,u3⟩:=q6 i x hx;exact ⟨u,u1,u2,oY _ _ u3⟩)
 refine (hf.1 X g w us c2 (au.mono (Step.le s2) _ _ hr)).mono fun e w' he=>?_;obtain ⟨v,u,g',h1,rfl,hR,eY,hu,hs⟩:=he;exact ⟨v,u,g',h1,rfl,hR,eY,hu,s2.trans hc.own hs⟩
theorem ah.sublist {r:aC} {h h':af} (hs:h'.Sublist h):ah r h r h':=
 ah.sub (fun k o hm=>hs.subset hm) (fun hn=>by unfold keys at hn ⊢;exact hn.sublist (hs.map _))
def xi (A:List (List az)):List (List AV):=A.map eD
def c39:av:=⟨[0,1,2,3,4,6,7,8,9,11,12,13,14,15,16,17,25,26,27,28,40,41,42,43,52,68,82],[],[12,13,15],[],[(5,[0,1,2,3,4,5,6],[]),(13,[0,1,2,3,4,5,6,7,8,9,10,11,12,13],[]),(14,[0,1,2,3,4,5,6,7,8,9,10],[15])],[]⟩
set_option maxHeartbeats 2000000 in
theorem G6 (H:aD) (line:List Int) (at_ most:Nat) (hH:kc H) (iE:dx H) (Hu:∀ s∈line,0<=s/\s<H.list.aK.length) (hlen:line.length<=1048576) (cK:at_<=line.length) (Hq:most<=1048575) :
  aw Tryz.prog 39 [.agg (aZ H),.sl 1 none (ints line),.int .i64 at_,.int .i64 most] [] (fun v h'=>∃ hp Z,Row 7 bZ (wk H line at_ most) v hp/\h'=hp++Z):=by
 have G7:=sK hH.qy;have SP:=hH.lex.many;obtain ⟨vc,vd⟩:=Tk hH (line:=line) (at_:=at_) Hu;obtain ⟨su,Hv⟩:∃ su,su=(line.drop at_).take 12:=⟨_,rfl⟩;have Y6:su.length<=12:=by rw [Hv];simp;omega
 have G8:∀ s∈su,0<=s/\s<H.list.aK.length:=fun s hs=>by rw [Hv] at hs;exact Hu s (List.mem_of_mem_drop (List.mem_of_mem_take hs))
 have fl:((ints line).take (min ((ints line).length:Int) ((at_:Int)+12)).toNat).drop (at_:Int).toNat=ints su:=by
  rw [Hv,cO];unfold ints;rw [<- List.map_take,<- List.map_drop,List.drop_take];congr 1;rw [show (at_:Int).toNat=at_ from rfl];by_cases hc:line.length<=at_+12
  ·rw [show (min (line.length:Int) ((at_:Int)+12)).toNat - at_=line.length - at_ by omega,List.take_of_length_le (by simp),List.take_of_length_le (by simp;omega)]
  rw [show (min (line.length:Int) ((at_:Int)+12)).toNat - at_=12 by omega]
 refine aA (F:=Tryz.f39) c39 rfl rfl rfl mixed rfl fun X=>?_;(conv=>whnf);intro lk;(conv=>whnf);intro ak;(conv=>whnf);repeat ((first|refine ⟨ag ⟨by omega,by omega⟩,?_⟩|(refine ⟨ag ⟨by omega,by rw [cO];omega,by rw [cO];omega⟩,?_⟩));conv=>whnf)
 rw [fl];refine bD rfl mixed [4,6,7,8,9,25,26,27] [] (fun m r h=>∃ (i:Nat) (v:AV) (hp:af),r=[(4,[],.ai (aZ H)),(6,[],.ai [.int .i64 at_]),(7,[],.ai [.int .i64 most]),(8,[],.ba lk 0),(9,[],.ba ak 0),(25,[],.sl 1 none (ints su)),(26,[],.int .i64 (ints su).length),(27,[],.int .i64 i)]/\h=(ak,.vec [v])::(lk,.vec [.aS])::hp/\m=su.length - i/\i<=su.length/\Out 1 eD ((su.take i).map (gM H)) v hp) ?_ ?_
 ·(conv=>whnf);exact ⟨_,_,ah.refl _ _,_,0,_,_,rfl,rfl,rfl,by omega,.inl ⟨rfl,rfl,rfl⟩⟩
 rintro m r h' ⟨i,v,hp,rfl,rfl,rfl,hi,ho⟩;(conv=>whnf);refine ⟨fun aG=>?_,fun aG=>?_⟩<;>simp at aG
 ·obtain ⟨s,hs⟩:=aF aG;have mN:=G8 s (List.mem_of_getElem? hs);have qJ:=yB mN.1 mN.2;have Tl:=(G7.each _ (List.mem_of_getElem? qJ)).bB;have cd:=cN hs;rcases ho with ⟨he,rfl,rfl⟩|⟨q,rfl,rfl⟩
  all_goals
   (conv=>whnf);repeat ((first|refine ⟨ag ⟨by omega,by omega⟩,?_⟩|refine ix (by assumption) ?_|(refine aY (SL H s (AW H s) mN.1 qJ (by omega)) ?_)|(refine ⟨Nat.le_of_ble_eq_true rfl,fun q'=>?_⟩)|(refine ⟨(by simp;unfold aN;omega),fun q'=>⟨_,.there (.there (.here _)),?_⟩⟩)|refine ⟨_,_,.head _,rfl,?_⟩|refine ⟨_,_,.here _,aI,?_⟩|refine ⟨_,_,.there (.here _),aI,?_⟩|refine And.intro (by show aJ (aH Tryz.f39 _) _=true;decide +kernel) ?_);conv=>whnf)
   refine ⟨_,[(ak,.vec [.sl 1 (some q') (((su.take (i+1)).map (gM H)).map eD)]),(lk,.vec [.aS]),(q',.tok)],?_,_,(by omega),i+1,_,[(q',.tok)],rfl,rfl,rfl,by omega,.inr ⟨q',rfl,rfl⟩⟩;rw [cd,List.map_append,List.map_append]
   first
    | (rw [he];exact ah.perm (List.perm_append_comm (l₁:=[_]) (l₂:=[_,_])))
    | exact ah.refl _ _
 rw [List.take_of_length_le aG] at ho;have G9:su.map (gM H)=oM H line at_:=by rw [Hv];rfl
 rw [G9] at ho;obtain ⟨bV,An⟩:∃ A,A=oM H line at_:=⟨_,rfl⟩;rw [<- An] at ho vc vd;have Hw:wk H line at_ most=lB ((mE H bV at_).take (most+1)):=by rw [An];rfl
 (conv=>whnf);skip;refine bD rfl mixed [4,6,7,8,9,40,41,42] [] (fun m r h=>∃ (i:Nat) (lv:AV) (lp:af),r=[(4,[],.ai (aZ H)),(6,[],.ai [.int .i64 at_]),(7,[],.ai [.int .i64 most]),(8,[],.ba lk 0),(9,[],.ai [.sl 1 none (bV.map eD)]),(40,[],.sl 4 none (H.lex.entries.map fi)),(41,[],.int .i64 (H.lex.entries.map fi).length),(42,[],.int .i64 i)]/\h=(lk,.vec [lv])::lp/\m=H.lex.entries.length - i/\i<=H.lex.entries.length/\Row 7 bZ (((List.range i).flatMap (ny H bV at_)).take (most+1)) lv lp) ?_ ?_
 ·(conv=>whnf);refine ⟨_,_,?_,_,0,.gu,[],rfl,rfl,rfl,by omega,.inl ⟨by simp,rfl,rfl⟩⟩;refine ah.trans (ah.cells (.here _) (.cons (Out.le (by decide) ho) .nil)) ?_;refine ah.trans (ah.freeze (.here _) (jd.refl _) (.cons (.refl _) (.cons (.refl _) (.cons (.refl _) (.cons (.refl _) (.cons (.ptr rfl) (qW.refl _))))))) ?_;refine ah.trans (ah.cells (.here _) (.cons wD .nil)) (ah.sublist (.cons_cons _ (List.nil_sublist _)))
 clear ho;rintro m r h' ⟨i,lv,lp,rfl,rfl,rfl,hi,hr⟩;(conv=>whnf);refine ⟨fun aG=>?_,fun aG=>?_⟩<;>simp at aG
 ·obtain ⟨e,he⟩:=aF aG;have rQ:e=bY H.lex i:=by have:=nY (x:=H.lex) (n:=(i:Int)) (by omega) (by omega);rw [show ((i:Int)).toNat=i from rfl,he] at this;exact Option.some.inj this
  subst rQ;have Y7:=(hH.lex.bY (n:=(i:Int)) (by omega) (by omega));(conv=>whnf);repeat ((first|refine ix (by assumption) ?_|(refine And.intro ⟨Nat.le_of_ble_eq_true rfl,rfl⟩ ?_)|refine ⟨_,_,bj.here _,⟨Nat.le_of_ble_eq_true rfl,rfl⟩,?_⟩|refine ⟨_,_,bj.there (.here _),?_⟩|refine ⟨_,_,.here _,aI,?_⟩|intro (nb:Nat));conv=>whnf)
  refine bD rfl mixed [4,6,7,8,9,12,13,14,40,41,42] [] (fun m r h=>∃ (k:Nat) (c:Int) (en:Nat) (lv:AV) (lp:af),r=[(4,[],.ai (aZ H)),(6,[],.ai [.int .i64 at_]),(7,[],.ai [.int .i64 most]),(8,[],.ba lk 0),(9,[],.ai [.sl 1 none (bV.map eD)]),(12,[],.ai [.int .i64 i]),(13,[],.ai (fi (bY H.lex i))),(14,[],.ba en 0),(40,[],.sl 4 none (H.lex.entries.map fi)),(41,[],.int .i64 (H.lex.entries.map fi).length),(42,[],.int .i64 i)]/\h=(en,.vec [.int .i64 c])::(lk,.vec [lv])::lp/\m=H.lex.bM.length+1 - k/\c=(k:Int) - 1/\k<=H.lex.bM.length+1/\Row 7 bZ (((List.range i).flatMap (ny H bV at_)++(List.range k).flatMap (ic H bV at_ i)).take (most+1)) lv lp) ?_ ?_
  ·(conv=>whnf);exact ⟨_,_,ah.refl _ _,_,0,-1,_,_,_,rfl,rfl,rfl,rfl,by omega,by simpa using hr⟩
  clear hr;rintro m r h' ⟨k,c,en,lv,lp,rfl,rfl,rfl,hc,hk,hr⟩;have bf:(List.range (k+1)).flatMap (ic H bV at_ i)=(List.range k).flatMap (ic H bV at_ i)++ic H bV at_ i k:=(by rw [List.range_succ,List.flatMap_append,List.flatMap_singleton]);(conv=>whnf);repeat (refine ⟨_,_,.head _,rfl,?_⟩;conv=>whnf)
  refine ⟨fun dg=>?_,fun dg=>?_⟩<;>simp at dg
  ·(conv=>whnf);repeat ((first|(refine rG (⟨0,[],[],0⟩:lC) ?_ ?_;(focus (conv=>whnf;skip));(focus (intro g0;have g0:=of_decide_eq_true g0;show 0<=_/\_<_;omega)))|refine ⟨_,_,.head _,rfl,?_⟩|refine And.intro (by show aJ (aH Tryz.f39 _) _=true;decide +kernel) ?_);conv=>whnf)
   refine ⟨fun hs=>?_,fun hs=>?_⟩
   ·have hs:wE H.lex i c=true:=hs;have yv:ic H bV at_ i k=[]:=by unfold ic;rw [<- hc,if_pos hs]
    rw [yv,List.append_nil] at bf;(conv=>whnf);repeat ((first|refine ⟨ag ⟨by omega,by omega⟩,?_⟩|refine ⟨_,_,.head _,rfl,?_⟩|refine ⟨_,_,.here _,aI,?_⟩|intro (nb:Nat));conv=>whnf)
    exact ⟨_,_,ah.sublist (.cons_cons _ (.cons _ (.cons_cons _ (List.Sublist.refl _)))),_,(by omega),k+1,_,_,_,_,rfl,rfl,rfl,by omega,by omega,by rw [bf];exact hr⟩
   have hs:wE H.lex i c=false:=hs;obtain ⟨E,BB⟩:∃ E:tI,E=⟨dD H at_ i c,most,bV⟩:=⟨_,rfl⟩;have yv:ic H bV at_ i k=df E.toEnv bV jj []:=by unfold ic;rw [<- hc,if_neg (by rw [hs];decide),BB]
   have hE:Hn E:=by rw [BB];exact ⟨hH,iE,BU hH (by omega) (by omega) (by omega),⟨by show (0:Int)<=i;omega,by show (i:Int)<H.lex.entries.length;omega⟩,⟨by show (0:Int)<=at_;omega,by show (at_:Int)<=1048576;omega⟩,by show most<=1048576;omega,vc,vd⟩
   (conv=>whnf);repeat ((first|refine aY (G5 H.lex i c hH.lex (by omega) (by omega) (by omega)) ?_|refine ⟨_,_,bj.here _,?_⟩|refine ⟨_,_,.head _,rfl,?_⟩|refine ⟨_,_,.here _,aI,?_⟩|refine And.intro (by show aJ (aH Tryz.f39 _) _=true;decide +kernel) ?_|intro (nb:Nat));conv=>whnf)
   have ax:=fun sk tk=>Te E sk tk lk en hE bV jj [] _ .gu [] lv lp ⟨[],by rw [BB];rfl,rfl⟩ (Cb _) (.inl ⟨rfl,rfl,rfl⟩) hr (fun h=>absurd rfl h) (by rw [BB,List.length_take];show min (most+1) _<=most+1;omega);simp only [BB] at ax;refine aw.mono ?_ (aw.cells (aw.perm (aw.args (ax _ _) (.cons (aa.agg (.cons (aa.refl _) (.cons (aa.refl _) (.cons (aa.refl _) (.cons (aa.nil (by decide)) (.cons (aa.refl _) (.cons (aa.refl _) .nil))))))) (cu.refl _))) (.cons _ (.cons _ (.swap _ _ _)))) (.there (.here _)) (.cons wD .nil));rintro v h1 ⟨rfl,tK,ss,rk,pY,Y8,H0,rfl⟩;(conv=>whnf);repeat ((first|(refine ⟨_,_,.tail _ (.tail _ (.tail _ (.head _))),rfl,?_⟩)|(refine ⟨ag (show -9223372036854775808<=c+1/\c+1<=9223372036854775807 by omega),?_⟩)|refine ⟨_,_,.head _,rfl,?_⟩|refine ⟨_,_,.here _,aI,?_⟩|intro (nb:Nat));conv=>whnf)
   have h9:Row 7 bZ ((((List.range i).flatMap (ny H bV at_)++(List.range k).flatMap (ic H bV at_ i)).take (most+1)++df (dD H at_ i c) bV jj []).take (most+1)) rk pY:=H0;rw [BW] at h9;exact ⟨_,_::(lk,.vec [rk])::pY,ah.sublist (.cons_cons _ (.cons _ (.cons _ (.cons_cons _ (.cons _ (List.sublist_append_right ss pY)))))),_,(by omega),k+1,_,_,_,_,rfl,rfl,rfl,(by show c+1=_;omega),by omega,by rw [bf,yv,BB];rw [List.append_assoc] at h9;exact h9⟩
  have xL:k=H.lex.bM.length+1:=(by omega);rw [xL] at hr;(conv=>whnf);repeat (refine ⟨ag ⟨by omega,by omega⟩,?_⟩;conv=>whnf)
  exact ⟨_,_,ah.sublist (.cons _ (List.Sublist.refl _)),_,(by omega),i+1,_,_,rfl,rfl,rfl,by omega,by rw [List.range_succ,List.flatMap_append,List.flatMap_singleton];exact hr⟩
 have bw:i=H.lex.entries.length:=(by omega);rw [bw] at hr;have yo:((mE H bV at_).take (most+1)).length<=4294967296:=by rw [List.length_take];omega
 have yx:∀ e∈(mE H bV at_).take (most+1),wF H at_ e:=fun e he=>EV hH vc vd e (List.mem_of_mem_take he);rcases hr with ⟨aM,rfl,rfl⟩|⟨aM,b,rfl,rfl⟩
 ·have aM:(mE H bV at_).take (most+1)=[]:=aM;(conv=>whnf);repeat ((first|refine ab.k0 (F8 _) ?_|refine ⟨_,_,.head _,rfl,?_⟩|refine ⟨_,_,.here _,aI,?_⟩);conv=>whnf)
  exact ⟨[],_,.inl ⟨by rw [Hw,aM];simp [lB,pz],rfl,rfl⟩,rfl⟩
 have aM:(mE H bV at_).take (most+1)≠[]:=aM;(conv=>whnf);repeat (refine ⟨_,_,.head _,rfl,?_⟩;conv=>whnf)
 refine aw.mono ?_ (aw.perm (aw.frame (F9 b _ aM yo (fun x hx=>⟨by have:=(yx x hx).cl;omega,by have:=(yx x hx).bB;omega⟩) (fun x hx y hy=>Np (yx x hx) (yx y hy))) _) (.swap _ _ _));rintro v h1 ⟨h2,⟨rfl,rfl⟩,rfl⟩;(conv=>whnf);repeat ((first|refine ⟨_,_,.tail _ (.head _),rfl,?_⟩|refine ⟨_,_,.there (.here _),aI,?_⟩);conv=>whnf)
 refine ⟨_,_,.inr ⟨?_,b,?_,rfl⟩,by rw [Hw];rfl⟩
 ·rw [Hw];intro h;have:=congrArg List.length h;rw [lB,sJ] at this;exact aM (List.eq_nil_of_length_eq_zero this)
 rw [Hw,lB,sJ];rfl
theorem Nw (H:aD) (line:List Int) (at_ most:Nat) (hH:kc H) (iE:dx H) (Hu:∀ s∈line,0<=s/\s<H.list.aK.length) (hlen:line.length<=1048576) (cK:at_<=line.length) (Hq:most<=1048575) :
  ab Tryz.prog 39 [.agg (aZ H),.sl 1 none (ints line),.int .i64 at_,.int .i64 most] [] (.sl 7 none ((wk H line at_ most).map bZ)):=Row.ok (by decide) (fun _=>rfl) (G6 H line at_ most hH iE Hu hlen cK Hq)
end Go.Abs.Wall
