/- What is proved: small laws for the walks of this seat, and contracts of its functions. No condition but those each theorem names. -/
import Derived.Test.YtmkmflcemegikaaGreatDoorN5
set_option maxRecDepth 100000
set_option maxHeartbeats 2000000
set_option linter.unusedVariables false
set_option linter.unusedSimpArgs false
namespace Go.Abs.Wall
open Go Go.Abs Go.Proofs
def partM (s:Sp) (p:Prg):List UInt8:=(tot s p.cl).drop p.sounds.length
def endsM (s:Sp) (p:Prg):Bool:=decide (p.sounds.length=(tot s p.cl).length)
def firstC (cl:List Int):Int:=match cl.getLast? with
 | some c=>c+1
 | none=>0
def spellGo (p:Prg) (u:Use):List Cli→Int→List Prg
 | [],_=>[]
 | k::t,c=>(if begins k.text u.text=true then [⟨p.sounds++u.text,p.closed,p.cl++[c],u⟩] else [])++spellGo p u t (c+1)
def spellM (s:Sp) (p:Prg) (u:Use):List Prg:=
 if partM s p≠[] then (if begins (partM s p) u.text=true then [⟨p.sounds++u.text,p.closed,p.cl,u⟩] else [])
 else if p.cl.length<3 then spellGo p u (s.H.lex.clitics.drop (firstC p.cl).toNat) (firstC p.cl) else []
theorem firstC_ok {s:Sp} {p:Prg} (hp:PrgOK s p):0≤firstC p.cl∧firstC p.cl≤s.H.lex.clitics.length:=by
 unfold firstC
 cases h:p.cl.getLast? with
 | none=>simp
 | some c=>
   have:=hp.cli c (List.mem_of_getLast? h)
   simp only
   omega
theorem spellGo_len (p:Prg) (u:Use):∀ (l:List Cli) (c:Int),(spellGo p u l c).length≤l.length
 | [],_=>by simp [spellGo]
 | k::t,c=>by
   have:=spellGo_len p u t (c+1)
   unfold spellGo
   rw [List.length_append,List.length_cons]
   split<;>simp<;>omega
def Out {α:Type} (k:Nat) (enc:α→List AV) (o:List α) (v:AV) (hp:Heap):Prop:=(o=[]∧v=.nilS∧hp=[])∨∃ q,v=.sl k (some q) (o.map enc)∧hp=[(q,.tok)]
theorem Out.le {α:Type} {k:Nat} {enc:α→List AV} {o:List α} {v:AV} {hp:Heap} (hk:0<k) (h:Out k enc o v hp):VLe v (.sl k none (o.map enc)):=by
 rcases h with ⟨rfl,rfl,rfl⟩|⟨q,rfl,rfl⟩
 ·exact VLe.nil hk
 ·exact VLe.sl
theorem clV {t:Option Nat} {cl:List Int} {c:Int}:VLe (.sl 1 t (ints cl++[[.int .i64 c]])) (.sl 1 none (ints (cl++[c]))):=by
 rw [show ints (cl++[c])=ints cl++[[.int .i64 c]] by simp [ints]]
 exact VLe.sl
theorem prgV {v:AV} {p:Prg} {u:Use} {c:Int} (hv:VLe v (.sl 1 none (ints (p.cl++[c])))):VsLe [.str (p.sounds++u.text),.int .i64 0,.bool p.closed,v,.int .i64 u.kind,.str u.text] (encPrg ⟨p.sounds++u.text,p.closed,p.cl++[c],u⟩):=
 .cons (VLe.refl _) (.cons (VLe.refl _) (.cons (VLe.refl _) (.cons hv (.cons (VLe.refl _) (.cons (VLe.refl _) .nil)))))
def c109:Cfg:=⟨[0,1,2,4,5,6,7,8,9,10,11,16,20,38,61,77],[4],[],[],[(15,[0,1,2,3,4,5,6,7,8,9,10,11,12,13],[])],[]⟩
theorem spellA (s:Sp) (p:Prg) (u:Use) (hs:SpOK s) (hp:PrgOK s p) (hu:u.text.length≤1048576) :
  QCall Tryz.prog 109 [.iptr (encSp s),.agg (encPrg p),.agg (encUse u)] [] (.sl 6 none ((spellM s p u).map encPrg)):=by
 have hb:=hs.body
 have hfew:=hp.few
 have hsn:=hp.sounds
 have htt:=hs.tot hp.cli
 have hpl:(partM s p).length≤LMAX:=by unfold partM LMAX;rw [List.length_drop];omega
 have hul:u.text.length≤LMAX:=by unfold LMAX;omega
 have hadd:(p.sounds++u.text).length≤LMAX:=by rw [List.length_append];unfold LMAX;omega
 have hmn:=hs.lex.many.2.2
 refine QCall.of (fcalls (F:=Tryz.f109) c109 rfl rfl rfl mixed rfl fun X=>?_)
 conv=>whnf
 intro kp
 conv=>whnf
 repeat ((first|refine QCall.k0 (partA s p hs hp) ?_|refine ⟨_,_,.head _,rfl,?_⟩);conv=>whnf)
 refine ⟨fun hc=>?_,fun hc=>?_⟩<;>simp only [Bool.not_eq_true',Bool.not_eq_false',decide_eq_true_eq,decide_eq_false_iff_not] at hc
 ·have hc:partM s p≠[]:=hc
  have hm:spellM s p u=if begins (partM s p) u.text=true then [⟨p.sounds++u.text,p.closed,p.cl,u⟩] else []:=by rw [spellM,if_pos hc]
  conv=>whnf
  repeat (refine QCall.k0 (hasPrefix (partM s p) u.text hpl hul) ?_;conv=>whnf)
  refine ⟨fun hq=>?_,fun hq=>?_⟩
  ·rw [if_pos hq] at hm
   rw [hm]
   conv=>whnf
   repeat ((first|(refine ⟨gP_of hadd,?_⟩)|(refine ⟨Nat.le_of_ble_eq_true rfl,fun q=>?_⟩)|refine ⟨_,_,.head _,rfl,?_⟩|refine ⟨_,_,.here _,leOK,?_⟩);conv=>whnf)
   exact VLe.sl
  ·rw [if_neg (by rw [hq];decide)] at hm
   rw [hm]
   conv=>whnf
   skip
   exact VLe.nil (by decide)
 ·have hc:partM s p=[]:=hc
  have hm:spellM s p u=if p.cl.length<3 then spellGo p u (s.H.lex.clitics.drop (firstC p.cl).toNat) (firstC p.cl) else []:=by rw [spellM,if_neg (by simpa using hc)]
  have hfc:=firstC_ok hp
  conv=>whnf
  repeat (refine ⟨_,_,.head _,rfl,?_⟩;conv=>whnf)
  refine ⟨fun hn=>?_,fun hn=>?_⟩<;>simp at hn
  ·obtain ⟨c,hcl⟩:=get_lt (l:=p.cl) (i:=p.cl.length - 1) (by omega)
   have hci:=hp.cli c (List.mem_of_getElem? hcl)
   have hf:firstC p.cl=c+1:=by unfold firstC;rw [List.getLast?_eq_getElem?,hcl]
   conv=>whnf
   repeat ((first|refine ⟨gP_of ⟨by omega,by omega⟩,?_⟩|(refine ixn (p.cl.length - 1) (by simp [ints];omega) hcl ?_)|(refine ⟨gP_of ⟨by simp [ints];omega,by simp [ints];omega⟩,?_⟩)|refine ⟨_,_,.head _,rfl,?_⟩);conv=>whnf)
   rw [← hf]
   refine tloop rfl mixed [0,4,5,6,10] [] (fun m r h=>∃ (c:Int) (o:List Prg) (v:AV) (hp0:Heap),r=[(0,[],.iptr (encSp s)),(4,[],.optr kp 0),(5,[],.iptr (encUse u)),(6,[],v),(10,[],.int .i64 c)]∧h=hp0++[(kp,.vec (encPrg p))]∧m=(s.H.lex.clitics.length - c).toNat∧0≤c∧c≤s.H.lex.clitics.length∧Out 6 encPrg o v hp0∧o.length≤c∧spellM s p u=o++(if p.cl.length<3 then spellGo p u (s.H.lex.clitics.drop c.toNat) c else [])) ?_ ?_
   ·conv=>whnf
    exact ⟨_,_,Turn.refl _ _,_,firstC p.cl,[],_,[],rfl,rfl,rfl,hfc.1,hfc.2,.inl ⟨rfl,rfl,rfl⟩,by simpa using hfc.1,by rw [hm];rfl⟩
   ·rintro m r h' ⟨c,o,v,hp0,rfl,rfl,rfl,hc0,hcn,hv,hol,hmo⟩
    have hob:o.length+1≤AMAX:=by have:=hs.lex.many;unfold AMAX;omega
    rcases hv with ⟨he,rfl,rfl⟩|⟨q,rfl,rfl⟩
    all_goals
     conv=>whnf
     repeat ((first|refine ⟨_,_,.head _,rfl,?_⟩|refine ⟨_,_,.tail _ (.head _),rfl,?_⟩);conv=>whnf)
     refine ⟨fun hi2=>?_,fun hi2=>?_⟩
     ·have hi3:c<s.H.lex.clitics.length∧p.cl.length<3:=by simp at hi2;exact ⟨hi2.1,by omega⟩
      have hct:=sndOK_len (hs.lex.cliAt hc0 hi3.1).text
      have hcl:(cliAt s.H.lex c).text.length≤LMAX:=by unfold LMAX;omega
      rw [if_pos hi3.2,drop_cons (cliAt_get hc0 hi3.1),spellGo,show ((c.toNat:Nat)+1)=(c+1).toNat by omega] at hmo
      conv=>whnf
      repeat ((first|(refine ixn c.toNat (by omega) (cliAt_get hc0 hi3.1) ?_)|refine gcall (hasPrefix (cliAt s.H.lex c).text u.text hcl hul) ?_|refine And.intro (by show drawOK (opsAt Tryz.f109 _) _=true;decide +kernel) ?_);conv=>whnf)
      refine ⟨fun hq=>?_,fun hq=>?_⟩<;>simp only [Bool.not_eq_true',Bool.not_eq_false'] at hq
      ·rw [if_neg (by rw [hq];decide),List.nil_append] at hmo
       conv=>whnf
       repeat (refine ⟨gP_of ⟨by omega,by omega⟩,?_⟩;conv=>whnf)
       refine ⟨_,_,Turn.refl _ _,_,(by omega),c+1,o,_,_,rfl,rfl,rfl,by omega,by omega,?_,by omega,by rw [if_pos hi3.2];exact hmo⟩
       first|exact .inl ⟨he,rfl,rfl⟩|exact .inr ⟨q,rfl,rfl⟩
      ·rw [if_pos hq] at hmo
       conv=>whnf
       repeat ((first|(refine ⟨_,_,.tail _ (.tail _ (.head _)),rfl,?_⟩)|refine ⟨_,_,.head _,rfl,?_⟩|refine ⟨_,_,.tail _ (.head _),rfl,?_⟩|refine ⟨_,_,.here _,leOK,?_⟩|intro (nb:Nat));conv=>whnf)
       refine ACalls.mono ?_ (ACalls.frame (cloneIT p.cl (by unfold AMAX;omega)) _)
       rintro v h1 ⟨h2,hcl2,rfl⟩
       rcases hcl2 with ⟨he2,rfl,rfl⟩|⟨q2,rfl,rfl⟩
       all_goals
        conv=>whnf
        repeat ((first|refine ⟨gP_of ⟨by omega,by omega⟩,?_⟩|(refine ⟨gP_of hadd,?_⟩)|(refine ⟨(by first|exact Nat.le_of_ble_eq_true rfl|(simp [ints,AMAX];omega)),fun q3=>?_⟩)|(refine ⟨_,.here _,?_⟩)|(refine ⟨_,.there (.there (.here _)),?_⟩)|refine ⟨_,_,.tail _ (.head _),rfl,?_⟩|refine ⟨_,_,.there (.here _),leOK,?_⟩);conv=>whnf)
        refine ⟨[(0,[],.iptr (encSp s)),(4,[],.optr kp 0),(5,[],.iptr (encUse u)),(6,[],.sl 6 (some q3) ((o++[(⟨p.sounds++u.text,p.closed,p.cl++[c],u⟩:Prg)]).map encPrg)),(10,[],.int .i64 (c+1))],[(q3,.tok),(kp,.vec (encPrg p))],?_,_,(by omega),c+1,_,_,[(q3,.tok)],rfl,rfl,rfl,by omega,by omega,.inr ⟨_,rfl,rfl⟩,by simp;omega,by rw [if_pos hi3.2,hmo,List.append_assoc]⟩
        refine Turn.trans (Turn.weak (.cons (VLe.refl _) (.cons (VLe.refl _) (.cons (VLe.refl _) (.cons ?_ (RLe.refl _)))))) (Turn.sub ?_ ?_)
        ·first
          | (rw [he];exact VLe.els (.cons (prgV clV) .nil))
          | (rw [he];refine VLe.els (.cons (prgV ?_) .nil);have h9:=fun t=>clV (t:=t) (cl:=p.cl) (c:=c);rw [he2] at h9;exact h9 _)
          | (rw [List.map_append];exact VLe.els (VssLe.snoc (prgV clV)))
          | (rw [List.map_append];refine VLe.els (VssLe.snoc (prgV ?_));have h9:=fun t=>clV (t:=t) (cl:=p.cl) (c:=c);rw [he2] at h9;exact h9 _)
        ·intro k o hm
         simp only [List.mem_cons,List.not_mem_nil,or_false] at hm
         rcases hm with hm|hm<;>simp [hm]
        ·intro hn
         simp [keys] at hn ⊢
         simp [hn]
     ·have hmo2:spellM s p u=o:=by
       rw [hmo]
       simp at hi2
       split
       ·rename_i h3
        rw [drop_nil (by omega)];simp [spellGo]
       ·simp
      rw [hmo2]
      conv=>whnf
      skip
      first|exact Out.le (by decide) (.inl ⟨he,rfl,rfl⟩)|exact Out.le (by decide) (.inr ⟨q,rfl,rfl⟩)
  ·have hf:firstC p.cl=0:=by rw [hn];rfl
   conv=>whnf
   skip
   have h00:(0:Int)=firstC p.cl:=hf.symm
   rw [h00]
   refine tloop rfl mixed [0,4,5,6,10] [] (fun m r h=>∃ (c:Int) (o:List Prg) (v:AV) (hp0:Heap),r=[(0,[],.iptr (encSp s)),(4,[],.optr kp 0),(5,[],.iptr (encUse u)),(6,[],v),(10,[],.int .i64 c)]∧h=hp0++[(kp,.vec (encPrg p))]∧m=(s.H.lex.clitics.length - c).toNat∧0≤c∧c≤s.H.lex.clitics.length∧Out 6 encPrg o v hp0∧o.length≤c∧spellM s p u=o++(if p.cl.length<3 then spellGo p u (s.H.lex.clitics.drop c.toNat) c else [])) ?_ ?_
   ·conv=>whnf
    exact ⟨_,_,Turn.refl _ _,_,firstC p.cl,[],_,[],rfl,rfl,rfl,hfc.1,hfc.2,.inl ⟨rfl,rfl,rfl⟩,by simpa using hfc.1,by rw [hm];rfl⟩
   ·rintro m r h' ⟨c,o,v,hp0,rfl,rfl,rfl,hc0,hcn,hv,hol,hmo⟩
    have hob:o.length+1≤AMAX:=by have:=hs.lex.many;unfold AMAX;omega
    rcases hv with ⟨he,rfl,rfl⟩|⟨q,rfl,rfl⟩
    all_goals
     conv=>whnf
     repeat ((first|refine ⟨_,_,.head _,rfl,?_⟩|refine ⟨_,_,.tail _ (.head _),rfl,?_⟩);conv=>whnf)
     refine ⟨fun hi2=>?_,fun hi2=>?_⟩
     ·have hi3:c<s.H.lex.clitics.length∧p.cl.length<3:=by simp at hi2;exact ⟨hi2.1,by omega⟩
      have hct:=sndOK_len (hs.lex.cliAt hc0 hi3.1).text
      have hcl:(cliAt s.H.lex c).text.length≤LMAX:=by unfold LMAX;omega
      rw [if_pos hi3.2,drop_cons (cliAt_get hc0 hi3.1),spellGo,show ((c.toNat:Nat)+1)=(c+1).toNat by omega] at hmo
      conv=>whnf
      repeat ((first|(refine ixn c.toNat (by omega) (cliAt_get hc0 hi3.1) ?_)|refine gcall (hasPrefix (cliAt s.H.lex c).text u.text hcl hul) ?_|refine And.intro (by show drawOK (opsAt Tryz.f109 _) _=true;decide +kernel) ?_);conv=>whnf)
      refine ⟨fun hq=>?_,fun hq=>?_⟩<;>simp only [Bool.not_eq_true',Bool.not_eq_false'] at hq
      ·rw [if_neg (by rw [hq];decide),List.nil_append] at hmo
       conv=>whnf
       repeat (refine ⟨gP_of ⟨by omega,by omega⟩,?_⟩;conv=>whnf)
       refine ⟨_,_,Turn.refl _ _,_,(by omega),c+1,o,_,_,rfl,rfl,rfl,by omega,by omega,?_,by omega,by rw [if_pos hi3.2];exact hmo⟩
       first|exact .inl ⟨he,rfl,rfl⟩|exact .inr ⟨q,rfl,rfl⟩
      ·rw [if_pos hq] at hmo
       conv=>whnf
       repeat ((first|(refine ⟨_,_,.tail _ (.tail _ (.head _)),rfl,?_⟩)|refine ⟨_,_,.head _,rfl,?_⟩|refine ⟨_,_,.tail _ (.head _),rfl,?_⟩|refine ⟨_,_,.here _,leOK,?_⟩|intro (nb:Nat));conv=>whnf)
       refine ACalls.mono ?_ (ACalls.frame (cloneIT p.cl (by unfold AMAX;omega)) _)
       rintro v h1 ⟨h2,hcl2,rfl⟩
       rcases hcl2 with ⟨he2,rfl,rfl⟩|⟨q2,rfl,rfl⟩
       all_goals
        conv=>whnf
        repeat ((first|refine ⟨gP_of ⟨by omega,by omega⟩,?_⟩|(refine ⟨gP_of hadd,?_⟩)|(refine ⟨(by first|exact Nat.le_of_ble_eq_true rfl|(simp [ints,AMAX];omega)),fun q3=>?_⟩)|(refine ⟨_,.here _,?_⟩)|(refine ⟨_,.there (.there (.here _)),?_⟩)|refine ⟨_,_,.tail _ (.head _),rfl,?_⟩|refine ⟨_,_,.there (.here _),leOK,?_⟩);conv=>whnf)
        refine ⟨[(0,[],.iptr (encSp s)),(4,[],.optr kp 0),(5,[],.iptr (encUse u)),(6,[],.sl 6 (some q3) ((o++[(⟨p.sounds++u.text,p.closed,p.cl++[c],u⟩:Prg)]).map encPrg)),(10,[],.int .i64 (c+1))],[(q3,.tok),(kp,.vec (encPrg p))],?_,_,(by omega),c+1,_,_,[(q3,.tok)],rfl,rfl,rfl,by omega,by omega,.inr ⟨_,rfl,rfl⟩,by simp;omega,by rw [if_pos hi3.2,hmo,List.append_assoc]⟩
        refine Turn.trans (Turn.weak (.cons (VLe.refl _) (.cons (VLe.refl _) (.cons (VLe.refl _) (.cons ?_ (RLe.refl _)))))) (Turn.sub ?_ ?_)
        ·first
          | (rw [he];exact VLe.els (.cons (prgV clV) .nil))
          | (rw [he];refine VLe.els (.cons (prgV ?_) .nil);have h9:=fun t=>clV (t:=t) (cl:=p.cl) (c:=c);rw [he2] at h9;exact h9 _)
          | (rw [List.map_append];exact VLe.els (VssLe.snoc (prgV clV)))
          | (rw [List.map_append];refine VLe.els (VssLe.snoc (prgV ?_));have h9:=fun t=>clV (t:=t) (cl:=p.cl) (c:=c);rw [he2] at h9;exact h9 _)
        ·intro k o hm
         simp only [List.mem_cons,List.not_mem_nil,or_false] at hm
         rcases hm with hm|hm<;>simp [hm]
        ·intro hn
         simp [keys] at hn ⊢
         simp [hn]
     ·have hmo2:spellM s p u=o:=by
       rw [hmo]
       simp at hi2
       split
       ·rename_i h3
        rw [drop_nil (by omega)];simp [spellGo]
       ·simp
      rw [hmo2]
      conv=>whnf
      skip
      first|exact Out.le (by decide) (.inl ⟨he,rfl,rfl⟩)|exact Out.le (by decide) (.inr ⟨q,rfl,rfl⟩)
end Go.Abs.Wall
namespace Go.Abs.Wall
open Go Go.Abs Go.Proofs
def stBad (s:Sp) (p:Prg) (u:Use):Bool:=!decide (p.last.kind=0)||!decide (u.text=s.e.root)
def heavy (p:Prg):Bool:=decide (p.last.kind=2)||(decide (p.last.kind=1)&&decide (2≤(p.last.text.length:Int)))
def rpBad (p:Prg) (u:Use):Bool:=!heavy p||decide ((p.last.text.length:Int)<u.text.length)||!endsW p.sounds u.text
def clBad (s:Sp) (p:Prg) (u:Use):Bool:=p.closed||decide (s.e.cls=[])||!decide (u.text=s.e.cls)||decide (0<(p.cl.length:Int))||!decide ((p.sounds.length:Int)=s.body.length)
def nextM (s:Sp) (p:Prg) (u:Use):List Prg:=
 if u.kind=1 then spellM s p u
 else if u.kind=2 then (if stBad s p u=true then [] else [⟨u.text,p.closed,p.cl,u⟩])
 else if u.kind=3 then (if rpBad p u=true then [] else [⟨p.sounds,p.closed,p.cl,u⟩])
 else if u.kind=4 then (if clBad s p u=true then [] else [⟨p.sounds,true,p.cl,u⟩])
 else []
def c93:Cfg:=⟨[0,1,2,4,5,6,7,9,10,16,31,35,73,74,112],[4],[],[],[(6,[0,1,2,3,4,5,6,7,8,9,10,11,12,13],[]),(14,[0,1,2,3,4,5,6,7,8,9,10,11,12,13,14,15,16,17,18,19,20,21,22,23,24,25,26,27,28,29,30,31,32,33,34,35,36],[])],[]⟩
theorem nextA (s:Sp) (p:Prg) (u:Use) (hs:SpOK s) (hp:PrgOK s p) (hu:u.text.length≤1048576) :
  QCall Tryz.prog 93 [.iptr (encSp s),.agg (encPrg p),.agg (encUse u)] [] (.sl 6 none ((nextM s p u).map encPrg)):=by
 have hb:=hs.body
 have hfew:=hp.few
 have hsn:=hp.sounds
 have htt:=hs.tot hp.cli
 have hpl:p.sounds.length≤LMAX:=by unfold LMAX;omega
 have hul:u.text.length≤LMAX:=by unfold LMAX;omega
 refine QCall.of (fcalls (F:=Tryz.f93) c93 rfl rfl rfl mixed rfl fun X=>?_)
 conv=>whnf
 intro kp
 conv=>whnf
 skip
 refine ⟨fun h1=>?_,fun h1=>?_⟩<;>simp only [decide_eq_true_eq,decide_eq_false_iff_not] at h1
 ·have hm:nextM s p u=spellM s p u:=by rw [nextM,if_pos h1]
  rw [hm]
  conv=>whnf
  repeat ((first|refine QCall.k0 (spellA s p u hs hp hu) ?_|refine ⟨_,_,.head _,rfl,?_⟩);conv=>whnf)
  exact VLe.refl _
 conv=>whnf
 skip
 refine ⟨fun h2=>?_,fun h2=>?_⟩<;>simp only [decide_eq_true_eq,decide_eq_false_iff_not] at h2
 ·have hm:nextM s p u=if stBad s p u=true then [] else [⟨u.text,p.closed,p.cl,u⟩]:=by rw [nextM,if_neg h1,if_pos h2]
  conv=>whnf
  repeat ((first|refine ⟨_,_,.head _,rfl,?_⟩|refine And.intro (by show drawOK (opsAt Tryz.f93 _) _=true;decide +kernel) ?_);conv=>whnf)
  refine ⟨fun hq=>?_,fun hq=>?_⟩
  ·have hq:stBad s p u=true:=hq
   rw [hm,if_pos hq]
   conv=>whnf
   exact VLe.nil (by decide)
  ·have hq:stBad s p u=false:=hq
   rw [hm,if_neg (by rw [hq];decide)]
   conv=>whnf
   repeat ((first|refine ⟨_,_,.head _,rfl,?_⟩|refine ⟨_,_,.here _,leOK,?_⟩);conv=>whnf)
   exact VLe.refl _
 conv=>whnf
 skip
 refine ⟨fun h3=>?_,fun h3=>?_⟩<;>simp only [decide_eq_true_eq,decide_eq_false_iff_not] at h3
 ·have hm:nextM s p u=if rpBad p u=true then [] else [⟨p.sounds,p.closed,p.cl,u⟩]:=by rw [nextM,if_neg h1,if_neg h2,if_pos h3]
  conv=>whnf
  repeat ((first|refine gcall (hasSuffix p.sounds u.text hpl hul) ?_|refine ⟨_,_,.head _,rfl,?_⟩);conv=>whnf)
  refine ⟨fun hq=>?_,fun hq=>?_⟩
  ·have hq:rpBad p u=true:=hq
   rw [hm,if_pos hq]
   conv=>whnf
   exact VLe.nil (by decide)
  ·have hq:rpBad p u=false:=hq
   rw [hm,if_neg (by rw [hq];decide)]
   conv=>whnf
   repeat ((first|refine ⟨_,_,.head _,rfl,?_⟩|refine ⟨_,_,.here _,leOK,?_⟩);conv=>whnf)
   exact VLe.refl _
 conv=>whnf
 skip
 refine ⟨fun h4=>?_,fun h4=>?_⟩<;>simp only [decide_eq_true_eq,decide_eq_false_iff_not] at h4
 ·have hm:nextM s p u=if clBad s p u=true then [] else [⟨p.sounds,true,p.cl,u⟩]:=by rw [nextM,if_neg h1,if_neg h2,if_neg h3,if_pos h4]
  conv=>whnf
  repeat ((first|refine ⟨_,_,.head _,rfl,?_⟩|refine And.intro (by show drawOK (opsAt Tryz.f93 _) _=true;decide +kernel) ?_);conv=>whnf)
  refine ⟨fun hq=>?_,fun hq=>?_⟩
  ·have hq:(p.closed||decide (s.e.cls=[])||!decide (u.text=s.e.cls)||decide (0<((ints p.cl).length:Int))||!decide ((p.sounds.length:Int)=s.body.length))=true:=hq
   rw [ints_length] at hq
   have hq:clBad s p u=true:=hq
   rw [hm,if_pos hq]
   conv=>whnf
   exact VLe.nil (by decide)
  ·have hq:(p.closed||decide (s.e.cls=[])||!decide (u.text=s.e.cls)||decide (0<((ints p.cl).length:Int))||!decide ((p.sounds.length:Int)=s.body.length))=false:=hq
   rw [ints_length] at hq
   have hq:clBad s p u=false:=hq
   rw [hm,if_neg (by rw [hq];decide)]
   conv=>whnf
   repeat ((first|refine ⟨_,_,.head _,rfl,?_⟩|refine ⟨_,_,.here _,leOK,?_⟩);conv=>whnf)
   exact VLe.refl _
 ·have hm:nextM s p u=[]:=by rw [nextM,if_neg h1,if_neg h2,if_neg h3,if_neg h4]
  rw [hm]
  conv=>whnf
  skip
  exact VLe.nil (by decide)
def UseOK (u:Use):Prop:=1≤u.kind∧u.kind≤4∧1≤u.text.length∧u.text.length≤8
theorem begins_len {t w:List UInt8} (h:begins t w=true):w.length≤t.length:=by
 unfold begins at h
 simp only [Bool.and_eq_true,decide_eq_true_eq] at h
 omega
theorem spellGo_ok {s:Sp} {p:Prg} {u:Use} (hp:PrgOK s p) (hu:UseOK u) (he:p.sounds.length=(tot s p.cl).length) (h3:p.cl.length<3):∀ (l:List Cli) (c:Int),0≤c→s.H.lex.clitics.drop c.toNat=l→∀ q∈spellGo p u l c,PrgOK s q
 | [],_,_,_,q,hq=>by cases hq
 | k::t,c,h0,hd,q,hq=>by
   unfold spellGo at hq
   have hk:s.H.lex.clitics[c.toNat]?=some k:=by
    have:=congrArg (fun z=>z[0]?) hd
    simpa using this
   have hlt:=(List.getElem?_eq_some_iff.1 hk).1
   have hd2:s.H.lex.clitics.drop (c+1).toNat=t:=by
    have:=congrArg List.tail hd
    rw [show (c+1).toNat=c.toNat+1 by omega]
    simpa [List.tail_drop] using this
   rcases List.mem_append.1 hq with hq|hq
   ·split at hq
    ·rename_i hb
     cases List.mem_singleton.1 hq
     have hca:(cliAt s.H.lex c)=k:=by
      have:=cliAt_get (x:=s.H.lex) h0 (by omega)
      rw [hk] at this
      exact (Option.some.inj this).symm
     refine ⟨by simp;omega,fun d hd=>?_,?_,fun h=>?_⟩
     ·rcases List.mem_append.1 hd with hd|hd
      ·exact hp.cli d hd
      ·cases List.mem_singleton.1 hd;omega
     ·show (p.sounds++u.text).length≤(tot s (p.cl++[c])).length
      rw [tot_snoc,List.length_append,List.length_append,hca]
      have:=begins_len hb
      omega
     ·exact absurd h (by have:=hu.1;show ¬ u.kind=0;omega)
    ·cases hq
   ·exact spellGo_ok hp hu he h3 t (c+1) (by omega) hd2 q hq
theorem spellM_ok {s:Sp} {p:Prg} {u:Use} (hp:PrgOK s p) (hu:UseOK u):∀ q∈spellM s p u,PrgOK s q:=by
 intro q hq
 unfold spellM at hq
 split at hq
 ·split at hq
  ·rename_i hb
   cases List.mem_singleton.1 hq
   have:=begins_len hb
   unfold partM at this
   rw [List.length_drop] at this
   refine ⟨hp.few,hp.cli,?_,fun h=>absurd h (by have:=hu.1;show ¬ u.kind=0;omega)⟩
   show (p.sounds++u.text).length≤_
   rw [List.length_append]
   have:=hp.sounds
   show _≤(tot s p.cl).length
   omega
  ·cases hq
 ·rename_i h0
  split at hq
  ·rename_i h3
   have he:p.sounds.length=(tot s p.cl).length:=by
    have h1:=hp.sounds
    simp only [ne_eq,Decidable.not_not] at h0
    unfold partM at h0
    rw [List.drop_eq_nil_iff] at h0
    omega
   exact spellGo_ok hp hu he h3 _ _ (firstC_ok hp).1 rfl q hq
  ·cases hq
theorem nextM_ok {s:Sp} {p:Prg} {u:Use} (hs:SpOK s) (hp:PrgOK s p) (hu:UseOK u):∀ q∈nextM s p u,PrgOK s q:=by
 intro q hq
 have hk:¬ u.kind=0:=by have:=hu.1;omega
 unfold nextM at hq
 split at hq
 ·exact spellM_ok hp hu q hq
 split at hq
 ·split at hq
  ·cases hq
  ·rename_i hb
   cases List.mem_singleton.1 hq
   rw [Bool.not_eq_true] at hb
   unfold stBad at hb
   simp only [Bool.or_eq_false_iff,Bool.not_eq_false',decide_eq_true_eq] at hb
   obtain ⟨h1,h2⟩:=hp.new hb.1
   refine ⟨hp.few,hp.cli,?_,fun h=>absurd h hk⟩
   show u.text.length≤_
   rw [hb.2]
   have:=hs.root
   unfold tot
   rw [List.length_append]
   omega
 split at hq
 ·split at hq
  ·cases hq
  ·cases List.mem_singleton.1 hq
   exact ⟨hp.few,hp.cli,hp.sounds,fun h=>absurd h hk⟩
 split at hq
 ·split at hq
  ·cases hq
  ·cases List.mem_singleton.1 hq
   exact ⟨hp.few,hp.cli,hp.sounds,fun h=>absurd h hk⟩
 ·cases hq
def prg0:Prg:=⟨[],false,[],⟨0,[]⟩⟩
theorem prg0_ok (s:Sp):PrgOK s prg0:=⟨by simp [prg0],by simp [prg0],by simp [prg0],fun _=>⟨rfl,rfl⟩⟩
end Go.Abs.Wall
namespace Go.Abs.Wall
open Go Go.Abs Go.Proofs
structure Wrd where
 form:Frm
 uses:List Use
deriving DecidableEq
def encWrd (w:Wrd):List AV:=encFrm w.form++[.sl 2 none (w.uses.map encUse)]
def useCost (c:Cos) (u:Use):Int:=
 if u.kind=1 then c.spell else if u.kind=2 then c.stand else if u.kind=3 then c.rpt else if u.kind=4 then c.cls else 0
def usesCost (c:Cos) (l:List Use):Int:=(l.map (useCost c)).sum
def closes (l:List Use):Bool:=l.any fun u=>decide (u.kind=4)
def frmW (x:Lex) (f:Frm):Int:=if frmErr x f=0 then wgtM x f else 0
def priceM (H:Hou) (w:Wrd):Int:=
 frmW H.lex w.form+usesCost H.costs w.uses+(if (!closes w.uses&&!decide ((entAt H.lex w.form.entry).cls=[]))=true then H.costs.opn else 0)
structure HouOK (H:Hou):Prop where
 lst:lstErr H.list=0
 lex:LexOK H.lex
 costs:∀ c∈costL H.costs,0≤c∧c≤1000
 period:1≤H.period∧H.period≤H.list.periods
theorem houOK {H:Hou} (h:houErr H=0):HouOK H:=by
 unfold houErr at h
 split at h
 ·rename_i h1;exact absurd h h1
 rename_i h1
 split at h
 ·rename_i h2;exact absurd h h2
 rename_i h2
 split at h
 ·cases h
 rename_i h3
 split at h
 ·cases h
 rename_i h4
 rw [Bool.not_eq_false,List.all_eq_true] at h3
 rw [Bool.not_eq_false,wthn_iff] at h4
 exact ⟨by omega,lexOK (by omega),fun c hc=>wthn_iff.1 (h3 c hc),h4⟩
theorem useCost_bound {H:Hou} (h:HouOK H) (u:Use):0≤useCost H.costs u∧useCost H.costs u≤1000:=by
 have hc:=h.costs
 unfold useCost
 split
 ·exact hc _ (by simp [costL])
 split
 ·exact hc _ (by simp [costL])
 split
 ·exact hc _ (by simp [costL])
 split
 ·exact hc _ (by simp [costL])
 ·omega
theorem usesCost_bound {H:Hou} (h:HouOK H):∀ l:List Use,0≤usesCost H.costs l∧usesCost H.costs l≤1000*l.length
 | []=>by simp [usesCost]
 | u::l=>by
   have h1:=usesCost_bound h l
   have h2:=useCost_bound h u
   unfold usesCost at h1 ⊢
   simp only [List.map_cons,List.sum_cons,List.length_cons]
   omega
theorem usesCost_snoc {c:Cos} {l:List Use} {u:Use}:usesCost c (l++[u])=usesCost c l+useCost c u:=by
 unfold usesCost;simp
theorem closes_snoc {l:List Use} {u:Use}:closes (l++[u])=(closes l||decide (u.kind=4)):=by
 unfold closes;simp
theorem frmW_bound {x:Lex} {f:Frm}:0≤frmW x f∧frmW x f≤5000:=by
 unfold frmW
 split
 ·rename_i h;exact (frmOK h).wgt
 ·omega
theorem priceM_bound {H:Hou} (h:HouOK H) {w:Wrd}:0≤priceM H w∧priceM H w≤6000+1000*w.uses.length:=by
 have h1:=frmW_bound (x:=H.lex) (f:=w.form)
 have h2:=usesCost_bound h w.uses
 have h3:=h.costs H.costs.opn (by simp [costL])
 unfold priceM
 split<;>omega
def c92:Cfg:=⟨[0,1,2,3,4,5,7,9,19,20,21,22,26,27,34,41,48,69],[],[9],[],[],[]⟩
theorem priceW (H:Hou) (w:Wrd) (hx:LexFit H.lex) (hH:HouOK H) (hf:w.form.clitics.length≤LMAX) (he:0≤w.form.entry∧w.form.entry<H.lex.entries.length) (hu:w.uses.length≤1048576) :
  QCall Tryz.prog 92 [.agg (encHou H),.agg (encWrd w)] [] (.int .i64 (priceM H w)):=by
 have hfw:=frmW_bound (x:=H.lex) (f:=w.form)
 have hop:=hH.costs H.costs.opn (by simp [costL])
 refine fcalls (F:=Tryz.f92) c92 rfl rfl rfl mixed rfl fun X=>?_
 conv=>whnf
 repeat (refine QCall.k0 (WeightW H.lex w.form hx hf) ?_;conv=>whnf)
 refine sloop rfl mixed [2,3,5,7,19,20,21] [] (fun m r h=>∃ (i:Nat) (n:Int) (cl:Bool),r=[(2,[],.iptr (encHou H)),(3,[],.iptr (encWrd w)),(5,[],.int .i64 n),(7,[],.bool cl),(19,[],.sl 2 none (w.uses.map encUse)),(20,[],.int .i64 (w.uses.map encUse).length),(21,[],.int .i64 i)]∧h=[]∧m=w.uses.length - i∧i≤w.uses.length∧n=frmW H.lex w.form+usesCost H.costs (w.uses.take i)∧cl=closes (w.uses.take i)) ?_ ?_
 ·conv=>whnf
  exact ⟨_,0,frmW H.lex w.form,false,rfl,rfl,rfl,by omega,by simp [usesCost],by simp [closes]⟩
 ·rintro m r h' ⟨i,n,cl,rfl,rfl,rfl,hi,hn,hcl⟩
  have hb:=usesCost_bound hH (w.uses.take i)
  rw [List.length_take] at hb
  conv=>whnf
  refine ⟨fun hi2=>?_,fun hi2=>?_⟩<;>simp at hi2
  ·obtain ⟨u,hu'⟩:=get_lt hi2
   have hs':=take_snoc hu'
   have hcb:=useCost_bound hH u
   have hsc:=usesCost_snoc (c:=H.costs) (l:=w.uses.take i) (u:=u)
   have hsl:=closes_snoc (l:=w.uses.take i) (u:=u)
   rw [← hs'] at hsc hsl
   unfold useCost at hsc hcb
   conv=>whnf
   repeat ((first|refine ix (by assumption) ?_|refine ⟨_,_,Rem.here _,⟨Nat.le_of_ble_eq_true rfl,rfl⟩,?_⟩|intro (nb:Nat));conv=>whnf)
   refine ⟨fun hk=>?_,fun hk=>?_⟩<;>simp only [decide_eq_true_eq,decide_eq_false_iff_not] at hk
   ·rw [if_pos hk] at hsc hcb
    conv=>whnf
    repeat (refine ⟨gP_of ⟨by omega,by omega⟩,?_⟩;conv=>whnf)
    exact ⟨_,by omega,i+1,_,_,rfl,rfl,rfl,by omega,by rw [hsc,hn];show _+_=_;omega,by rw [hsl,hcl,decide_eq_false (by omega),Bool.or_false]⟩
   rw [if_neg hk] at hsc hcb
   conv=>whnf
   refine ⟨fun hk2=>?_,fun hk2=>?_⟩<;>simp only [decide_eq_true_eq,decide_eq_false_iff_not] at hk2
   ·rw [if_pos hk2] at hsc hcb
    conv=>whnf
    repeat (refine ⟨gP_of ⟨by omega,by omega⟩,?_⟩;conv=>whnf)
    exact ⟨_,by omega,i+1,_,_,rfl,rfl,rfl,by omega,by rw [hsc,hn];show _+_=_;omega,by rw [hsl,hcl,decide_eq_false (by omega),Bool.or_false]⟩
   rw [if_neg hk2] at hsc hcb
   conv=>whnf
   refine ⟨fun hk3=>?_,fun hk3=>?_⟩<;>simp only [decide_eq_true_eq,decide_eq_false_iff_not] at hk3
   ·rw [if_pos hk3] at hsc hcb
    conv=>whnf
    repeat (refine ⟨gP_of ⟨by omega,by omega⟩,?_⟩;conv=>whnf)
    exact ⟨_,by omega,i+1,_,_,rfl,rfl,rfl,by omega,by rw [hsc,hn];show _+_=_;omega,by rw [hsl,hcl,decide_eq_false (by omega),Bool.or_false]⟩
   rw [if_neg hk3] at hsc hcb
   conv=>whnf
   refine ⟨fun hk4=>?_,fun hk4=>?_⟩<;>simp only [decide_eq_true_eq,decide_eq_false_iff_not] at hk4
   ·rw [if_pos hk4] at hsc hcb
    conv=>whnf
    repeat (refine ⟨gP_of ⟨by omega,by omega⟩,?_⟩;conv=>whnf)
    exact ⟨_,by omega,i+1,_,_,rfl,rfl,rfl,by omega,by rw [hsc,hn];show _+_=_;omega,by rw [hsl,decide_eq_true hk4,Bool.or_true]⟩
   rw [if_neg hk4] at hsc hcb
   conv=>whnf
   repeat (refine ⟨gP_of ⟨by omega,by omega⟩,?_⟩;conv=>whnf)
   exact ⟨_,by omega,i+1,_,_,rfl,rfl,rfl,by omega,by rw [hsc,hn];omega,by rw [hsl,hcl,decide_eq_false hk4,Bool.or_false]⟩
  ·rw [List.take_of_length_le hi2] at hn hcl hb
   conv=>whnf
   repeat ((refine ixn w.form.entry.toNat (by omega) (entAt_get he.1 he.2) ?_);conv=>whnf)
   refine ⟨fun hq=>?_,fun hq=>?_⟩
   ·have hq:(!cl&&!decide ((entAt H.lex w.form.entry).cls=[]))=true:=hq
    rw [hcl] at hq
    conv=>whnf
    repeat (refine ⟨gP_of ⟨by omega,by omega⟩,?_⟩;conv=>whnf)
    refine ⟨congrArg (AV.int .i64) ?_,rfl⟩
    rw [priceM,if_pos hq,hn]
   ·have hq:(!cl&&!decide ((entAt H.lex w.form.entry).cls=[]))=false:=hq
    rw [hcl] at hq
    conv=>whnf
    skip
    refine ⟨congrArg (AV.int .i64) ?_,rfl⟩
    rw [priceM,if_neg (by rw [hq];decide),hn]
    omega
end Go.Abs.Wall
namespace Go.Abs.Wall
open Go Go.Abs Go.Proofs
structure Edg where
 frm:Int
 to:Int
 cost:Int
 word:Wrd
deriving DecidableEq
def encEdg (e:Edg):List AV:=[.int .i64 e.frm,.int .i64 e.to,.int .i64 e.cost]++encWrd e.word
def encUses (us:List Use):List AV:=[.sl 2 none (us.map encUse)]
structure Env where
 H:Hou
 s:Sp
 at_:Int
 entry:Int
 ending:Int
structure Run extends Env where
 most:Nat
 All:List (List Use)
def mkEdge (E:Env) (p:Prg) (T:List Use):Edg:=⟨E.at_,E.at_+T.length,priceM E.H ⟨⟨E.entry,E.ending,p.cl⟩,T⟩,⟨⟨E.entry,E.ending,p.cl⟩,T⟩⟩
def headW (E:Env) (p:Prg) (T:List Use):List Edg:=if (decide (0<(T.length:Int))&&endsM E.s p)=true then [mkEdge E p T] else []
def wordsR (E:Env):List (List Use)→Prg→List Use→List Edg
 | [],_,_=>[]
 | us::r,p,T=>us.flatMap fun u=>(nextM E.s p u).flatMap fun q=>headW E q (T++[u])++wordsR E r q (T++[u])
def wordsF (E:Env) (rest:List (List Use)) (p:Prg) (T:List Use):List Edg:=headW E p T++wordsR E rest p T
structure EnvOK (E:Run):Prop where
 hou:HouOK E.H
 fit:HouFit E.H
 sp:SpOK E.s
 entry:0≤E.entry∧E.entry<E.H.lex.entries.length
 place:0≤E.at_∧E.at_≤1048576
 most:E.most≤1048576
 few:E.All.length≤12
 uses:∀ us∈E.All,us.length≤1048576∧∀ u∈us,UseOK u
def capsW (E:Run) (sk tk lk en:Nat):List AV:=
 [.optr tk 0,.iptr [.iptr (encSp E.s)],.iptr [.int .i64 E.entry],.optr en 0,.optr lk 0,.iptr [.int .i64 E.at_],.iptr (encHou E.H),.iptr [.sl 1 none (E.All.map encUses)],.iptr [.int .i64 E.most],.optr sk 0]
def HC (E:Run) (sk tk lk en:Nat) (tv lv:AV):Heap:=[(sk,.vec [.fn 88 (capsW E sk tk lk en)]),(tk,.vec [tv]),(lk,.vec [lv]),(en,.vec [.int .i64 E.ending])]
def TRow (T:List Use) (v:AV) (hp:Heap):Prop:=(T=[]∧v=.nilO∧hp=[])∨∃ b,v=.osl b 0 T.length 2∧hp=[(b,.vec (T.map encUse).flatten)]
theorem take_app {α:Type} {A B C:List α} {m:Nat}:((A++B).take m++C).take m=(A++(B++C)).take m:=by
 rw [← List.append_assoc]
 by_cases h:(A++B).length≤m
 ·rw [List.take_of_length_le h]
 ·have h1:m≤(A++B).length:=by omega
  rw [List.take_append_of_le_length h1,List.take_append_of_le_length (by rw [List.length_take];omega),List.take_take,Nat.min_self]
theorem ACalls.perm {f:FuncId} {vs:List AV} {h h':Heap} {R:AV→Heap→Prop} (hf:ACalls Tryz.prog f vs h R) (hp:h.Perm h'):ACalls Tryz.prog f vs h' R:=
 ACalls.pre hf (fun k o hm=>hp.mem_iff.1 hm) (fun hn=>by unfold keys at hn ⊢;exact ((hp.map _).nodup_iff).2 hn)
theorem QCall.perm {f:FuncId} {vs:List AV} {h h2 h':Heap} {v:AV} (hf:QCall Tryz.prog f vs h v) (hp:(h++h2).Perm h'):QCall Tryz.prog f vs h' v:=by
 refine ACalls.post (ACalls.perm (ACalls.frame hf h2) hp) ?_
 rintro v' h1 ⟨h3,⟨rfl,rfl⟩,rfl⟩
 exact ⟨_,h',⟨rfl,rfl⟩,VLe.refl _,fun k o hm=>hp.mem_iff.2 hm,fun hn=>by unfold keys at hn ⊢;exact ((hp.map _).nodup_iff).1 hn⟩
theorem Turn.perm {r:Regs} {h h':Heap} (hp:h.Perm h'):Turn r h r h':=
 Turn.sub (fun k o hm=>hp.mem_iff.2 hm) (fun hn=>by unfold keys at hn ⊢;exact ((hp.map _).nodup_iff).1 hn)
theorem cloneU0 (b:Nat) (l:List Use) (hl:l.length≤AMAX):QCall Tryz.prog 91 [.osl b 0 l.length 2] [(b,.vec (l.map encUse).flatten)] (.sl 2 none (l.map encUse)):=by
 have:=cloneUO b l [] hl
 rwa [List.append_nil] at this
theorem nextM_len {s:Sp} (hs:SpOK s) (p:Prg) (u:Use):(nextM s p u).length≤11:=by
 have h1:=hs.lex.many.2.2
 unfold nextM spellM
 repeat' split
 all_goals first|(simp;done)|(have h2:=spellGo_len p u (s.H.lex.clitics.drop (firstC p.cl).toNat) (firstC p.cl);rw [List.length_drop] at h2;omega)
def StepC (E:Run) (sk tk lk en:Nat) (rest:List (List Use)):Prop:=
 ∀ (p:Prg) (T:List Use) (L:List Edg) (tv:AV) (thp:Heap) (lv:AV) (lhp:Heap),(∃ pre,E.All=pre++rest∧pre.length=T.length)→PrgOK E.s p→TRow T tv thp→Row 7 encEdg L lv lhp→(T≠[]→L.length≤E.most)→L.length≤E.most+1 →
  ACalls Tryz.prog 88 (.agg (encPrg p)::capsW E sk tk lk en) (HC E sk tk lk en tv lv++(thp++lhp))
   (fun v h'=>v=.tup []∧∃ tv' thp' lv' lhp',TRow T tv' thp'∧Row 7 encEdg ((L++wordsF E.toEnv rest p T).take (E.most+1)) lv' lhp'∧h'=HC E sk tk lk en tv' lv'++(thp'++lhp'))
def c88:Cfg:=⟨[0,1,2,3,4,5,6,7,8,9,10,11,12,13,15,17,26,51,55,56,57,58,64,65,66,67,73],[],[13,15,17],[],[(3,[0,1,2,3,4,5,6,7,8,9,10],[13]),(4,[0,1,2,3,4,5,6,7,8,9,10,11,12],[])],[]⟩
def restW (E:Run) (rest':List (List Use)) (p:Prg) (T:List Use) (us:List Use):List Edg:=us.flatMap fun u=>(nextM E.s p u).flatMap fun q=>wordsF E.toEnv rest' q (T++[u])
def StepJ (E:Run) (sk tk lk en:Nat) (p:Prg) (T:List Use) (us:List Use) (rest':List (List Use)) (W0:List Edg) (m:Nat) (r:Regs) (h:Heap):Prop:=
 ∃ (k:Nat) (n:Int) (L2:List Edg) (tv:AV) (thp:Heap) (lv:AV) (lhp:Heap),r=[(1,[],.optr tk 0),(2,[],.iptr [.iptr (encSp E.s)]),(5,[],.optr lk 0),(9,[],.iptr [.int .i64 E.most]),(10,[],.optr sk 0),(11,[],.iptr (encPrg p)),(12,[],.int .i64 n),(55,[],.sl 2 none (us.map encUse)),(56,[],.int .i64 (us.map encUse).length),(57,[],.int .i64 k)]∧h=HC E sk tk lk en tv lv++(thp++lhp)∧m=us.length - k∧n=T.length∧k≤us.length∧TRow T tv thp∧Row 7 encEdg L2 lv lhp∧L2.length≤E.most+1∧W0=(L2++restW E rest' p T (us.drop k)).take (E.most+1)
def StepR (E:Run) (sk tk lk en:Nat) (T:List Use) (W0:List Edg) (v:AV) (h':Heap):Prop:=v=.tup []∧∃ tv' thp' lv' lhp',TRow T tv' thp'∧Row 7 encEdg W0 lv' lhp'∧h'.Perm (HC E sk tk lk en tv' lv'++(thp'++lhp'))
set_option maxHeartbeats 2000000 in
theorem loopBody (E:Run) (sk tk lk en:Nat) (hE:EnvOK E) (p:Prg) (T:List Use) (us:List Use) (rest':List (List Use)) (W0:List Edg) (pre:List (List Use)) (hA:E.All=pre++us::rest') (hpl:pre.length=T.length) (hp:PrgOK E.s p) (IH:StepC E sk tk lk en rest') (kk:Nat) (X:Nat→Prop) :
  ∀ m r h,StepJ E sk tk lk en p T us rest' W0 m r h→run Tryz.prog c88 Tryz.f88 ⟨Tryz.f88.ntmps,X,endP Tryz.prog Tryz.f88 (StepR E sk tk lk en T W0)⟩ (kk+3900) (.go [false,false,true,true,true,true,true]) [.head (atHead [1,2,5,9,10,11,12,55,56,57] [] (TurnTo fun r h=>∃ m',m'<m∧StepJ E sk tk lk en p T us rest' W0 m' r h)),.blk 0] r h:=by
 have hfew:=hE.few
 have hAl:=congrArg List.length hA
 rw [List.length_append,List.length_cons] at hAl
 have hpc:=hp.few
 have hmost:=hE.most
 have hTb:T.length+1≤AMAX:=by unfold AMAX;omega
 have hus:E.All[T.length]?=some us:=by rw [hA,← hpl];simp
 obtain ⟨hub,huo⟩:=hE.uses us (List.mem_of_getElem? hus)
 rintro m r h' ⟨k,n,L2,tv,thp,lv,lhp,rfl,rfl,rfl,hn,hk,hT2,hL2,hL2m,hW2⟩
 unfold restW at hW2
 conv=>whnf
 refine ⟨fun hi2=>?_,fun hi2=>?_⟩<;>simp at hi2
 ·obtain ⟨u,hu⟩:=get_lt hi2
  have huk:=huo u (List.mem_of_getElem? hu)
  rw [drop_cons hu,List.flatMap_cons] at hW2
  have hnx:=nextM_ok hE.sp hp huk
  have hnl:=nextM_len hE.sp p u
  conv=>whnf
  repeat ((first|refine ix (by assumption) ?_|refine QCall.k0 (nextA E.s p u hE.sp hp (by have:=huk.2.2.2;omega)) ?_|refine ⟨_,_,Rem.here _,⟨Nat.le_of_ble_eq_true rfl,rfl⟩,?_⟩|intro (nb:Nat));conv=>whnf)
  refine tloop rfl mixed [1,2,5,9,10,11,12,15,55,56,57,64,65,66] [] (fun m r h=>∃ (j:Nat) (n:Int) (L3:List Edg) (tv:AV) (thp:Heap) (lv:AV) (lhp:Heap),r=[(1,[],.optr tk 0),(2,[],.iptr [.iptr (encSp E.s)]),(5,[],.optr lk 0),(9,[],.iptr [.int .i64 E.most]),(10,[],.optr sk 0),(11,[],.iptr (encPrg p)),(12,[],.int .i64 n),(15,[],.iptr (encUse u)),(55,[],.sl 2 none (us.map encUse)),(56,[],.int .i64 (us.map encUse).length),(57,[],.int .i64 k),(64,[],.sl 6 none ((nextM E.s p u).map encPrg)),(65,[],.int .i64 ((nextM E.s p u).map encPrg).length),(66,[],.int .i64 j)]∧h=HC E sk tk lk en tv lv++(thp++lhp)∧m=(nextM E.s p u).length - j∧n=T.length∧j≤(nextM E.s p u).length∧TRow T tv thp∧Row 7 encEdg L3 lv lhp∧L3.length≤E.most+1∧W0=(L3++(((nextM E.s p u).drop j).flatMap (fun q=>wordsF E.toEnv rest' q (T++[u]))++(us.drop (k+1)).flatMap fun u=>(nextM E.s p u).flatMap fun q=>wordsF E.toEnv rest' q (T++[u]))).take (E.most+1)) ?_ ?_
  ·conv=>whnf
   exact ⟨_,_,Turn.refl _ _,_,0,n,L2,_,_,_,_,rfl,rfl,rfl,hn,by omega,hT2,hL2,hL2m,hW2⟩
  ·clear hT2 hL2 hL2m hW2
   rintro m r h' ⟨j,n,L3,tv,thp,lv,lhp,rfl,rfl,rfl,rfl,hj,hT3,hL3,hL3m,hW3⟩
   conv=>whnf
   refine ⟨fun hj2=>?_,fun hj2=>?_⟩<;>simp at hj2
   ·obtain ⟨q,hq⟩:=get_lt hj2
    have hqo:=hnx q (List.mem_of_getElem? hq)
    rw [drop_cons hq,List.flatMap_cons,List.append_assoc] at hW3
    have hT3':=hT3
    have hL3':=hL3
    rcases hT3 with ⟨hTe3,rfl,rfl⟩|⟨b3,rfl,rfl⟩<;>rcases hL3 with ⟨hLe3,rfl,rfl⟩|⟨hLe3,l3,rfl,rfl⟩
    all_goals
     conv=>whnf
     repeat ((first|refine ix (by assumption) ?_|(refine ⟨_,_,.tail _ (.tail _ (.head _)),rfl,?_⟩)|refine ⟨_,_,Rem.here _,⟨Nat.le_of_ble_eq_true rfl,rfl⟩,?_⟩|intro (nb:Nat));conv=>whnf)
     refine ⟨fun hz3=>?_,fun hz3=>?_⟩<;>simp only [decide_eq_true_eq,decide_eq_false_iff_not] at hz3
     ·have hL3l:E.most+1≤L3.length:=by first|omega|(rw [hLe3];simp;omega)
      rw [List.take_append_of_le_length hL3l,List.take_of_length_le hL3m] at hW3
      conv=>whnf
      exact ⟨rfl,_,_,_,_,hT3',by rw [hW3];exact hL3',List.Perm.refl _⟩
     ·have hL3l:L3.length≤E.most:=by first|omega|(rw [hLe3];simp)
      conv=>whnf
      repeat ((first|(refine ⟨⟨Nat.le_of_ble_eq_true rfl,Nat.le_of_ble_eq_true rfl⟩,fun b4=>?_⟩)|(refine ⟨_,.tail _ (.tail _ (.tail _ (.tail _ (.head _)))),⟨enc_len (fun _=>rfl),hTb⟩,fun b4=>⟨_,.there (.there (.there (.there (.here _)))),?_⟩⟩)|(refine ⟨_,_,.there (.there (.here _)),leOK,?_⟩)|refine ⟨_,_,.head _,rfl,?_⟩|refine ⟨_,_,.tail _ (.head _),rfl,?_⟩|refine ⟨_,_,.there (.here _),leOK,?_⟩);conv=>whnf)
      first
       | (have hT4:TRow (T++[u]) (.osl b4 0 1 2) [(b4,.vec (encUse u++[]))]:=.inr ⟨b4,by rw [hTe3];rfl,by rw [hTe3];rfl⟩
          refine ACalls.mono ?_ (ACalls.perm (IH q (T++[u]) L3 _ _ _ _ ⟨pre++[us],by rw [hA];simp,by simp [hpl]⟩ hqo hT4 hL3' (fun _=>hL3l) hL3m) (List.perm_middle (l₁:=HC E sk tk lk en (.osl b4 0 1 2) _))))
       | (have hT4:TRow (T++[u]) (.osl b4 0 (T.length+1) 2) [(b4,.vec ((T.map encUse).flatten++(encUse u++[])))]:=.inr ⟨b4,by rw [List.length_append];rfl,by rw [List.map_append,List.flatten_append];rfl⟩
          refine ACalls.mono ?_ (ACalls.perm (IH q (T++[u]) L3 _ _ _ _ ⟨pre++[us],by rw [hA];simp,by simp [hpl]⟩ hqo hT4 hL3' (fun _=>hL3l) hL3m) (List.Perm.refl _)))
      rintro v h1 ⟨rfl,tv5,thp5,lv5,lhp5,hT5,hL5,rfl⟩
      have hfl:((T++[u]).map encUse).flatten=(T.map encUse).flatten++encUse u:=by simp
      rcases hT5 with ⟨e5,_,_⟩|⟨b5,rfl,hb5⟩
      ·simp at e5
      rw [hfl] at hb5
      subst hb5
      conv=>whnf
      repeat ((first|refine ⟨gP_of ⟨by omega,by omega⟩,?_⟩|(refine ⟨gP_of ⟨by omega,by omega,by simp;omega,.inl rfl⟩,?_⟩)|refine ⟨_,_,.tail _ (.head _),rfl,?_⟩|refine ⟨_,_,.there (.here _),leOK,?_⟩);conv=>whnf)
      exact ⟨_,_,Turn.cut (xs:=(T.map encUse).flatten) (ys:=encUse u) (.there (.there (.there (.there (.here _))))),_,(by omega),j+1,_,_,_,_,_,_,rfl,rfl,rfl,rfl,by omega,.inr ⟨b5,rfl,rfl⟩,hL5,by rw [List.length_take];omega,by rw [take_app];exact hW3⟩
   ·rw [drop_nil hj2,List.flatMap_nil,List.nil_append] at hW3
    conv=>whnf
    repeat (refine ⟨gP_of ⟨by omega,by omega⟩,?_⟩;conv=>whnf)
    exact ⟨_,_,Turn.refl _ _,_,(by omega),k+1,_,L3,_,_,_,_,rfl,rfl,rfl,rfl,by omega,hT3,hL3,hL3m,hW3⟩
 ·rw [drop_nil hi2,List.flatMap_nil,List.append_nil,List.take_of_length_le hL2m] at hW2
  conv=>whnf
  skip
  exact ⟨rfl,_,_,_,_,hT2,by rw [hW2];exact hL2,List.Perm.refl _⟩
set_option maxHeartbeats 4000000 in
theorem stepOne (E:Run) (sk tk lk en:Nat) (hE:EnvOK E) (rest:List (List Use)) (IH:∀ us r,rest=us::r→StepC E sk tk lk en r):StepC E sk tk lk en rest:=by
 intro p T L tv thp lv lhp hpre hp hT hL hTL hLm
 obtain ⟨pre,hA,hpl⟩:=hpre
 have hfew:=hE.few
 have hAl:=congrArg List.length hA
 rw [List.length_append] at hAl
 have hpc:=hp.few
 have hmost:=hE.most
 have hpl2:=hE.place
 have hTb:T.length+1≤AMAX:=by unfold AMAX;omega
 refine ACalls.post (R:=fun v h'=>v=.tup []∧∃ tv' thp' lv' lhp',TRow T tv' thp'∧Row 7 encEdg ((L++wordsF E.toEnv rest p T).take (E.most+1)) lv' lhp'∧h'.Perm (HC E sk tk lk en tv' lv'++(thp'++lhp'))) ?_ ?_
 ·have hT1:=hT
  rcases hT with ⟨hTe,rfl,rfl⟩|⟨b,rfl,rfl⟩
  ·have hT0:T.length=0:=by rw [hTe];rfl
   have hW:(L++wordsF E.toEnv rest p T).take (E.most+1)=(L++wordsR E.toEnv rest p T).take (E.most+1):=by
    unfold wordsF headW
    rw [hT0];rfl
   have hL1:=hL
   have hL1m:=hLm
   obtain ⟨L1,hLe⟩:∃ L1,L1=L:=⟨_,rfl⟩
   rw [← hLe] at hL1 hL1m
   have hW:(L++wordsF E.toEnv rest p T).take (E.most+1)=(L1++wordsR E.toEnv rest p T).take (E.most+1):=by rw [hW,hLe]
   refine fcalls (F:=Tryz.f88) c88 rfl rfl rfl mixed rfl fun X=>?_
   conv=>whnf
   repeat ((first|(refine gcall (endsA E.s p hE.sp hp) ?_)|refine ⟨_,_,.tail _ (.head _),rfl,?_⟩);conv=>whnf)
   refine cF rfl ?_
   conv=>whnf
   skip
   refine ⟨fun hz=>?_,fun hz=>?_⟩<;>simp only [decide_eq_true_eq,decide_eq_false_iff_not,List.length_map] at hz
   ·have hr:rest=[]:=List.eq_nil_of_length_eq_zero (by omega)
    rw [hr,show wordsR E.toEnv [] p T=[] from rfl,List.append_nil,List.take_of_length_le hL1m,← hr] at hW
    conv=>whnf
    exact ⟨rfl,_,_,_,_,hT1,by rw [hW];exact hL1,(by first|exact List.Perm.refl _|exact List.perm_append_comm (l₁:=[_]) (l₂:=[_,_,_,_,_]))⟩
   ·obtain ⟨us,rest',hr⟩:∃ us r,rest=us::r:=by
     cases rest with
     | nil=>simp at hAl;omega
     | cons us r=>exact ⟨us,r,rfl⟩
    have hus:E.All[T.length]?=some us:=by rw [hA,hr,← hpl];simp
    obtain ⟨hub,huo⟩:=hE.uses us (List.mem_of_getElem? hus)
    have IH:=IH us rest' hr
    have hwr:wordsR E.toEnv rest p T=us.flatMap fun u=>(nextM E.s p u).flatMap fun q=>wordsF E.toEnv rest' q (T++[u]):=by rw [hr];rfl
    rw [hwr] at hW
    conv=>whnf
    repeat ((refine ixn T.length (by first|rfl|omega) hus ?_);conv=>whnf)
    refine tloop rfl mixed [1,2,5,9,10,11,12,55,56,57] [] (StepJ E sk tk lk en p T us rest' ((L++wordsF E.toEnv rest p T).take (E.most+1))) ?_ (loopBody E sk tk lk en hE p T us rest' _ pre (by rw [hA,hr]) hpl hp IH _ X)
    conv=>whnf
    exact ⟨_,_,Turn.perm (by first|exact List.Perm.refl _|exact List.perm_append_comm (l₁:=[_]) (l₂:=[_,_,_,_,_])),_,0,_,L1,_,_,_,_,rfl,rfl,rfl,by first|rfl|omega,by omega,hT1,hL1,hL1m,hW⟩
  ·refine fcalls (F:=Tryz.f88) c88 rfl rfl rfl mixed rfl fun X=>?_
   conv=>whnf
   repeat ((first|(refine gcall (endsA E.s p hE.sp hp) ?_)|refine ⟨_,_,.tail _ (.head _),rfl,?_⟩);conv=>whnf)
   refine ⟨fun hq=>?_,fun hq=>?_⟩
   ·have hq:(decide (0<(T.length:Int))&&endsM E.s p)=true:=hq
    have hh:headW E.toEnv p T=[mkEdge E.toEnv p T]:=by unfold headW;rw [if_pos hq]
    have hTne:T≠[]:=by
     intro h
     rw [h] at hq
     cases hq
    have hLm2:=hTL hTne
    obtain ⟨L1,hLe⟩:∃ L1,L1=L++[mkEdge E.toEnv p T]:=⟨_,rfl⟩
    have hL1m:L1.length≤E.most+1:=by rw [hLe,List.length_append,List.length_singleton];omega
    have hW:(L++wordsF E.toEnv rest p T).take (E.most+1)=(L1++wordsR E.toEnv rest p T).take (E.most+1):=by
     unfold wordsF
     rw [hh,hLe,List.append_assoc]
    rcases hL with ⟨hLn,rfl,rfl⟩|⟨hLn,lb,rfl,rfl⟩
    ·conv=>whnf
     repeat ((first|refine gcall (cloneI p.cl (by unfold AMAX;omega)) ?_|(refine ⟨_,_,.tail _ (.tail _ (.tail _ (.head _))),rfl,?_⟩)|refine ⟨_,_,.tail _ (.head _),rfl,?_⟩|refine And.intro (by show drawOK (opsAt Tryz.f88 _) _=true;decide +kernel) ?_);conv=>whnf)
     refine gcallH (QCall.perm (h:=[(b,.vec (T.map encUse).flatten)]) (h2:=HC E sk tk lk en (.osl b 0 T.length 2) .nilO++[]) (cloneU0 b T (by unfold AMAX;omega)) (List.perm_middle (l₁:=HC E sk tk lk en (.osl b 0 T.length 2) .nilO) (l₂:=[])).symm) ?_
     conv=>whnf
     repeat ((first|refine ⟨gP_of ⟨by omega,by omega⟩,?_⟩|(refine ⟨_,_,.tail _ (.tail _ (.head _)),rfl,?_⟩)|(refine gcall (priceW E.H ⟨⟨E.entry,E.ending,p.cl⟩,T⟩ hE.fit.lex hE.hou (by show p.cl.length≤LMAX;unfold LMAX;omega) hE.entry (by show T.length≤1048576;omega)) ?_)|(refine ⟨⟨Nat.le_of_ble_eq_true rfl,Nat.le_of_ble_eq_true rfl⟩,fun b4=>?_⟩)|(refine ⟨_,_,.there (.there (.there (.here _))),leOK,?_⟩)|refine ⟨_,_,Rem.here _,?_⟩|refine ⟨_,_,.here _,leOK,?_⟩|refine And.intro (by show drawOK (opsAt Tryz.f88 _) _=true;decide +kernel) ?_|intro (nb:Nat));conv=>whnf)
     have hL1:Row 7 encEdg L1 (.osl b4 0 1 7) [(b4,.vec (encEdg (mkEdge E.toEnv p T)++[]))]:=by
      rw [hLe,hLn]
      exact .inr ⟨by simp,b4,rfl,by simp⟩
     refine ⟨fun hz=>?_,fun hz=>?_⟩<;>simp only [decide_eq_true_eq,decide_eq_false_iff_not,List.length_map] at hz
     ·have hr:rest=[]:=List.eq_nil_of_length_eq_zero (by omega)
      rw [hr,show wordsR E.toEnv [] p T=[] from rfl,List.append_nil,List.take_of_length_le hL1m,← hr] at hW
      conv=>whnf
      exact ⟨rfl,_,_,_,_,hT1,by rw [hW];exact hL1,(by first|exact List.Perm.refl _|exact List.perm_append_comm (l₁:=[_]) (l₂:=[_,_,_,_,_]))⟩
     ·obtain ⟨us,rest',hr⟩:∃ us r,rest=us::r:=by
       cases rest with
       | nil=>simp at hAl;omega
       | cons us r=>exact ⟨us,r,rfl⟩
      have hus:E.All[T.length]?=some us:=by rw [hA,hr,← hpl];simp
      obtain ⟨hub,huo⟩:=hE.uses us (List.mem_of_getElem? hus)
      have IH:=IH us rest' hr
      have hwr:wordsR E.toEnv rest p T=us.flatMap fun u=>(nextM E.s p u).flatMap fun q=>wordsF E.toEnv rest' q (T++[u]):=by rw [hr];rfl
      rw [hwr] at hW
      conv=>whnf
      repeat (refine ix (by assumption) ?_;conv=>whnf)
      refine tloop rfl mixed [1,2,5,9,10,11,12,55,56,57] [] (StepJ E sk tk lk en p T us rest' ((L++wordsF E.toEnv rest p T).take (E.most+1))) ?_ (loopBody E sk tk lk en hE p T us rest' _ pre (by rw [hA,hr]) hpl hp IH _ X)
      conv=>whnf
      exact ⟨_,_,Turn.perm (by first|exact List.Perm.refl _|exact List.perm_append_comm (l₁:=[_]) (l₂:=[_,_,_,_,_])),_,0,_,L1,_,_,_,_,rfl,rfl,rfl,by first|rfl|omega,by omega,hT1,hL1,hL1m,hW⟩
    ·have hLb:L.length+1≤AMAX:=by unfold AMAX;omega
     conv=>whnf
     repeat ((first|refine gcall (cloneI p.cl (by unfold AMAX;omega)) ?_|(refine ⟨_,_,.tail _ (.tail _ (.tail _ (.head _))),rfl,?_⟩)|refine ⟨_,_,.tail _ (.head _),rfl,?_⟩|refine And.intro (by show drawOK (opsAt Tryz.f88 _) _=true;decide +kernel) ?_);conv=>whnf)
     refine gcallH (QCall.perm (h:=[(b,.vec (T.map encUse).flatten)]) (h2:=HC E sk tk lk en (.osl b 0 T.length 2) (.osl lb 0 L.length 7)++[(lb,.vec (L.map encEdg).flatten)]) (cloneU0 b T (by unfold AMAX;omega)) (List.perm_middle (l₁:=HC E sk tk lk en (.osl b 0 T.length 2) (.osl lb 0 L.length 7)) (l₂:=[(lb,.vec (L.map encEdg).flatten)])).symm) ?_
     conv=>whnf
     repeat ((first|refine ⟨gP_of ⟨by omega,by omega⟩,?_⟩|(refine ⟨_,_,.tail _ (.tail _ (.head _)),rfl,?_⟩)|(refine gcall (priceW E.H ⟨⟨E.entry,E.ending,p.cl⟩,T⟩ hE.fit.lex hE.hou (by show p.cl.length≤LMAX;unfold LMAX;omega) hE.entry (by show T.length≤1048576;omega)) ?_)|(refine ⟨_,.tail _ (.tail _ (.tail _ (.tail _ (.tail _ (.head _))))),⟨enc_len (fun _=>rfl),hLb⟩,fun b4=>⟨_,.there (.there (.there (.there (.there (.here _))))),?_⟩⟩)|(refine ⟨_,_,.there (.there (.here _)),leOK,?_⟩)|refine ⟨_,_,Rem.here _,?_⟩|refine ⟨_,_,.here _,leOK,?_⟩|refine And.intro (by show drawOK (opsAt Tryz.f88 _) _=true;decide +kernel) ?_|intro (nb:Nat));conv=>whnf)
     have hL1:Row 7 encEdg L1 (.osl b4 0 (L.length+1) 7) [(b4,.vec ((L.map encEdg).flatten++(encEdg (mkEdge E.toEnv p T)++[])))]:=by
      rw [hLe]
      exact .inr ⟨by simp,b4,by rw [List.length_append];rfl,by rw [List.map_append,List.flatten_append];rfl⟩
     refine ⟨fun hz=>?_,fun hz=>?_⟩<;>simp only [decide_eq_true_eq,decide_eq_false_iff_not,List.length_map] at hz
     ·have hr:rest=[]:=List.eq_nil_of_length_eq_zero (by omega)
      rw [hr,show wordsR E.toEnv [] p T=[] from rfl,List.append_nil,List.take_of_length_le hL1m,← hr] at hW
      conv=>whnf
      exact ⟨rfl,_,_,_,_,hT1,by rw [hW];exact hL1,(by first|exact List.Perm.refl _|exact List.perm_append_comm (l₁:=[_]) (l₂:=[_,_,_,_,_]))⟩
     ·obtain ⟨us,rest',hr⟩:∃ us r,rest=us::r:=by
       cases rest with
       | nil=>simp at hAl;omega
       | cons us r=>exact ⟨us,r,rfl⟩
      have hus:E.All[T.length]?=some us:=by rw [hA,hr,← hpl];simp
      obtain ⟨hub,huo⟩:=hE.uses us (List.mem_of_getElem? hus)
      have IH:=IH us rest' hr
      have hwr:wordsR E.toEnv rest p T=us.flatMap fun u=>(nextM E.s p u).flatMap fun q=>wordsF E.toEnv rest' q (T++[u]):=by rw [hr];rfl
      rw [hwr] at hW
      conv=>whnf
      repeat (refine ix (by assumption) ?_;conv=>whnf)
      refine tloop rfl mixed [1,2,5,9,10,11,12,55,56,57] [] (StepJ E sk tk lk en p T us rest' ((L++wordsF E.toEnv rest p T).take (E.most+1))) ?_ (loopBody E sk tk lk en hE p T us rest' _ pre (by rw [hA,hr]) hpl hp IH _ X)
      conv=>whnf
      exact ⟨_,_,Turn.perm (by first|exact List.Perm.refl _|exact List.perm_append_comm (l₁:=[_]) (l₂:=[_,_,_,_,_])),_,0,_,L1,_,_,_,_,rfl,rfl,rfl,by first|rfl|omega,by omega,hT1,hL1,hL1m,hW⟩
   ·have hq:(decide (0<(T.length:Int))&&endsM E.s p)=false:=hq
    have hh:headW E.toEnv p T=[]:=by unfold headW;rw [if_neg (by rw [hq];decide)]
    obtain ⟨L1,hLe⟩:∃ L1,L1=L:=⟨_,rfl⟩
    have hL1:=hL
    have hL1m:=hLm
    rw [← hLe] at hL1 hL1m
    have hW:(L++wordsF E.toEnv rest p T).take (E.most+1)=(L1++wordsR E.toEnv rest p T).take (E.most+1):=by
     unfold wordsF
     rw [hh,List.nil_append,hLe]
    conv=>whnf
    skip
    refine ⟨fun hz=>?_,fun hz=>?_⟩<;>simp only [decide_eq_true_eq,decide_eq_false_iff_not,List.length_map] at hz
    ·have hr:rest=[]:=List.eq_nil_of_length_eq_zero (by omega)
     rw [hr,show wordsR E.toEnv [] p T=[] from rfl,List.append_nil,List.take_of_length_le hL1m,← hr] at hW
     conv=>whnf
     exact ⟨rfl,_,_,_,_,hT1,by rw [hW];exact hL1,(by first|exact List.Perm.refl _|exact List.perm_append_comm (l₁:=[_]) (l₂:=[_,_,_,_,_]))⟩
    ·obtain ⟨us,rest',hr⟩:∃ us r,rest=us::r:=by
      cases rest with
      | nil=>simp at hAl;omega
      | cons us r=>exact ⟨us,r,rfl⟩
     have hus:E.All[T.length]?=some us:=by rw [hA,hr,← hpl];simp
     obtain ⟨hub,huo⟩:=hE.uses us (List.mem_of_getElem? hus)
     have IH:=IH us rest' hr
     have hwr:wordsR E.toEnv rest p T=us.flatMap fun u=>(nextM E.s p u).flatMap fun q=>wordsF E.toEnv rest' q (T++[u]):=by rw [hr];rfl
     rw [hwr] at hW
     conv=>whnf
     repeat (refine ix (by assumption) ?_;conv=>whnf)
     refine tloop rfl mixed [1,2,5,9,10,11,12,55,56,57] [] (StepJ E sk tk lk en p T us rest' ((L++wordsF E.toEnv rest p T).take (E.most+1))) ?_ (loopBody E sk tk lk en hE p T us rest' _ pre (by rw [hA,hr]) hpl hp IH _ X)
     conv=>whnf
     exact ⟨_,_,Turn.perm (by first|exact List.Perm.refl _|exact List.perm_append_comm (l₁:=[_]) (l₂:=[_,_,_,_,_])),_,0,_,L1,_,_,_,_,rfl,rfl,rfl,by first|rfl|omega,by omega,hT1,hL1,hL1m,hW⟩
 ·rintro v h1 ⟨rfl,tv',thp',lv',lhp',h1',h2',hpm⟩
  exact ⟨_,_,⟨rfl,tv',thp',lv',lhp',h1',h2',rfl⟩,VLe.refl _,fun k o hm=>hpm.mem_iff.2 hm,fun hn=>by unfold keys at hn ⊢;exact ((hpm.map _).nodup_iff).1 hn⟩
theorem stepA (E:Run) (sk tk lk en:Nat) (hE:EnvOK E):∀ rest,StepC E sk tk lk en rest
 | []=>stepOne E sk tk lk en hE [] (fun us r h=>by cases h)
 | us::r=>stepOne E sk tk lk en hE (us::r) (fun us' r' h=>by cases h;exact stepA E sk tk lk en hE r)
end Go.Abs.Wall
namespace Go.Abs.Wall
open Go Go.Abs Go.Proofs
abbrev WKey:=Int × Int × Int × List Int × List Use
def keyW (w:Wrd):WKey:=(w.uses.length,w.form.entry,w.form.ending,w.form.clitics,w.uses)
def wrdCmp (a b:Wrd):Int:=orI [cmpI a.uses.length b.uses.length,cmpI a.form.entry b.form.entry,cmpI a.form.ending b.form.ending,cmpL cmpI a.form.clitics b.form.clitics,cmpL useCmp a.uses b.uses]
theorem zW:OrdZ wrdCmp:=by
 have h:=(OrdZ.lexC zI (OrdZ.lexC zI (OrdZ.lexC zI (OrdZ.lexC zI.cmpL zU.cmpL)))).of keyW (fun a b h=>by
  obtain ⟨⟨a1,a2,a3⟩,a4⟩:=a
  obtain ⟨⟨b1,b2,b3⟩,b4⟩:=b
  unfold keyW at h
  simp at h
  simp [h])
 have he:wrdCmp=fun a b=>lexC cmpI (lexC cmpI (lexC cmpI (lexC (cmpL cmpI) (cmpL useCmp)))) (keyW a) (keyW b):=by
  funext a b
  have h1:∀ x:Int,orI [x]=x:=fun x=>by simp only [orI];split<;>omega
  simp only [wrdCmp,lexC,keyW]
  rw [orI,orI,orI,orI2]
  rfl
 rw [he];exact h
def edgCmp (a b:Edg):Int:=wrdCmp a.word b.word
theorem edgW:OrdW edgCmp:=⟨fun x=>zW.c.irr _,fun x y z=>zW.c.tr _ _ _,fun x y z=>zW.c.nt _ _ _⟩
def sortE (L:List Edg):List Edg:=sortL edgCmp L
def c115:Cfg:=⟨[0,1,4,5,6,7,8,9,10,11,12,19,28,35],[],[],[],[],[]⟩
def c116:Cfg:=⟨[0,1,2,6,7,8,9,10,11,12,13,14,21,31,38],[],[8,9],[],[],[]⟩
def c96:Cfg:=⟨[0,1,2,3,4],[],[],[],[(1,[0,1,2,3,4,5,6,7,8,9,10,11,12,13,14,15,16,17,18,19,20,21,22,23,24,25,26,27,28,29,30,31,32,33,34,35],[])],[]⟩
def c95:Cfg:=⟨[0,1,2,3,4],[],[],[],[],[]⟩
theorem compareIs (a b:List Int) (ha:a.length≤LMAX) (hb:b.length≤LMAX):QCall Tryz.prog 115 [.sl 1 none (ints a),.sl 1 none (ints b)] [] (.int .i64 (cmpL cmpI a b)):=by
 unfold LMAX at ha hb
 refine fcalls (F:=Tryz.f115) c115 rfl rfl rfl mixed rfl fun X=>?_
 conv=>whnf
 refine sloop rfl mixed [0,1,9,10,11] [] (fun m r h=>∃ (i:Nat),r=[(0,[],.sl 1 none (ints a)),(1,[],.sl 1 none (ints b)),(9,[],.sl 1 none (ints a)),(10,[],.int .i64 (ints a).length),(11,[],.int .i64 i)]∧h=[]∧m=a.length - i∧i≤a.length∧i≤b.length∧cmpL cmpI a b=cmpL cmpI (a.drop i) (b.drop i)) ?_ ?_
 ·conv=>whnf
  exact ⟨_,0,rfl,rfl,rfl,by omega,by omega,rfl⟩
 ·rintro m r h ⟨i,rfl,rfl,rfl,hi,hj,hg⟩
  conv=>whnf
  refine ⟨fun hi2=>?_,fun hi2=>?_⟩<;>simp at hi2
  ·obtain ⟨x,hx⟩:=get_lt hi2
   conv=>whnf
   repeat (refine ix (by assumption) ?_;conv=>whnf)
   refine ⟨fun hq=>?_,fun hq=>?_⟩<;>simp at hq
   ·rw [drop_cons hx,drop_nil hq,cmpL] at hg
    conv=>whnf
    exact ⟨by rw [hg],rfl⟩
   ·obtain ⟨y,hy⟩:=get_lt hq
    rw [drop_cons hx,drop_cons hy,cmpL] at hg
    conv=>whnf
    repeat ((first|refine ix (by assumption) ?_|refine QCall.k0 (compareI _ _) ?_);conv=>whnf)
    refine ⟨fun hc=>?_,fun hc=>?_⟩<;>simp at hc
    ·rw [if_pos hc] at hg
     conv=>whnf
     exact ⟨by rw [hg],rfl⟩
    ·rw [if_neg (by simpa using hc)] at hg
     conv=>whnf
     repeat (refine ⟨gP_of ⟨by omega,by omega⟩,?_⟩;conv=>whnf)
     exact ⟨_,by omega,i+1,rfl,rfl,rfl,by omega,by omega,hg⟩
  ·conv=>whnf
   skip
   refine ⟨fun hq=>?_,fun hq=>?_⟩<;>simp at hq
   ·obtain ⟨y,hy⟩:=get_lt (show i<b.length by omega)
    rw [drop_nil hi2,drop_cons hy,cmpL] at hg
    conv=>whnf
    exact ⟨by rw [hg],rfl⟩
   ·rw [drop_nil hi2,drop_nil (by omega),cmpL] at hg
    conv=>whnf
    exact ⟨by rw [hg],rfl⟩
theorem compareUs (a b:List Use) (ha:a.length≤LMAX) (hb:b.length≤LMAX):QCall Tryz.prog 116 [.sl 2 none (a.map encUse),.sl 2 none (b.map encUse),.fn 107 []] [] (.int .i64 (cmpL useCmp a b)):=by
 unfold LMAX at ha hb
 refine fcalls (F:=Tryz.f116) c116 rfl rfl rfl mixed rfl fun X=>?_
 conv=>whnf
 refine sloop rfl mixed [0,1,2,11,12,13] [] (fun m r h=>∃ (i:Nat),r=[(0,[],.sl 2 none (a.map encUse)),(1,[],.sl 2 none (b.map encUse)),(2,[],.fn 107 []),(11,[],.sl 2 none (a.map encUse)),(12,[],.int .i64 (a.map encUse).length),(13,[],.int .i64 i)]∧h=[]∧m=a.length - i∧i≤a.length∧i≤b.length∧cmpL useCmp a b=cmpL useCmp (a.drop i) (b.drop i)) ?_ ?_
 ·conv=>whnf
  exact ⟨_,0,rfl,rfl,rfl,by omega,by omega,rfl⟩
 ·rintro m r h ⟨i,rfl,rfl,rfl,hi,hj,hg⟩
  conv=>whnf
  refine ⟨fun hi2=>?_,fun hi2=>?_⟩<;>simp at hi2
  ·obtain ⟨x,hx⟩:=get_lt hi2
   conv=>whnf
   repeat ((first|refine ix (by assumption) ?_|refine ⟨_,_,Rem.here _,⟨Nat.le_of_ble_eq_true rfl,rfl⟩,?_⟩|intro (nb:Nat));conv=>whnf)
   refine ⟨fun hq=>?_,fun hq=>?_⟩<;>simp at hq
   ·rw [drop_cons hx,drop_nil hq,cmpL] at hg
    conv=>whnf
    exact ⟨by rw [hg],rfl⟩
   ·obtain ⟨y,hy⟩:=get_lt hq
    rw [drop_cons hx,drop_cons hy,cmpL] at hg
    conv=>whnf
    repeat ((first|refine ix (by assumption) ?_|refine QCall.k0 (compareUses _ _) ?_|refine ⟨_,_,Rem.here _,⟨Nat.le_of_ble_eq_true rfl,rfl⟩,?_⟩|intro (nb:Nat));conv=>whnf)
    refine ⟨fun hc=>?_,fun hc=>?_⟩<;>simp at hc
    ·rw [if_pos hc] at hg
     conv=>whnf
     exact ⟨by rw [hg],rfl⟩
    ·rw [if_neg (by simpa using hc)] at hg
     conv=>whnf
     repeat (refine ⟨gP_of ⟨by omega,by omega⟩,?_⟩;conv=>whnf)
     exact ⟨_,by omega,i+1,rfl,rfl,rfl,by omega,by omega,hg⟩
  ·conv=>whnf
   skip
   refine ⟨fun hq=>?_,fun hq=>?_⟩<;>simp at hq
   ·obtain ⟨y,hy⟩:=get_lt (show i<b.length by omega)
    rw [drop_nil hi2,drop_cons hy,cmpL] at hg
    conv=>whnf
    exact ⟨by rw [hg],rfl⟩
   ·rw [drop_nil hi2,drop_nil (by omega),cmpL] at hg
    conv=>whnf
    exact ⟨by rw [hg],rfl⟩
structure WrdFit (w:Wrd):Prop where
 cl:w.form.clitics.length≤1048576
 us:w.uses.length≤1048576
theorem compareWs (a b:Wrd) (ha:WrdFit a) (hb:WrdFit b):QCall Tryz.prog 96 [.agg (encWrd a),.agg (encWrd b)] [] (.int .i64 (wrdCmp a b)):=by
 have h1:=ha.cl
 have h2:=ha.us
 have h3:=hb.cl
 have h4:=hb.us
 refine fcalls (F:=Tryz.f96) c96 rfl rfl rfl mixed rfl fun X=>?_
 conv=>whnf
 repeat ((first|refine gcall (compareI _ _) ?_|refine gcall (compareIs a.form.clitics b.form.clitics (by unfold LMAX;omega) (by unfold LMAX;omega)) ?_|refine gcall (compareUs a.uses b.uses (by unfold LMAX;omega) (by unfold LMAX;omega)) ?_|refine gcall (orW [cmpI (a.uses.map encUse).length (b.uses.map encUse).length,cmpI a.form.entry b.form.entry,cmpI a.form.ending b.form.ending,cmpL cmpI a.form.clitics b.form.clitics,cmpL useCmp a.uses b.uses] (by simp [LMAX])) ?_|refine And.intro (by show drawOK (opsAt Tryz.f96 _) _=true;decide +kernel) ?_);conv=>whnf)
 refine ⟨?_,rfl⟩
 rw [List.length_map,List.length_map]
 rfl
theorem compareEs (a b:Edg) (ha:WrdFit a.word) (hb:WrdFit b.word):QCall Tryz.prog 95 [.agg (encEdg a),.agg (encEdg b)] [] (.int .i64 (edgCmp a b)):=by
 refine fcalls (F:=Tryz.f95) c95 rfl rfl rfl mixed rfl fun X=>?_
 conv=>whnf
 repeat (refine QCall.k0 (compareWs a.word b.word ha hb) ?_;conv=>whnf)
 exact ⟨rfl,rfl⟩
def decInts (l:List (List AV)):List Int:=l.map fun x=>match x with
 | [.int _ n]=>n
 | _=>0
theorem decInts_enc (l:List Int):decInts (ints l)=l:=by
 unfold decInts ints
 rw [List.map_map]
 exact (List.map_congr_left fun a _=>rfl).trans (List.map_id _)
def decEdg:List AV→Edg
 | [.int _ a,.int _ b,.int _ c,.int _ e,.int _ n,.sl _ _ cl,.sl _ _ us]=>⟨a,b,c,⟨⟨e,n,decInts cl⟩,us.map decUse⟩⟩
 | _=>⟨0,0,0,⟨⟨0,0,[]⟩,[]⟩⟩
theorem decEdg_enc (e:Edg):decEdg (encEdg e)=e:=by
 obtain ⟨a,b,c,⟨⟨f,n,cl⟩,us⟩⟩:=e
 show Edg.mk a b c ⟨⟨f,n,decInts (ints cl)⟩,(us.map encUse).map decUse⟩=_
 rw [decInts_enc,List.map_map,show us.map (decUse ∘ encUse)=us from (List.map_congr_left fun a _=>rfl).trans (List.map_id _)]
theorem sortLawE:SortLaw Tryz.prog 94 95 7:=
 sortLaw Tryz.sortEdge 7 95 Tryz.isAgg90 Tryz.sizeOf90 (fun args w=>run_call ⟨Tryz.f95,_,rfl,rfl,rfl⟩)
def c94:Cfg:=⟨[0,1,4],[],[],[],[],[]⟩
def c111:Cfg:=⟨[0,1,2,3,4,10,11,12,13,14,15,16,17,18,19,20,25,32,39,56,75,80,97,125],[],[],[],[(17,[0,1,2,3,4,5,6,7,8,9,10,11,12,13,14,15,16],[])],[]⟩
def c128:Cfg:=⟨[0,1,2,3,8,9,14,34],[],[],[],[(4,[0,1,2,3,4,5,6,7,8,9,10,11,12,13,14,15,16],[]),(6,[0,1,2,3,4,5,6,7,8,9,10,11,12,13,14,15,16,17],[])],[]⟩
theorem insNilE (c:FuncId):QCall Tryz.prog 128 [.nilS,.int .i64 0,.int .i64 0,.fn c []] [] (.tup []):=by
 refine fcalls (F:=Tryz.f128) c128 rfl rfl rfl mixed rfl fun X=>?_
 conv=>whnf
 repeat (refine ⟨gP_of ⟨by omega,by omega⟩,?_⟩;conv=>whnf)
 refine sloop rfl mixed [0,1,2,3,8] [] (fun m r h=>r=[(0,[],.nilS),(1,[],.int .i64 0),(2,[],.int .i64 0),(3,[],.fn c []),(8,[],.int .i64 1)]∧h=[]∧m=0∧True) ?_ ?_
 ·conv=>whnf
  exact ⟨_,rfl,rfl,rfl,trivial⟩
 ·rintro m r h ⟨rfl,rfl,rfl,_⟩
  conv=>whnf
  refine cF rfl ?_
  conv=>whnf
  exact ⟨rfl,rfl⟩
theorem pdqNilE (c:FuncId):QCall Tryz.prog 111 [.nilS,.int .i64 0,.int .i64 0,.int .i64 0,.fn c []] [] (.tup []):=by
 refine fcalls (F:=Tryz.f111) c111 rfl rfl rfl mixed rfl fun X=>?_
 conv=>whnf
 skip
 refine sloop rfl mixed [0,1,2,3,4,10,11] [] (fun m r h=>r=[(0,[],.nilS),(1,[],.int .i64 0),(2,[],.int .i64 0),(3,[],.int .i64 0),(4,[],.fn c []),(10,[],.bool true),(11,[],.bool true)]∧h=[]∧m=0∧True) ?_ ?_
 ·conv=>whnf
  exact ⟨_,rfl,rfl,rfl,trivial⟩
 ·rintro m r h ⟨rfl,rfl,rfl,_⟩
  conv=>whnf
  repeat (refine ⟨gP_of ⟨by omega,by omega⟩,?_⟩;conv=>whnf)
  refine cT rfl ?_
  conv=>whnf
  repeat (refine QCall.k0 (insNilE c) ?_;conv=>whnf)
  exact ⟨rfl,rfl⟩
theorem sortNilE (c:FuncId):QCall Tryz.prog 94 [.nilO,.fn c []] [] (.tup []):=by
 refine QCall.args (args':=[.nilS,.fn c []]) ?_ (.cons (by intro c u h;simpa [Rep] using h) (.cons (VLe.refl _) .nil))
 refine fcalls (F:=Tryz.f94) c94 rfl rfl rfl mixed rfl fun X=>?_
 conv=>whnf
 repeat ((first|refine QCall.k0 (bitsLen) ?_|refine QCall.k0 (pdqNilE c) ?_);conv=>whnf)
 exact ⟨rfl,rfl⟩
theorem sortOwnE (b:Nat) (xs:List Edg) (hne:xs≠[]) (hlx:xs.length≤4294967296) (hf:∀ x∈xs,WrdFit x.word) (ha:∀ x∈xs,∀ y∈xs,x.word=y.word→x=y) :
  ACalls Tryz.prog 94 [.osl b 0 xs.length 7,.fn 95 []] [(b,.vec (xs.map encEdg).flatten)] (fun v h'=>v=.tup []∧h'=[(b,.vec ((sortE xs).map encEdg).flatten)]):=
 sortF_encW (by decide) ⟨Tryz.f94,_,rfl,rfl,rfl⟩ ⟨Tryz.f95,_,rfl,rfl,rfl⟩ sortLawE edgCmp (dec:=decEdg) decEdg_enc (fun a=>rfl) edgW xs (fun x hx y hy h1 h2=>ha x hx y hy (zW.c.anti _ _ h1 h2)) hne hlx (fun x hx y hy=>compareEs x y (hf x hx) (hf y hy)) b
end Go.Abs.Wall
namespace Go.Abs.Wall
open Go Go.Abs Go.Proofs
structure ValOK (v:Val):Prop where
 kind:1≤v.kind∧v.kind≤3
 text:1≤v.text.length∧v.text.length≤8
structure SgnOK (s:Sgn):Prop where
 few:s.values.length≤12
 each:∀ v∈s.values,ValOK v
structure LstOK (l:Lst):Prop where
 many:l.signs.length≤200
 each:∀ s∈l.signs,SgnOK s
theorem textOK_len {k:Int} {s:List UInt8} (h:textOK k s=true):1≤s.length∧s.length≤8:=by
 unfold textOK at h
 simp only [Bool.and_eq_true,decide_eq_true_eq] at h
 exact h.1
theorem valErr_ok {l:Lst} {b:List Val} {v:Val} (h:valErr l b v=0):ValOK v:=by
 unfold valErr at h
 split at h
 ·cases h
 ·rename_i h1
  simp only [not_or,Bool.not_eq_false] at h1
  have h2:=textOK_len h1.2.2
  refine ⟨by omega,h2⟩
theorem valsErr_ok {l:Lst} {vs:List Val}:∀ {t:List Val} {i:Nat},valsErr l vs t i=0→∀ v∈t,ValOK v
 | [],_,_,v,hv=>by cases hv
 | a::t,i,h,v,hv=>by
   unfold valsErr at h
   split at h
   ·rename_i h1;exact absurd h h1
   ·rename_i h1
    rcases List.mem_cons.1 hv with rfl|hv
    ·exact valErr_ok (by simpa using h1)
    ·exact valsErr_ok h v hv
theorem sgnErr_ok {l:Lst} {s:Sgn} (h:sgnErr l s=0):SgnOK s:=by
 unfold sgnErr at h
 split at h
 ·cases h
 split at h
 ·cases h
 ·rename_i h1 h2
  exact ⟨by omega,valsErr_ok h⟩
theorem lstGo_ok {l:Lst}:∀ {t:List Sgn} {seen:List (List UInt8)},lstGo l t seen=0→∀ s∈t,SgnOK s
 | [],_,_,s,hs=>by cases hs
 | a::t,seen,h,s,hs=>by
   unfold lstGo at h
   split at h
   ·cases h
   split at h
   ·rename_i h1;exact absurd h h1
   ·rename_i h1
    rcases List.mem_cons.1 hs with rfl|hs
    ·exact sgnErr_ok (by simpa using h1)
    ·exact lstGo_ok h s hs
theorem lstOK {l:Lst} (h:lstErr l=0):LstOK l:=by
 unfold lstErr at h
 split at h
 ·cases h
 split at h
 ·cases h
 ·exact ⟨by omega,lstGo_ok h⟩
theorem useOf_ok {v:Val} (h:ValOK v):∀ u∈useOf v,UseOK u:=by
 intro u hu
 have h1:=h.text
 unfold useOf at hu
 split at hu
 ·simp at hu
  rcases hu with rfl|rfl<;>exact ⟨by simp,by simp,h1.1,h1.2⟩
 split at hu
 ·simp at hu
  subst hu;exact ⟨by simp,by simp,h1.1,h1.2⟩
 split at hu
 ·simp at hu
  subst hu;exact ⟨by simp,by simp,h1.1,h1.2⟩
 ·cases hu
theorem useGo_mem {p:Int}:∀ {l:List Val} {u:Use},u∈useGo p l→∃ v∈l,u∈useOf v
 | [],u,h=>by cases h
 | v::t,u,h=>by
   unfold useGo at h
   rcases List.mem_append.1 h with h|h
   ·split at h
    ·exact ⟨v,by simp,h⟩
    ·cases h
   ·obtain ⟨w,hw,hu⟩:=useGo_mem h
    exact ⟨w,by simp [hw],hu⟩
theorem usesM_ok {p:Int} {s:Sgn} (h:SgnOK s):(usesM p s).length≤24∧∀ u∈usesM p s,UseOK u:=by
 refine ⟨?_,fun u hu=>?_⟩
 ·unfold usesM sortU
  rw [sortL_length]
  have:=useGo_len p s.values
  have:=h.few
  omega
 ·unfold usesM sortU at hu
  rw [sortL_mem] at hu
  obtain ⟨v,hv,hu⟩:=useGo_mem hu
  exact useOf_ok (h.each v hv) u hu
def sgnAt (H:Hou) (n:Int):Sgn:=H.list.signs.getD n.toNat ⟨[],0,0,false,[]⟩
def usesAt (H:Hou) (n:Int):List Use:=usesM H.period (sgnAt H n)
def allAt (H:Hou) (line:List Int) (at_:Nat):List (List Use):=((line.drop at_).take 12).map (usesAt H)
def bodyM (x:Lex) (e n:Int):List UInt8:=if n<0 then (entAt x e).root else (entAt x e).root++(ednAt x n).text
def envAt (H:Hou) (at_:Nat) (e n:Int):Env:=⟨H,⟨H,entAt H.lex e,bodyM H.lex e n⟩,at_,e,n⟩
def skipE (x:Lex) (e n:Int):Bool:=decide (0≤n)&&!decide ((ednAt x n).kind=(entAt x e).kind)
def wordsOf (H:Hou) (All:List (List Use)) (at_:Nat) (e:Nat) (k:Nat):List Edg:=if skipE H.lex e ((k:Int) - 1)=true then [] else wordsF (envAt H at_ e ((k:Int) - 1)) All prg0 []
def wordsEnt (H:Hou) (All:List (List Use)) (at_:Nat) (e:Nat):List Edg:=(List.range (H.lex.endings.length+1)).flatMap (wordsOf H All at_ e)
def wordsAll (H:Hou) (All:List (List Use)) (at_:Nat):List Edg:=(List.range H.lex.entries.length).flatMap (wordsEnt H All at_)
def wordsM (H:Hou) (line:List Int) (at_ most:Nat):List Edg:=sortE ((wordsAll H (allAt H line at_) at_).take (most+1))
theorem sgnAt_get {H:Hou} {n:Int} (h0:0≤n) (h1:n<H.list.signs.length):H.list.signs[n.toNat]?=some (sgnAt H n):=by
 have:n.toNat<H.list.signs.length:=by omega
 unfold sgnAt
 simp [List.getElem?_eq_getElem this]
def c87:Cfg:=⟨[0,1,2,3,6,8],[],[],[],[(3,[0,1,2,3,4,5,6,7,8,9,10,11,12,13],[])],[]⟩
theorem bodyA (x:Lex) (e n:Int) (hx:LexOK x) (h0:0≤e) (h1:e<x.entries.length) (hn:n<x.endings.length):QCall Tryz.prog 87 [.agg (encLex x),.int .i64 e,.int .i64 n] [] (.str (bodyM x e n)):=by
 have hr:=sndOK_len (hx.entAt h0 h1).root
 refine fcalls (F:=Tryz.f87) c87 rfl rfl rfl mixed rfl fun X=>?_
 conv=>whnf
 refine ⟨fun hc=>?_,fun hc=>?_⟩<;>simp at hc
 ·conv=>whnf
  repeat ((refine ixn e.toNat (by omega) (entAt_get h0 h1) ?_);conv=>whnf)
  exact ⟨by rw [bodyM,if_pos hc],rfl⟩
 ·have ht:=sndOK_len (hx.ednAt hc hn).text
  conv=>whnf
  repeat ((first|(refine ixn e.toNat (by omega) (entAt_get h0 h1) ?_)|(refine ixn n.toNat (by omega) (ednAt_get hc hn) ?_)|(refine ⟨gP_of (by rw [List.length_append];unfold LMAX;omega),?_⟩)|refine And.intro (by show drawOK (opsAt Tryz.f87 _) _=true;decide +kernel) ?_);conv=>whnf)
  exact ⟨by rw [bodyM,if_neg (by omega)],rfl⟩
theorem headW_nil (E:Env) (p:Prg):headW E p []=[]:=rfl
structure EdgAt (H:Hou) (at_:Int) (e:Edg):Prop where
 frm:e.frm=at_
 to:e.to=at_+e.word.uses.length
 cost:e.cost=priceM H e.word
 few:e.word.uses.length≤12
 cl:e.word.form.clitics.length≤3
 some:1≤e.word.uses.length
theorem wordsR_at {E:Env} (hs:SpOK E.s):∀ (rest:List (List Use)) (p:Prg) (T:List Use),PrgOK E.s p→(∀ us∈rest,∀ u∈us,UseOK u)→T.length+rest.length≤12→∀ e∈wordsR E rest p T,EdgAt E.H E.at_ e
 | [],_,_,_,_,_,e,he=>by cases he
 | us::r,p,T,hp,hu,hl,e,he=>by
   unfold wordsR at he
   rw [List.mem_flatMap] at he
   obtain ⟨u,hum,he⟩:=he
   rw [List.mem_flatMap] at he
   obtain ⟨q,hq,he⟩:=he
   have hqo:=nextM_ok hs hp (hu us (by simp) u hum) q hq
   rw [List.length_cons] at hl
   rcases List.mem_append.1 he with he|he
   ·unfold headW at he
    split at he
    ·cases List.mem_singleton.1 he
     exact ⟨rfl,rfl,rfl,by show (T++[u]).length≤12;rw [List.length_append,List.length_singleton];omega,hqo.few,by show 1≤(T++[u]).length;simp⟩
    ·cases he
   ·exact wordsR_at hs r q (T++[u]) hqo (fun us' h'=>hu us' (by simp [h'])) (by rw [List.length_append,List.length_singleton];omega) e he
theorem spAt {H:Hou} (hH:HouOK H) {at_:Nat} {e n:Int} (h0:0≤e) (h1:e<H.lex.entries.length) (hn:n<H.lex.endings.length):SpOK (envAt H at_ e n).s:=by
 have hr:=sndOK_len (hH.lex.entAt h0 h1).root
 refine ⟨hH.lex,?_,?_⟩
 ·show 1≤(bodyM H.lex e n).length∧(bodyM H.lex e n).length≤12
  unfold bodyM
  split
  ·omega
  ·have ht:=sndOK_len (hH.lex.ednAt (by omega) hn).text
   rw [List.length_append];omega
 ·show (entAt H.lex e).root.length≤(bodyM H.lex e n).length
  unfold bodyM
  split
  ·omega
  ·rw [List.length_append];omega
theorem allAt_ok {H:Hou} (hH:HouOK H) {line:List Int} {at_:Nat} (hl:∀ s∈line,0≤s∧s<H.list.signs.length):(allAt H line at_).length≤12∧∀ us∈allAt H line at_,us.length≤1048576∧∀ u∈us,UseOK u:=by
 refine ⟨by unfold allAt;simp;omega,fun us hus=>?_⟩
 unfold allAt at hus
 obtain ⟨s,hs,rfl⟩:=List.mem_map.1 hus
 have hs2:=hl s (List.mem_of_mem_drop (List.mem_of_mem_take hs))
 have hok:=(lstOK hH.lst).each _ (List.mem_of_getElem? (sgnAt_get hs2.1 hs2.2))
 have:=usesM_ok (p:=H.period) hok
 exact ⟨by unfold usesAt;omega,this.2⟩
theorem wordsAll_at {H:Hou} (hH:HouOK H) {All:List (List Use)} (hf:All.length≤12) (hu:∀ us∈All,us.length≤1048576∧∀ u∈us,UseOK u) {at_:Nat}:∀ e∈wordsAll H All at_,EdgAt H at_ e:=by
 intro e he
 unfold wordsAll at he
 rw [List.mem_flatMap] at he
 obtain ⟨i,hi,he⟩:=he
 unfold wordsEnt at he
 rw [List.mem_flatMap] at he
 obtain ⟨k,hk,he⟩:=he
 rw [List.mem_range] at hi hk
 unfold wordsOf at he
 split at he
 ·cases he
 ·unfold wordsF at he
  rw [headW_nil,List.nil_append] at he
  exact wordsR_at (E:=envAt H at_ i ((k:Int) - 1)) (spAt hH (by omega) (by omega) (by omega)) All prg0 [] (prg0_ok _) (fun us h=>(hu us h).2) (by simp;omega) e he
theorem edgAt_eq {H:Hou} {at_:Int} {a b:Edg} (ha:EdgAt H at_ a) (hb:EdgAt H at_ b) (h:a.word=b.word):a=b:=by
 obtain ⟨f,t,c,w⟩:=a
 obtain ⟨f',t',c',w'⟩:=b
 have h:w=w':=h
 subst h
 have h1:=ha.frm;have h2:=ha.to;have h3:=ha.cost
 have h4:=hb.frm;have h5:=hb.to;have h6:=hb.cost
 simp only at h1 h2 h3 h4 h5 h6
 rw [h1,h2,h3,h4,h5,h6]
theorem take_app1 {α:Type} {A C:List α} {m:Nat}:(A.take m++C).take m=(A++C).take m:=by
 have:=take_app (A:=A) (B:=[]) (C:=C) (m:=m)
 simpa using this
end Go.Abs.Wall
namespace Go.Abs.Wall
open Go Go.Abs Go.Proofs
theorem ACalls.cells {f:FuncId} {vs:List AV} {h h':Heap} {b:Nat} {xs ys:List AV} {R:AV→Heap→Prop} (hf:ACalls Tryz.prog f vs h' R) (hu:Upd b (.vec xs) b (.vec ys) h h') (hv:VsLe xs ys):ACalls Tryz.prog f vs h R:=by
 have hkeys:keys h'=keys h:=by
  clear hf
  induction hu with
  | here l=>rfl
  | there _ ih=>simp only [keys,List.map_cons] at ih ⊢;rw [ih]
 have hget:∀ k o',(k,o')∈h'→(k,o')∈h∨(k=b∧o'=.vec ys∧(b,Ob.vec xs)∈h):=by
  clear hf hkeys
  induction hu with
  | here l=>intro k o' hm;cases List.mem_cons.1 hm with
    | inl e=>cases e;exact .inr ⟨rfl,rfl,by simp⟩
    | inr e=>exact .inl (by simp [e])
  | there _ ih=>intro k o' hm;cases List.mem_cons.1 hm with
    | inl e=>subst e;exact .inl (by simp)
    | inr e=>
      rcases ih k o' e with h1|⟨h1,h2,h3⟩
      ·exact .inl (by simp [h1])
      ·exact .inr ⟨h1,h2,by simp [h3]⟩
 have hlen:∀ {xs ys:List AV},VsLe xs ys→xs.length=ys.length∧∀ (i:Nat) y,ys[i]?=some y→∃ x,xs[i]?=some x∧VLe x y:=by
  intro xs ys hv
  induction hv with
  | nil=>exact ⟨rfl,fun i y h=>by cases h⟩
  | cons h1 _ ih=>
    refine ⟨by simp [ih.1],fun i y hi=>?_⟩
    cases i with
    | zero=>cases hi;exact ⟨_,rfl,h1⟩
    | succ i=>exact ih.2 i y (by simpa using hi)
 refine ⟨fun X g w us hc hr=>?_⟩
 obtain ⟨c2,s2⟩:=hc.objs hkeys (fun k o' hm=>by
  rcases hget k o' hm with h1|⟨rfl,rfl,h2⟩
  ·exact hc.obj k o' h1
  ·obtain ⟨p,cc,t,q1,q2,q3,q4,q5,q6⟩:=hc.obj k (.vec xs) h2
   obtain ⟨l,hg⟩:=hlen hv
   refine ⟨p,cc,t,q1,q2,q3,q4,by rw [← l];exact q5,fun i y hy=>?_⟩
   obtain ⟨x,hx,hxy⟩:=hg i y hy
   obtain ⟨u,u1,u2,u3⟩:=q6 i x hx
   exact ⟨u,u1,u2,hxy _ _ u3⟩)
 refine (hf.1 X g w us c2 (RepVs.mono (Step.le s2) _ _ hr)).mono fun e w' he=>?_
 obtain ⟨v,u,g',h1,rfl,hR,hc1,hu,hs⟩:=he
 exact ⟨v,u,g',h1,rfl,hR,hc1,hu,s2.trans hc.own hs⟩
theorem Turn.sublist {r:Regs} {h h':Heap} (hs:h'.Sublist h):Turn r h r h':=
 Turn.sub (fun k o hm=>hs.subset hm) (fun hn=>by unfold keys at hn ⊢;exact hn.sublist (hs.map _))
def c66:Cfg:=⟨[0,1,2,3,4,6,7,8,9,11,12,13,14,15,16,17,25,26,27,28,40,41,42,43,52,68,82],[],[12,13,15],[],[(5,[0,1,2,3,4,5,6],[]),(13,[0,1,2,3,4,5,6,7,8,9,10,11,12,13],[]),(14,[0,1,2,3,4,5,6,7,8,9,10],[15])],[]⟩
set_option maxHeartbeats 2000000 in
theorem wordsA (H:Hou) (line:List Int) (at_ most:Nat) (hH:HouOK H) (hfit:HouFit H) (hline:∀ s∈line,0≤s∧s<H.list.signs.length) (hlen:line.length≤1048576) (hat:at_≤line.length) (hmost:most≤1048575) :
  ACalls Tryz.prog 66 [.agg (encHou H),.sl 1 none (ints line),.int .i64 at_,.int .i64 most] [] (fun v h'=>∃ hp Z,Row 7 encEdg (wordsM H line at_ most) v hp∧h'=hp++Z):=by
 have hlst:=lstOK hH.lst
 have hmn:=hH.lex.many
 obtain ⟨hAf,hAu⟩:=allAt_ok hH (line:=line) (at_:=at_) hline
 obtain ⟨seg,hseg⟩:∃ seg,seg=(line.drop at_).take 12:=⟨_,rfl⟩
 have hsegl:seg.length≤12:=by rw [hseg];simp;omega
 have hsegm:∀ s∈seg,0≤s∧s<H.list.signs.length:=fun s hs=>by rw [hseg] at hs;exact hline s (List.mem_of_mem_drop (List.mem_of_mem_take hs))
 have hsl:((ints line).take (min ((ints line).length:Int) ((at_:Int)+12)).toNat).drop (at_:Int).toNat=ints seg:=by
  rw [hseg,ints_length]
  unfold ints
  rw [← List.map_take,← List.map_drop,List.drop_take]
  congr 1
  rw [show (at_:Int).toNat=at_ from rfl]
  by_cases hc:line.length≤at_+12
  ·rw [show (min (line.length:Int) ((at_:Int)+12)).toNat - at_=line.length - at_ by omega,List.take_of_length_le (by simp),List.take_of_length_le (by simp;omega)]
  ·rw [show (min (line.length:Int) ((at_:Int)+12)).toNat - at_=12 by omega]
 refine fcalls (F:=Tryz.f66) c66 rfl rfl rfl mixed rfl fun X=>?_
 conv=>whnf
 intro lk
 conv=>whnf
 intro ak
 conv=>whnf
 repeat ((first|refine ⟨gP_of ⟨by omega,by omega⟩,?_⟩|(refine ⟨gP_of ⟨by omega,by rw [ints_length];omega,by rw [ints_length];omega⟩,?_⟩));conv=>whnf)
 rw [hsl]
 refine tloop rfl mixed [4,6,7,8,9,25,26,27] [] (fun m r h=>∃ (i:Nat) (v:AV) (hp:Heap),r=[(4,[],.iptr (encHou H)),(6,[],.iptr [.int .i64 at_]),(7,[],.iptr [.int .i64 most]),(8,[],.optr lk 0),(9,[],.optr ak 0),(25,[],.sl 1 none (ints seg)),(26,[],.int .i64 (ints seg).length),(27,[],.int .i64 i)]∧h=(ak,.vec [v])::(lk,.vec [.nilS])::hp∧m=seg.length - i∧i≤seg.length∧Out 1 encUses ((seg.take i).map (usesAt H)) v hp) ?_ ?_
 ·conv=>whnf
  exact ⟨_,_,Turn.refl _ _,_,0,_,_,rfl,rfl,rfl,by omega,.inl ⟨rfl,rfl,rfl⟩⟩
 ·rintro m r h' ⟨i,v,hp,rfl,rfl,rfl,hi,ho⟩
  conv=>whnf
  refine ⟨fun hi2=>?_,fun hi2=>?_⟩<;>simp at hi2
  ·obtain ⟨s,hs⟩:=get_lt hi2
   have hs2:=hsegm s (List.mem_of_getElem? hs)
   have hsg:=sgnAt_get hs2.1 hs2.2
   have hsv:=(hlst.each _ (List.mem_of_getElem? hsg)).few
   have htk:=take_snoc hs
   rcases ho with ⟨he,rfl,rfl⟩|⟨q,rfl,rfl⟩
   all_goals
    conv=>whnf
    repeat ((first|refine ⟨gP_of ⟨by omega,by omega⟩,?_⟩|refine ix (by assumption) ?_|(refine gcall (usesW H s (sgnAt H s) hs2.1 hsg (by omega)) ?_)|(refine ⟨Nat.le_of_ble_eq_true rfl,fun q'=>?_⟩)|(refine ⟨(by simp;unfold AMAX;omega),fun q'=>⟨_,.there (.there (.here _)),?_⟩⟩)|refine ⟨_,_,.head _,rfl,?_⟩|refine ⟨_,_,.here _,leOK,?_⟩|refine ⟨_,_,.there (.here _),leOK,?_⟩|refine And.intro (by show drawOK (opsAt Tryz.f66 _) _=true;decide +kernel) ?_);conv=>whnf)
    refine ⟨_,[(ak,.vec [.sl 1 (some q') (((seg.take (i+1)).map (usesAt H)).map encUses)]),(lk,.vec [.nilS]),(q',.tok)],?_,_,(by omega),i+1,_,[(q',.tok)],rfl,rfl,rfl,by omega,.inr ⟨q',rfl,rfl⟩⟩
    rw [htk,List.map_append,List.map_append]
    first
     | (rw [he];exact Turn.perm (List.perm_append_comm (l₁:=[_]) (l₂:=[_,_])))
     | exact Turn.refl _ _
  ·rw [List.take_of_length_le hi2] at ho
   have hAll:seg.map (usesAt H)=allAt H line at_:=by rw [hseg];rfl
   rw [hAll] at ho
   obtain ⟨All,hAe⟩:∃ A,A=allAt H line at_:=⟨_,rfl⟩
   rw [← hAe] at ho hAf hAu
   have hwm:wordsM H line at_ most=sortE ((wordsAll H All at_).take (most+1)):=by rw [hAe];rfl
   conv=>whnf
   skip
   refine tloop rfl mixed [4,6,7,8,9,40,41,42] [] (fun m r h=>∃ (i:Nat) (lv:AV) (lhp:Heap),r=[(4,[],.iptr (encHou H)),(6,[],.iptr [.int .i64 at_]),(7,[],.iptr [.int .i64 most]),(8,[],.optr lk 0),(9,[],.iptr [.sl 1 none (All.map encUses)]),(40,[],.sl 4 none (H.lex.entries.map encEnt)),(41,[],.int .i64 (H.lex.entries.map encEnt).length),(42,[],.int .i64 i)]∧h=(lk,.vec [lv])::lhp∧m=H.lex.entries.length - i∧i≤H.lex.entries.length∧Row 7 encEdg (((List.range i).flatMap (wordsEnt H All at_)).take (most+1)) lv lhp) ?_ ?_
   ·conv=>whnf
    refine ⟨_,_,?_,_,0,.nilO,[],rfl,rfl,rfl,by omega,.inl ⟨by simp,rfl,rfl⟩⟩
    refine Turn.trans (Turn.cells (.here _) (.cons (Out.le (by decide) ho) .nil)) ?_
    refine Turn.trans (Turn.freeze (.here _) (FzH.refl _) (.cons (.refl _) (.cons (.refl _) (.cons (.refl _) (.cons (.refl _) (.cons (.ptr rfl) (FzR.refl _))))))) ?_
    refine Turn.trans (Turn.cells (.here _) (.cons nil_le_nilO .nil)) (Turn.sublist (.cons_cons _ (List.nil_sublist _)))
   ·clear ho
    rintro m r h' ⟨i,lv,lhp,rfl,rfl,rfl,hi,hr⟩
    conv=>whnf
    refine ⟨fun hi2=>?_,fun hi2=>?_⟩<;>simp at hi2
    ·obtain ⟨e,he⟩:=get_lt hi2
     have hee:e=entAt H.lex i:=by
      have:=entAt_get (x:=H.lex) (n:=(i:Int)) (by omega) (by omega)
      rw [show ((i:Int)).toNat=i from rfl,he] at this
      exact Option.some.inj this
     subst hee
     have hent:=(hH.lex.entAt (n:=(i:Int)) (by omega) (by omega))
     conv=>whnf
     repeat ((first|refine ix (by assumption) ?_|(refine And.intro ⟨Nat.le_of_ble_eq_true rfl,rfl⟩ ?_)|refine ⟨_,_,Rem.here _,⟨Nat.le_of_ble_eq_true rfl,rfl⟩,?_⟩|refine ⟨_,_,Rem.there (.here _),?_⟩|refine ⟨_,_,.here _,leOK,?_⟩|intro (nb:Nat));conv=>whnf)
     refine tloop rfl mixed [4,6,7,8,9,12,13,14,40,41,42] [] (fun m r h=>∃ (k:Nat) (c:Int) (en:Nat) (lv:AV) (lhp:Heap),r=[(4,[],.iptr (encHou H)),(6,[],.iptr [.int .i64 at_]),(7,[],.iptr [.int .i64 most]),(8,[],.optr lk 0),(9,[],.iptr [.sl 1 none (All.map encUses)]),(12,[],.iptr [.int .i64 i]),(13,[],.iptr (encEnt (entAt H.lex i))),(14,[],.optr en 0),(40,[],.sl 4 none (H.lex.entries.map encEnt)),(41,[],.int .i64 (H.lex.entries.map encEnt).length),(42,[],.int .i64 i)]∧h=(en,.vec [.int .i64 c])::(lk,.vec [lv])::lhp∧m=H.lex.endings.length+1 - k∧c=(k:Int) - 1∧k≤H.lex.endings.length+1∧Row 7 encEdg (((List.range i).flatMap (wordsEnt H All at_)++(List.range k).flatMap (wordsOf H All at_ i)).take (most+1)) lv lhp) ?_ ?_
     ·conv=>whnf
      exact ⟨_,_,Turn.refl _ _,_,0,-1,_,_,_,rfl,rfl,rfl,rfl,by omega,by simpa using hr⟩
     ·clear hr
      rintro m r h' ⟨k,c,en,lv,lhp,rfl,rfl,rfl,hc,hk,hr⟩
      have hrs:(List.range (k+1)).flatMap (wordsOf H All at_ i)=(List.range k).flatMap (wordsOf H All at_ i)++wordsOf H All at_ i k:=by rw [List.range_succ,List.flatMap_append,List.flatMap_singleton]
      conv=>whnf
      repeat (refine ⟨_,_,.head _,rfl,?_⟩;conv=>whnf)
      refine ⟨fun hi3=>?_,fun hi3=>?_⟩<;>simp at hi3
      ·conv=>whnf
       repeat ((first|(refine ixg (⟨0,[],[],0⟩:Edn) ?_ ?_;(focus (conv=>whnf;skip));(focus (intro g0;have g0:=of_decide_eq_true g0;show 0≤_∧_<_;omega)))|refine ⟨_,_,.head _,rfl,?_⟩|refine And.intro (by show drawOK (opsAt Tryz.f66 _) _=true;decide +kernel) ?_);conv=>whnf)
       refine ⟨fun hs=>?_,fun hs=>?_⟩
       ·have hs:skipE H.lex i c=true:=hs
        have hwo:wordsOf H All at_ i k=[]:=by unfold wordsOf;rw [← hc,if_pos hs]
        rw [hwo,List.append_nil] at hrs
        conv=>whnf
        repeat ((first|refine ⟨gP_of ⟨by omega,by omega⟩,?_⟩|refine ⟨_,_,.head _,rfl,?_⟩|refine ⟨_,_,.here _,leOK,?_⟩|intro (nb:Nat));conv=>whnf)
        exact ⟨_,_,Turn.sublist (.cons_cons _ (.cons _ (.cons_cons _ (List.Sublist.refl _)))),_,(by omega),k+1,_,_,_,_,rfl,rfl,rfl,by omega,by omega,by rw [hrs];exact hr⟩
       ·have hs:skipE H.lex i c=false:=hs
        obtain ⟨E,hE0⟩:∃ E:Run,E=⟨envAt H at_ i c,most,All⟩:=⟨_,rfl⟩
        have hwo:wordsOf H All at_ i k=wordsF E.toEnv All prg0 []:=by unfold wordsOf;rw [← hc,if_neg (by rw [hs];decide),hE0]
        have hE:EnvOK E:=by
         rw [hE0]
         exact ⟨hH,hfit,spAt hH (by omega) (by omega) (by omega),⟨by show (0:Int)≤i;omega,by show (i:Int)<H.lex.entries.length;omega⟩,⟨by show (0:Int)≤at_;omega,by show (at_:Int)≤1048576;omega⟩,by show most≤1048576;omega,hAf,hAu⟩
        conv=>whnf
        repeat ((first|refine gcall (bodyA H.lex i c hH.lex (by omega) (by omega) (by omega)) ?_|refine ⟨_,_,Rem.here _,?_⟩|refine ⟨_,_,.head _,rfl,?_⟩|refine ⟨_,_,.here _,leOK,?_⟩|refine And.intro (by show drawOK (opsAt Tryz.f66 _) _=true;decide +kernel) ?_|intro (nb:Nat));conv=>whnf)
        have hst:=fun sk tk=>stepA E sk tk lk en hE All prg0 [] _ .nilO [] lv lhp ⟨[],by rw [hE0];rfl,rfl⟩ (prg0_ok _) (.inl ⟨rfl,rfl,rfl⟩) hr (fun h=>absurd rfl h) (by rw [hE0,List.length_take];show min (most+1) _≤most+1;omega)
        simp only [hE0] at hst
        refine ACalls.mono ?_ (ACalls.cells (ACalls.perm (ACalls.args (hst _ _) (.cons (VLe.agg (.cons (VLe.refl _) (.cons (VLe.refl _) (.cons (VLe.refl _) (.cons (VLe.nil (by decide)) (.cons (VLe.refl _) (.cons (VLe.refl _) .nil))))))) (VsLe.refl _))) (.cons _ (.cons _ (.swap _ _ _)))) (.there (.here _)) (.cons nil_le_nilO .nil))
        rintro v h1 ⟨rfl,tv',thp',lv',lhp',hT',hL',rfl⟩
        conv=>whnf
        repeat ((first|(refine ⟨_,_,.tail _ (.tail _ (.tail _ (.head _))),rfl,?_⟩)|(refine ⟨gP_of (show -9223372036854775808≤c+1∧c+1≤9223372036854775807 by omega),?_⟩)|refine ⟨_,_,.head _,rfl,?_⟩|refine ⟨_,_,.here _,leOK,?_⟩|intro (nb:Nat));conv=>whnf)
        have h9:Row 7 encEdg ((((List.range i).flatMap (wordsEnt H All at_)++(List.range k).flatMap (wordsOf H All at_ i)).take (most+1)++wordsF (envAt H at_ i c) All prg0 []).take (most+1)) lv' lhp':=hL'
        rw [take_app1] at h9
        exact ⟨_,_::(lk,.vec [lv'])::lhp',Turn.sublist (.cons_cons _ (.cons _ (.cons _ (.cons_cons _ (.cons _ (List.sublist_append_right thp' lhp')))))),_,(by omega),k+1,_,_,_,_,rfl,rfl,rfl,(by show c+1=_;omega),by omega,by rw [hrs,hwo,hE0];rw [List.append_assoc] at h9;exact h9⟩
      ·have hke:k=H.lex.endings.length+1:=by omega
       rw [hke] at hr
       conv=>whnf
       repeat (refine ⟨gP_of ⟨by omega,by omega⟩,?_⟩;conv=>whnf)
       exact ⟨_,_,Turn.sublist (.cons _ (List.Sublist.refl _)),_,(by omega),i+1,_,_,rfl,rfl,rfl,by omega,by rw [List.range_succ,List.flatMap_append,List.flatMap_singleton];exact hr⟩
    ·have hie:i=H.lex.entries.length:=by omega
     rw [hie] at hr
     have hLm:((wordsAll H All at_).take (most+1)).length≤4294967296:=by rw [List.length_take];omega
     have hat':∀ e∈(wordsAll H All at_).take (most+1),EdgAt H at_ e:=fun e he=>wordsAll_at hH hAf hAu e (List.mem_of_mem_take he)
     rcases hr with ⟨hne,rfl,rfl⟩|⟨hne,b,rfl,rfl⟩
     ·have hne:(wordsAll H All at_).take (most+1)=[]:=hne
      conv=>whnf
      repeat ((first|refine QCall.k0 (sortNilE _) ?_|refine ⟨_,_,.head _,rfl,?_⟩|refine ⟨_,_,.here _,leOK,?_⟩);conv=>whnf)
      exact ⟨[],_,.inl ⟨by rw [hwm,hne];simp [sortE,sortL],rfl,rfl⟩,rfl⟩
     ·have hne:(wordsAll H All at_).take (most+1)≠[]:=hne
      conv=>whnf
      repeat (refine ⟨_,_,.head _,rfl,?_⟩;conv=>whnf)
      refine ACalls.mono ?_ (ACalls.perm (ACalls.frame (sortOwnE b _ hne hLm (fun x hx=>⟨by have:=(hat' x hx).cl;omega,by have:=(hat' x hx).few;omega⟩) (fun x hx y hy=>edgAt_eq (hat' x hx) (hat' y hy))) _) (.swap _ _ _))
      rintro v h1 ⟨h2,⟨rfl,rfl⟩,rfl⟩
      conv=>whnf
      repeat ((first|refine ⟨_,_,.tail _ (.head _),rfl,?_⟩|refine ⟨_,_,.there (.here _),leOK,?_⟩);conv=>whnf)
      refine ⟨_,_,.inr ⟨?_,b,?_,rfl⟩,by rw [hwm];rfl⟩
      ·rw [hwm]
       intro h
       have:=congrArg List.length h
       rw [sortE,sortL_length] at this
       exact hne (List.eq_nil_of_length_eq_zero this)
      ·rw [hwm,sortE,sortL_length];rfl
theorem wordsW (H:Hou) (line:List Int) (at_ most:Nat) (hH:HouOK H) (hfit:HouFit H) (hline:∀ s∈line,0≤s∧s<H.list.signs.length) (hlen:line.length≤1048576) (hat:at_≤line.length) (hmost:most≤1048575) :
  QCall Tryz.prog 66 [.agg (encHou H),.sl 1 none (ints line),.int .i64 at_,.int .i64 most] [] (.sl 7 none ((wordsM H line at_ most).map encEdg)):=Row.ok (by decide) (fun _=>rfl) (wordsA H line at_ most hH hfit hline hlen hat hmost)
end Go.Abs.Wall
