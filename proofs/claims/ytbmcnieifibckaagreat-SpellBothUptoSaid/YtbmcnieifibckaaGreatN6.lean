/- What is proved: small laws for the walks of this seat, and contracts of its functions. No condition but those each theorem names. -/
import Derived.Test.YtbmcnieifibckaaGreatN5
set_option maxRecDepth 100000
set_option maxHeartbeats 2000000
set_option linter.unusedVariables false
set_option linter.unusedSimpArgs false
namespace Go.Abs.Wall
open Go Go.Abs Go.Proofs
def partM (s:Sp) (p:Prg):List UInt8:=(tot s p.cl).drop p.sounds.length
def endsM (s:Sp) (p:Prg):Bool:=decide (p.sounds.length=(tot s p.cl).length)
def firstC (cl:List Int):Int:=match cl.getLast? with
 | some c=>c+1
 | none=>0
def spellGo (p:Prg) (u:Use):List Cli→Int→List Prg
 | [],_=>[]
 | k::t,c=>(if begins k.text u.text=true then [⟨p.sounds++u.text,p.closed,p.cl++[c],u⟩] else [])++spellGo p u t (c+1)
def spellM (s:Sp) (p:Prg) (u:Use):List Prg:=
 if partM s p≠[] then (if begins (partM s p) u.text=true then [⟨p.sounds++u.text,p.closed,p.cl,u⟩] else [])
 else if p.cl.length<3 then spellGo p u (s.H.lex.clitics.drop (firstC p.cl).toNat) (firstC p.cl) else []
theorem firstC_ok {s:Sp} {p:Prg} (hp:PrgOK s p):0≤firstC p.cl∧firstC p.cl≤s.H.lex.clitics.length:=by
 unfold firstC
 cases h:p.cl.getLast? with
 | none=>simp
 | some c=>
   have:=hp.cli c (List.mem_of_getLast? h)
   simp only
   omega
theorem spellGo_len (p:Prg) (u:Use):∀ (l:List Cli) (c:Int),(spellGo p u l c).length≤l.length
 | [],_=>by simp [spellGo]
 | k::t,c=>by
   have:=spellGo_len p u t (c+1)
   unfold spellGo
   rw [List.length_append,List.length_cons]
   split<;>simp<;>omega
def Out {α:Type} (k:Nat) (enc:α→List AV) (o:List α) (v:AV) (hp:Heap):Prop:=(o=[]∧v=.nilS∧hp=[])∨∃ q,v=.sl k (some q) (o.map enc)∧hp=[(q,.tok)]
theorem Out.le {α:Type} {k:Nat} {enc:α→List AV} {o:List α} {v:AV} {hp:Heap} (hk:0<k) (h:Out k enc o v hp):VLe v (.sl k none (o.map enc)):=by
 rcases h with ⟨rfl,rfl,rfl⟩|⟨q,rfl,rfl⟩
 ·exact VLe.nil hk
 ·exact VLe.sl
theorem clV {t:Option Nat} {cl:List Int} {c:Int}:VLe (.sl 1 t (ints cl++[[.int .i64 c]])) (.sl 1 none (ints (cl++[c]))):=by
 rw [show ints (cl++[c])=ints cl++[[.int .i64 c]] by simp [ints]]
 exact VLe.sl
theorem prgV {v:AV} {p:Prg} {u:Use} {c:Int} (hv:VLe v (.sl 1 none (ints (p.cl++[c])))):VsLe [.str (p.sounds++u.text),.int .i64 0,.bool p.closed,v,.int .i64 u.kind,.str u.text] (encPrg ⟨p.sounds++u.text,p.closed,p.cl++[c],u⟩):=
 .cons (VLe.refl _) (.cons (VLe.refl _) (.cons (VLe.refl _) (.cons hv (.cons (VLe.refl _) (.cons (VLe.refl _) .nil)))))
def c221:Cfg:=⟨[0,1,2,4,5,6,7,8,9,10,11,16,20,38,61,77],[4],[],[],[(15,[0,1,2,3,4,5,6,7,8,9,10,11,12,13],[])],[]⟩
theorem spellA (s:Sp) (p:Prg) (u:Use) (hs:SpOK s) (hp:PrgOK s p) (hu:u.text.length≤1048576) :
  QCall Tryz.prog 221 [.iptr (encSp s),.agg (encPrg p),.agg (encUse u)] [] (.sl 6 none ((spellM s p u).map encPrg)):=by
 have hb:=hs.body
 have hfew:=hp.few
 have hsn:=hp.sounds
 have htt:=hs.tot hp.cli
 have hpl:(partM s p).length≤LMAX:=by unfold partM LMAX;rw [List.length_drop];omega
 have hul:u.text.length≤LMAX:=by unfold LMAX;omega
 have hadd:(p.sounds++u.text).length≤LMAX:=by rw [List.length_append];unfold LMAX;omega
 have hmn:=hs.lex.many.2.2
 refine QCall.of (fcalls (F:=Tryz.f221) c221 rfl rfl rfl mixed rfl fun X=>?_)
 conv=>whnf
 intro kp
 conv=>whnf
 repeat ((first|refine QCall.k0 (partA s p hs hp) ?_|refine ⟨_,_,.head _,rfl,?_⟩);conv=>whnf)
 refine ⟨fun hc=>?_,fun hc=>?_⟩<;>simp only [Bool.not_eq_true',Bool.not_eq_false',decide_eq_true_eq,decide_eq_false_iff_not] at hc
 ·have hc:partM s p≠[]:=hc
  have hm:spellM s p u=if begins (partM s p) u.text=true then [⟨p.sounds++u.text,p.closed,p.cl,u⟩] else []:=by rw [spellM,if_pos hc]
  conv=>whnf
  repeat (refine QCall.k0 (hasPrefix (partM s p) u.text hpl hul) ?_;conv=>whnf)
  refine ⟨fun hq=>?_,fun hq=>?_⟩
  ·rw [if_pos hq] at hm
   rw [hm]
   conv=>whnf
   repeat ((first|(refine ⟨gP_of hadd,?_⟩)|(refine ⟨Nat.le_of_ble_eq_true rfl,fun q=>?_⟩)|refine ⟨_,_,.head _,rfl,?_⟩|refine ⟨_,_,.here _,leOK,?_⟩);conv=>whnf)
   exact VLe.sl
  ·rw [if_neg (by rw [hq];decide)] at hm
   rw [hm]
   conv=>whnf
   skip
   exact VLe.nil (by decide)
 ·have hc:partM s p=[]:=hc
  have hm:spellM s p u=if p.cl.length<3 then spellGo p u (s.H.lex.clitics.drop (firstC p.cl).toNat) (firstC p.cl) else []:=by rw [spellM,if_neg (by simpa using hc)]
  have hfc:=firstC_ok hp
  conv=>whnf
  repeat (refine ⟨_,_,.head _,rfl,?_⟩;conv=>whnf)
  refine ⟨fun hn=>?_,fun hn=>?_⟩<;>simp at hn
  ·obtain ⟨c,hcl⟩:=get_lt (l:=p.cl) (i:=p.cl.length - 1) (by omega)
   have hci:=hp.cli c (List.mem_of_getElem? hcl)
   have hf:firstC p.cl=c+1:=by unfold firstC;rw [List.getLast?_eq_getElem?,hcl]
   conv=>whnf
   repeat ((first|refine ⟨gP_of ⟨by omega,by omega⟩,?_⟩|(refine ixn (p.cl.length - 1) (by simp [ints];omega) hcl ?_)|(refine ⟨gP_of ⟨by simp [ints];omega,by simp [ints];omega⟩,?_⟩)|refine ⟨_,_,.head _,rfl,?_⟩);conv=>whnf)
   rw [← hf]
   refine tloop rfl mixed [0,4,5,6,10] [] (fun m r h=>∃ (c:Int) (o:List Prg) (v:AV) (hp0:Heap),r=[(0,[],.iptr (encSp s)),(4,[],.optr kp 0),(5,[],.iptr (encUse u)),(6,[],v),(10,[],.int .i64 c)]∧h=hp0++[(kp,.vec (encPrg p))]∧m=(s.H.lex.clitics.length - c).toNat∧0≤c∧c≤s.H.lex.clitics.length∧Out 6 encPrg o v hp0∧o.length≤c∧spellM s p u=o++(if p.cl.length<3 then spellGo p u (s.H.lex.clitics.drop c.toNat) c else [])) ?_ ?_
   ·conv=>whnf
    exact ⟨_,_,Turn.refl _ _,_,firstC p.cl,[],_,[],rfl,rfl,rfl,hfc.1,hfc.2,.inl ⟨rfl,rfl,rfl⟩,by simpa using hfc.1,by rw [hm];rfl⟩
   ·rintro m r h' ⟨c,o,v,hp0,rfl,rfl,rfl,hc0,hcn,hv,hol,hmo⟩
    have hob:o.length+1≤AMAX:=by have:=hs.lex.many;unfold AMAX;omega
    rcases hv with ⟨he,rfl,rfl⟩|⟨q,rfl,rfl⟩
    all_goals
     conv=>whnf
     repeat ((first|refine ⟨_,_,.head _,rfl,?_⟩|refine ⟨_,_,.tail _ (.head _),rfl,?_⟩);conv=>whnf)
     refine ⟨fun hi2=>?_,fun hi2=>?_⟩
     ·have hi3:c<s.H.lex.clitics.length∧p.cl.length<3:=by simp at hi2;exact ⟨hi2.1,by omega⟩
      have hct:=sndOK_len (hs.lex.cliAt hc0 hi3.1).text
      have hcl:(cliAt s.H.lex c).text.length≤LMAX:=by unfold LMAX;omega
      rw [if_pos hi3.2,drop_cons (cliAt_get hc0 hi3.1),spellGo,show ((c.toNat:Nat)+1)=(c+1).toNat by omega] at hmo
      conv=>whnf
      repeat ((first|(refine ixn c.toNat (by omega) (cliAt_get hc0 hi3.1) ?_)|refine gcall (hasPrefix (cliAt s.H.lex c).text u.text hcl hul) ?_|refine And.intro (by show drawOK (opsAt Tryz.f221 _) _=true;decide +kernel) ?_);conv=>whnf)
      refine ⟨fun hq=>?_,fun hq=>?_⟩<;>simp only [Bool.not_eq_true',Bool.not_eq_false'] at hq
      ·rw [if_neg (by rw [hq];decide),List.nil_append] at hmo
       conv=>whnf
       repeat (refine ⟨gP_of ⟨by omega,by omega⟩,?_⟩;conv=>whnf)
       refine ⟨_,_,Turn.refl _ _,_,(by omega),c+1,o,_,_,rfl,rfl,rfl,by omega,by omega,?_,by omega,by rw [if_pos hi3.2];exact hmo⟩
       first|exact .inl ⟨he,rfl,rfl⟩|exact .inr ⟨q,rfl,rfl⟩
      ·rw [if_pos hq] at hmo
       conv=>whnf
       repeat ((first|(refine ⟨_,_,.tail _ (.tail _ (.head _)),rfl,?_⟩)|refine ⟨_,_,.head _,rfl,?_⟩|refine ⟨_,_,.tail _ (.head _),rfl,?_⟩|refine ⟨_,_,.here _,leOK,?_⟩|intro (nb:Nat));conv=>whnf)
       refine ACalls.mono ?_ (ACalls.frame (cloneIT p.cl (by unfold AMAX;omega)) _)
       rintro v h1 ⟨h2,hcl2,rfl⟩
       rcases hcl2 with ⟨he2,rfl,rfl⟩|⟨q2,rfl,rfl⟩
       all_goals
        conv=>whnf
        repeat ((first|refine ⟨gP_of ⟨by omega,by omega⟩,?_⟩|(refine ⟨gP_of hadd,?_⟩)|(refine ⟨(by first|exact Nat.le_of_ble_eq_true rfl|(simp [ints,AMAX];omega)),fun q3=>?_⟩)|(refine ⟨_,.here _,?_⟩)|(refine ⟨_,.there (.there (.here _)),?_⟩)|refine ⟨_,_,.tail _ (.head _),rfl,?_⟩|refine ⟨_,_,.there (.here _),leOK,?_⟩);conv=>whnf)
        refine ⟨[(0,[],.iptr (encSp s)),(4,[],.optr kp 0),(5,[],.iptr (encUse u)),(6,[],.sl 6 (some q3) ((o++[(⟨p.sounds++u.text,p.closed,p.cl++[c],u⟩:Prg)]).map encPrg)),(10,[],.int .i64 (c+1))],[(q3,.tok),(kp,.vec (encPrg p))],?_,_,(by omega),c+1,_,_,[(q3,.tok)],rfl,rfl,rfl,by omega,by omega,.inr ⟨_,rfl,rfl⟩,by simp;omega,by rw [if_pos hi3.2,hmo,List.append_assoc]⟩
        refine Turn.trans (Turn.weak (.cons (VLe.refl _) (.cons (VLe.refl _) (.cons (VLe.refl _) (.cons ?_ (RLe.refl _)))))) (Turn.sub ?_ ?_)
        ·first
          | (rw [he];exact VLe.els (.cons (prgV clV) .nil))
          | (rw [he];refine VLe.els (.cons (prgV ?_) .nil);have h9:=fun t=>clV (t:=t) (cl:=p.cl) (c:=c);rw [he2] at h9;exact h9 _)
          | (rw [List.map_append];exact VLe.els (VssLe.snoc (prgV clV)))
          | (rw [List.map_append];refine VLe.els (VssLe.snoc (prgV ?_));have h9:=fun t=>clV (t:=t) (cl:=p.cl) (c:=c);rw [he2] at h9;exact h9 _)
        ·intro k o hm
         simp only [List.mem_cons,List.not_mem_nil,or_false] at hm
         rcases hm with hm|hm<;>simp [hm]
        ·intro hn
         simp [keys] at hn ⊢
         simp [hn]
     ·have hmo2:spellM s p u=o:=by
       rw [hmo]
       simp at hi2
       split
       ·rename_i h3
        rw [drop_nil (by omega)];simp [spellGo]
       ·simp
      rw [hmo2]
      conv=>whnf
      skip
      first|exact Out.le (by decide) (.inl ⟨he,rfl,rfl⟩)|exact Out.le (by decide) (.inr ⟨q,rfl,rfl⟩)
  ·have hf:firstC p.cl=0:=by rw [hn];rfl
   conv=>whnf
   skip
   have h00:(0:Int)=firstC p.cl:=hf.symm
   rw [h00]
   refine tloop rfl mixed [0,4,5,6,10] [] (fun m r h=>∃ (c:Int) (o:List Prg) (v:AV) (hp0:Heap),r=[(0,[],.iptr (encSp s)),(4,[],.optr kp 0),(5,[],.iptr (encUse u)),(6,[],v),(10,[],.int .i64 c)]∧h=hp0++[(kp,.vec (encPrg p))]∧m=(s.H.lex.clitics.length - c).toNat∧0≤c∧c≤s.H.lex.clitics.length∧Out 6 encPrg o v hp0∧o.length≤c∧spellM s p u=o++(if p.cl.length<3 then spellGo p u (s.H.lex.clitics.drop c.toNat) c else [])) ?_ ?_
   ·conv=>whnf
    exact ⟨_,_,Turn.refl _ _,_,firstC p.cl,[],_,[],rfl,rfl,rfl,hfc.1,hfc.2,.inl ⟨rfl,rfl,rfl⟩,by simpa using hfc.1,by rw [hm];rfl⟩
   ·rintro m r h' ⟨c,o,v,hp0,rfl,rfl,rfl,hc0,hcn,hv,hol,hmo⟩
    have hob:o.length+1≤AMAX:=by have:=hs.lex.many;unfold AMAX;omega
    rcases hv with ⟨he,rfl,rfl⟩|⟨q,rfl,rfl⟩
    all_goals
     conv=>whnf
     repeat ((first|refine ⟨_,_,.head _,rfl,?_⟩|refine ⟨_,_,.tail _ (.head _),rfl,?_⟩);conv=>whnf)
     refine ⟨fun hi2=>?_,fun hi2=>?_⟩
     ·have hi3:c<s.H.lex.clitics.length∧p.cl.length<3:=by simp at hi2;exact ⟨hi2.1,by omega⟩
      have hct:=sndOK_len (hs.lex.cliAt hc0 hi3.1).text
      have hcl:(cliAt s.H.lex c).text.length≤LMAX:=by unfold LMAX;omega
      rw [if_pos hi3.2,drop_cons (cliAt_get hc0 hi3.1),spellGo,show ((c.toNat:Nat)+1)=(c+1).toNat by omega] at hmo
      conv=>whnf
      repeat ((first|(refine ixn c.toNat (by omega) (cliAt_get hc0 hi3.1) ?_)|refine gcall (hasPrefix (cliAt s.H.lex c).text u.text hcl hul) ?_|refine And.intro (by show drawOK (opsAt Tryz.f221 _) _=true;decide +kernel) ?_);conv=>whnf)
      refine ⟨fun hq=>?_,fun hq=>?_⟩<;>simp only [Bool.not_eq_true',Bool.not_eq_false'] at hq
      ·rw [if_neg (by rw [hq];decide),List.nil_append] at hmo
       conv=>whnf
       repeat (refine ⟨gP_of ⟨by omega,by omega⟩,?_⟩;conv=>whnf)
       refine ⟨_,_,Turn.refl _ _,_,(by omega),c+1,o,_,_,rfl,rfl,rfl,by omega,by omega,?_,by omega,by rw [if_pos hi3.2];exact hmo⟩
       first|exact .inl ⟨he,rfl,rfl⟩|exact .inr ⟨q,rfl,rfl⟩
      ·rw [if_pos hq] at hmo
       conv=>whnf
       repeat ((first|(refine ⟨_,_,.tail _ (.tail _ (.head _)),rfl,?_⟩)|refine ⟨_,_,.head _,rfl,?_⟩|refine ⟨_,_,.tail _ (.head _),rfl,?_⟩|refine ⟨_,_,.here _,leOK,?_⟩|intro (nb:Nat));conv=>whnf)
       refine ACalls.mono ?_ (ACalls.frame (cloneIT p.cl (by unfold AMAX;omega)) _)
       rintro v h1 ⟨h2,hcl2,rfl⟩
       rcases hcl2 with ⟨he2,rfl,rfl⟩|⟨q2,rfl,rfl⟩
       all_goals
        conv=>whnf
        repeat ((first|refine ⟨gP_of ⟨by omega,by omega⟩,?_⟩|(refine ⟨gP_of hadd,?_⟩)|(refine ⟨(by first|exact Nat.le_of_ble_eq_true rfl|(simp [ints,AMAX];omega)),fun q3=>?_⟩)|(refine ⟨_,.here _,?_⟩)|(refine ⟨_,.there (.there (.here _)),?_⟩)|refine ⟨_,_,.tail _ (.head _),rfl,?_⟩|refine ⟨_,_,.there (.here _),leOK,?_⟩);conv=>whnf)
        refine ⟨[(0,[],.iptr (encSp s)),(4,[],.optr kp 0),(5,[],.iptr (encUse u)),(6,[],.sl 6 (some q3) ((o++[(⟨p.sounds++u.text,p.closed,p.cl++[c],u⟩:Prg)]).map encPrg)),(10,[],.int .i64 (c+1))],[(q3,.tok),(kp,.vec (encPrg p))],?_,_,(by omega),c+1,_,_,[(q3,.tok)],rfl,rfl,rfl,by omega,by omega,.inr ⟨_,rfl,rfl⟩,by simp;omega,by rw [if_pos hi3.2,hmo,List.append_assoc]⟩
        refine Turn.trans (Turn.weak (.cons (VLe.refl _) (.cons (VLe.refl _) (.cons (VLe.refl _) (.cons ?_ (RLe.refl _)))))) (Turn.sub ?_ ?_)
        ·first
          | (rw [he];exact VLe.els (.cons (prgV clV) .nil))
          | (rw [he];refine VLe.els (.cons (prgV ?_) .nil);have h9:=fun t=>clV (t:=t) (cl:=p.cl) (c:=c);rw [he2] at h9;exact h9 _)
          | (rw [List.map_append];exact VLe.els (VssLe.snoc (prgV clV)))
          | (rw [List.map_append];refine VLe.els (VssLe.snoc (prgV ?_));have h9:=fun t=>clV (t:=t) (cl:=p.cl) (c:=c);rw [he2] at h9;exact h9 _)
        ·intro k o hm
         simp only [List.mem_cons,List.not_mem_nil,or_false] at hm
         rcases hm with hm|hm<;>simp [hm]
        ·intro hn
         simp [keys] at hn ⊢
         simp [hn]
     ·have hmo2:spellM s p u=o:=by
       rw [hmo]
       simp at hi2
       split
       ·rename_i h3
        rw [drop_nil (by omega)];simp [spellGo]
       ·simp
      rw [hmo2]
      conv=>whnf
      skip
      first|exact Out.le (by decide) (.inl ⟨he,rfl,rfl⟩)|exact Out.le (by decide) (.inr ⟨q,rfl,rfl⟩)
end Go.Abs.Wall
namespace Go.Abs.Wall
open Go Go.Abs Go.Proofs
def stBad (s:Sp) (p:Prg) (u:Use):Bool:=!decide (p.last.kind=0)||!decide (u.text=s.e.root)
def heavy (p:Prg):Bool:=decide (p.last.kind=2)||(decide (p.last.kind=1)&&decide (2≤(p.last.text.length:Int)))
def rpBad (p:Prg) (u:Use):Bool:=!heavy p||decide ((p.last.text.length:Int)<u.text.length)||!endsW p.sounds u.text
def clBad (s:Sp) (p:Prg) (u:Use):Bool:=p.closed||decide (s.e.cls=[])||!decide (u.text=s.e.cls)||decide (0<(p.cl.length:Int))||!decide ((p.sounds.length:Int)=s.body.length)
def nextM (s:Sp) (p:Prg) (u:Use):List Prg:=
 if u.kind=1 then spellM s p u
 else if u.kind=2 then (if stBad s p u=true then [] else [⟨u.text,p.closed,p.cl,u⟩])
 else if u.kind=3 then (if rpBad p u=true then [] else [⟨p.sounds,p.closed,p.cl,u⟩])
 else if u.kind=4 then (if clBad s p u=true then [] else [⟨p.sounds,true,p.cl,u⟩])
 else []
def c154:Cfg:=⟨[0,1,2,4,5,6,7,9,10,16,31,35,73,74,112],[4],[],[],[(6,[0,1,2,3,4,5,6,7,8,9,10,11,12,13],[]),(14,[0,1,2,3,4,5,6,7,8,9,10,11,12,13,14,15,16,17,18,19,20,21,22,23,24,25,26,27,28,29,30,31,32,33,34,35,36],[])],[]⟩
theorem nextA (s:Sp) (p:Prg) (u:Use) (hs:SpOK s) (hp:PrgOK s p) (hu:u.text.length≤1048576) :
  QCall Tryz.prog 154 [.iptr (encSp s),.agg (encPrg p),.agg (encUse u)] [] (.sl 6 none ((nextM s p u).map encPrg)):=by
 have hb:=hs.body
 have hfew:=hp.few
 have hsn:=hp.sounds
 have htt:=hs.tot hp.cli
 have hpl:p.sounds.length≤LMAX:=by unfold LMAX;omega
 have hul:u.text.length≤LMAX:=by unfold LMAX;omega
 refine QCall.of (fcalls (F:=Tryz.f154) c154 rfl rfl rfl mixed rfl fun X=>?_)
 conv=>whnf
 intro kp
 conv=>whnf
 skip
 refine ⟨fun h1=>?_,fun h1=>?_⟩<;>simp only [decide_eq_true_eq,decide_eq_false_iff_not] at h1
 ·have hm:nextM s p u=spellM s p u:=by rw [nextM,if_pos h1]
  rw [hm]
  conv=>whnf
  repeat ((first|refine QCall.k0 (spellA s p u hs hp hu) ?_|refine ⟨_,_,.head _,rfl,?_⟩);conv=>whnf)
  exact VLe.refl _
 conv=>whnf
 skip
 refine ⟨fun h2=>?_,fun h2=>?_⟩<;>simp only [decide_eq_true_eq,decide_eq_false_iff_not] at h2
 ·have hm:nextM s p u=if stBad s p u=true then [] else [⟨u.text,p.closed,p.cl,u⟩]:=by rw [nextM,if_neg h1,if_pos h2]
  conv=>whnf
  repeat ((first|refine ⟨_,_,.head _,rfl,?_⟩|refine And.intro (by show drawOK (opsAt Tryz.f154 _) _=true;decide +kernel) ?_);conv=>whnf)
  refine ⟨fun hq=>?_,fun hq=>?_⟩
  ·have hq:stBad s p u=true:=hq
   rw [hm,if_pos hq]
   conv=>whnf
   exact VLe.nil (by decide)
  ·have hq:stBad s p u=false:=hq
   rw [hm,if_neg (by rw [hq];decide)]
   conv=>whnf
   repeat ((first|refine ⟨_,_,.head _,rfl,?_⟩|refine ⟨_,_,.here _,leOK,?_⟩);conv=>whnf)
   exact VLe.refl _
 conv=>whnf
 skip
 refine ⟨fun h3=>?_,fun h3=>?_⟩<;>simp only [decide_eq_true_eq,decide_eq_false_iff_not] at h3
 ·have hm:nextM s p u=if rpBad p u=true then [] else [⟨p.sounds,p.closed,p.cl,u⟩]:=by rw [nextM,if_neg h1,if_neg h2,if_pos h3]
  conv=>whnf
  repeat ((first|refine gcall (hasSuffix p.sounds u.text hpl hul) ?_|refine ⟨_,_,.head _,rfl,?_⟩);conv=>whnf)
  refine ⟨fun hq=>?_,fun hq=>?_⟩
  ·have hq:rpBad p u=true:=hq
   rw [hm,if_pos hq]
   conv=>whnf
   exact VLe.nil (by decide)
  ·have hq:rpBad p u=false:=hq
   rw [hm,if_neg (by rw [hq];decide)]
   conv=>whnf
   repeat ((first|refine ⟨_,_,.head _,rfl,?_⟩|refine ⟨_,_,.here _,leOK,?_⟩);conv=>whnf)
   exact VLe.refl _
 conv=>whnf
 skip
 refine ⟨fun h4=>?_,fun h4=>?_⟩<;>simp only [decide_eq_true_eq,decide_eq_false_iff_not] at h4
 ·have hm:nextM s p u=if clBad s p u=true then [] else [⟨p.sounds,true,p.cl,u⟩]:=by rw [nextM,if_neg h1,if_neg h2,if_neg h3,if_pos h4]
  conv=>whnf
  repeat ((first|refine ⟨_,_,.head _,rfl,?_⟩|refine And.intro (by show drawOK (opsAt Tryz.f154 _) _=true;decide +kernel) ?_);conv=>whnf)
  refine ⟨fun hq=>?_,fun hq=>?_⟩
  ·have hq:(p.closed||decide (s.e.cls=[])||!decide (u.text=s.e.cls)||decide (0<((ints p.cl).length:Int))||!decide ((p.sounds.length:Int)=s.body.length))=true:=hq
   rw [ints_length] at hq
   have hq:clBad s p u=true:=hq
   rw [hm,if_pos hq]
   conv=>whnf
   exact VLe.nil (by decide)
  ·have hq:(p.closed||decide (s.e.cls=[])||!decide (u.text=s.e.cls)||decide (0<((ints p.cl).length:Int))||!decide ((p.sounds.length:Int)=s.body.length))=false:=hq
   rw [ints_length] at hq
   have hq:clBad s p u=false:=hq
   rw [hm,if_neg (by rw [hq];decide)]
   conv=>whnf
   repeat ((first|refine ⟨_,_,.head _,rfl,?_⟩|refine ⟨_,_,.here _,leOK,?_⟩);conv=>whnf)
   exact VLe.refl _
 ·have hm:nextM s p u=[]:=by rw [nextM,if_neg h1,if_neg h2,if_neg h3,if_neg h4]
  rw [hm]
  conv=>whnf
  skip
  exact VLe.nil (by decide)
def UseOK (u:Use):Prop:=1≤u.kind∧u.kind≤4∧1≤u.text.length∧u.text.length≤8
theorem begins_len {t w:List UInt8} (h:begins t w=true):w.length≤t.length:=by
 unfold begins at h
 simp only [Bool.and_eq_true,decide_eq_true_eq] at h
 omega
theorem spellGo_ok {s:Sp} {p:Prg} {u:Use} (hp:PrgOK s p) (hu:UseOK u) (he:p.sounds.length=(tot s p.cl).length) (h3:p.cl.length<3):∀ (l:List Cli) (c:Int),0≤c→s.H.lex.clitics.drop c.toNat=l→∀ q∈spellGo p u l c,PrgOK s q
 | [],_,_,_,q,hq=>by cases hq
 | k::t,c,h0,hd,q,hq=>by
   unfold spellGo at hq
   have hk:s.H.lex.clitics[c.toNat]?=some k:=by
    have:=congrArg (fun z=>z[0]?) hd
    simpa using this
   have hlt:=(List.getElem?_eq_some_iff.1 hk).1
   have hd2:s.H.lex.clitics.drop (c+1).toNat=t:=by
    have:=congrArg List.tail hd
    rw [show (c+1).toNat=c.toNat+1 by omega]
    simpa [List.tail_drop] using this
   rcases List.mem_append.1 hq with hq|hq
   ·split at hq
    ·rename_i hb
     cases List.mem_singleton.1 hq
     have hca:(cliAt s.H.lex c)=k:=by
      have:=cliAt_get (x:=s.H.lex) h0 (by omega)
      rw [hk] at this
      exact (Option.some.inj this).symm
     refine ⟨by simp;omega,fun d hd=>?_,?_,fun h=>?_⟩
     ·rcases List.mem_append.1 hd with hd|hd
      ·exact hp.cli d hd
      ·cases List.mem_singleton.1 hd;omega
     ·show (p.sounds++u.text).length≤(tot s (p.cl++[c])).length
      rw [tot_snoc,List.length_append,List.length_append,hca]
      have:=begins_len hb
      omega
     ·exact absurd h (by have:=hu.1;show ¬ u.kind=0;omega)
    ·cases hq
   ·exact spellGo_ok hp hu he h3 t (c+1) (by omega) hd2 q hq
theorem spellM_ok {s:Sp} {p:Prg} {u:Use} (hp:PrgOK s p) (hu:UseOK u):∀ q∈spellM s p u,PrgOK s q:=by
 intro q hq
 unfold spellM at hq
 split at hq
 ·split at hq
  ·rename_i hb
   cases List.mem_singleton.1 hq
   have:=begins_len hb
   unfold partM at this
   rw [List.length_drop] at this
   refine ⟨hp.few,hp.cli,?_,fun h=>absurd h (by have:=hu.1;show ¬ u.kind=0;omega)⟩
   show (p.sounds++u.text).length≤_
   rw [List.length_append]
   have:=hp.sounds
   show _≤(tot s p.cl).length
   omega
  ·cases hq
 ·rename_i h0
  split at hq
  ·rename_i h3
   have he:p.sounds.length=(tot s p.cl).length:=by
    have h1:=hp.sounds
    simp only [ne_eq,Decidable.not_not] at h0
    unfold partM at h0
    rw [List.drop_eq_nil_iff] at h0
    omega
   exact spellGo_ok hp hu he h3 _ _ (firstC_ok hp).1 rfl q hq
  ·cases hq
theorem nextM_ok {s:Sp} {p:Prg} {u:Use} (hs:SpOK s) (hp:PrgOK s p) (hu:UseOK u):∀ q∈nextM s p u,PrgOK s q:=by
 intro q hq
 have hk:¬ u.kind=0:=by have:=hu.1;omega
 unfold nextM at hq
 split at hq
 ·exact spellM_ok hp hu q hq
 split at hq
 ·split at hq
  ·cases hq
  ·rename_i hb
   cases List.mem_singleton.1 hq
   rw [Bool.not_eq_true] at hb
   unfold stBad at hb
   simp only [Bool.or_eq_false_iff,Bool.not_eq_false',decide_eq_true_eq] at hb
   obtain ⟨h1,h2⟩:=hp.new hb.1
   refine ⟨hp.few,hp.cli,?_,fun h=>absurd h hk⟩
   show u.text.length≤_
   rw [hb.2]
   have:=hs.root
   unfold tot
   rw [List.length_append]
   omega
 split at hq
 ·split at hq
  ·cases hq
  ·cases List.mem_singleton.1 hq
   exact ⟨hp.few,hp.cli,hp.sounds,fun h=>absurd h hk⟩
 split at hq
 ·split at hq
  ·cases hq
  ·cases List.mem_singleton.1 hq
   exact ⟨hp.few,hp.cli,hp.sounds,fun h=>absurd h hk⟩
 ·cases hq
def prg0:Prg:=⟨[],false,[],⟨0,[]⟩⟩
theorem prg0_ok (s:Sp):PrgOK s prg0:=⟨by simp [prg0],by simp [prg0],by simp [prg0],fun _=>⟨rfl,rfl⟩⟩
end Go.Abs.Wall
namespace Go.Abs.Wall
open Go Go.Abs Go.Proofs
structure Wrd where
 form:Frm
 uses:List Use
deriving DecidableEq
def encWrd (w:Wrd):List AV:=encFrm w.form++[.sl 2 none (w.uses.map encUse)]
def useCost (c:Cos) (u:Use):Int:=
 if u.kind=1 then c.spell else if u.kind=2 then c.stand else if u.kind=3 then c.rpt else if u.kind=4 then c.cls else 0
def usesCost (c:Cos) (l:List Use):Int:=(l.map (useCost c)).sum
def closes (l:List Use):Bool:=l.any fun u=>decide (u.kind=4)
def frmW (x:Lex) (f:Frm):Int:=if frmErr x f=0 then wgtM x f else 0
def priceM (H:Hou) (w:Wrd):Int:=
 frmW H.lex w.form+usesCost H.costs w.uses+(if (!closes w.uses&&!decide ((entAt H.lex w.form.entry).cls=[]))=true then H.costs.opn else 0)
structure HouOK (H:Hou):Prop where
 lst:lstErr H.list=0
 lex:LexOK H.lex
 costs:∀ c∈costL H.costs,0≤c∧c≤1000
 period:1≤H.period∧H.period≤H.list.periods
theorem houOK {H:Hou} (h:houErr H=0):HouOK H:=by
 unfold houErr at h
 split at h
 ·rename_i h1;exact absurd h h1
 rename_i h1
 split at h
 ·rename_i h2;exact absurd h h2
 rename_i h2
 split at h
 ·cases h
 rename_i h3
 split at h
 ·cases h
 rename_i h4
 rw [Bool.not_eq_false,List.all_eq_true] at h3
 rw [Bool.not_eq_false,wthn_iff] at h4
 exact ⟨by omega,lexOK (by omega),fun c hc=>wthn_iff.1 (h3 c hc),h4⟩
theorem useCost_bound {H:Hou} (h:HouOK H) (u:Use):0≤useCost H.costs u∧useCost H.costs u≤1000:=by
 have hc:=h.costs
 unfold useCost
 split
 ·exact hc _ (by simp [costL])
 split
 ·exact hc _ (by simp [costL])
 split
 ·exact hc _ (by simp [costL])
 split
 ·exact hc _ (by simp [costL])
 ·omega
theorem usesCost_bound {H:Hou} (h:HouOK H):∀ l:List Use,0≤usesCost H.costs l∧usesCost H.costs l≤1000*l.length
 | []=>by simp [usesCost]
 | u::l=>by
   have h1:=usesCost_bound h l
   have h2:=useCost_bound h u
   unfold usesCost at h1 ⊢
   simp only [List.map_cons,List.sum_cons,List.length_cons]
   omega
theorem usesCost_snoc {c:Cos} {l:List Use} {u:Use}:usesCost c (l++[u])=usesCost c l+useCost c u:=by
 unfold usesCost;simp
theorem closes_snoc {l:List Use} {u:Use}:closes (l++[u])=(closes l||decide (u.kind=4)):=by
 unfold closes;simp
theorem frmW_bound {x:Lex} {f:Frm}:0≤frmW x f∧frmW x f≤5000:=by
 unfold frmW
 split
 ·rename_i h;exact (frmOK h).wgt
 ·omega
theorem priceM_bound {H:Hou} (h:HouOK H) {w:Wrd}:0≤priceM H w∧priceM H w≤6000+1000*w.uses.length:=by
 have h1:=frmW_bound (x:=H.lex) (f:=w.form)
 have h2:=usesCost_bound h w.uses
 have h3:=h.costs H.costs.opn (by simp [costL])
 unfold priceM
 split<;>omega
def c95:Cfg:=⟨[0,1,2,3,4,5,7,9,19,20,21,22,26,27,34,41,48,69],[],[9],[],[],[]⟩
theorem priceW (H:Hou) (w:Wrd) (hx:LexFit H.lex) (hH:HouOK H) (hf:w.form.clitics.length≤LMAX) (he:0≤w.form.entry∧w.form.entry<H.lex.entries.length) (hu:w.uses.length≤1048576) :
  QCall Tryz.prog 95 [.agg (encHou H),.agg (encWrd w)] [] (.int .i64 (priceM H w)):=by
 have hfw:=frmW_bound (x:=H.lex) (f:=w.form)
 have hop:=hH.costs H.costs.opn (by simp [costL])
 refine fcalls (F:=Tryz.f95) c95 rfl rfl rfl mixed rfl fun X=>?_
 conv=>whnf
 repeat (refine QCall.k0 (WeightW H.lex w.form hx hf) ?_;conv=>whnf)
 refine sloop rfl mixed [2,3,5,7,19,20,21] [] (fun m r h=>∃ (i:Nat) (n:Int) (cl:Bool),r=[(2,[],.iptr (encHou H)),(3,[],.iptr (encWrd w)),(5,[],.int .i64 n),(7,[],.bool cl),(19,[],.sl 2 none (w.uses.map encUse)),(20,[],.int .i64 (w.uses.map encUse).length),(21,[],.int .i64 i)]∧h=[]∧m=w.uses.length - i∧i≤w.uses.length∧n=frmW H.lex w.form+usesCost H.costs (w.uses.take i)∧cl=closes (w.uses.take i)) ?_ ?_
 ·conv=>whnf
  exact ⟨_,0,frmW H.lex w.form,false,rfl,rfl,rfl,by omega,by simp [usesCost],by simp [closes]⟩
 ·rintro m r h' ⟨i,n,cl,rfl,rfl,rfl,hi,hn,hcl⟩
  have hb:=usesCost_bound hH (w.uses.take i)
  rw [List.length_take] at hb
  conv=>whnf
  refine ⟨fun hi2=>?_,fun hi2=>?_⟩<;>simp at hi2
  ·obtain ⟨u,hu'⟩:=get_lt hi2
   have hs':=take_snoc hu'
   have hcb:=useCost_bound hH u
   have hsc:=usesCost_snoc (c:=H.costs) (l:=w.uses.take i) (u:=u)
   have hsl:=closes_snoc (l:=w.uses.take i) (u:=u)
   rw [← hs'] at hsc hsl
   unfold useCost at hsc hcb
   conv=>whnf
   repeat ((first|refine ix (by assumption) ?_|refine ⟨_,_,Rem.here _,⟨Nat.le_of_ble_eq_true rfl,rfl⟩,?_⟩|intro (nb:Nat));conv=>whnf)
   refine ⟨fun hk=>?_,fun hk=>?_⟩<;>simp only [decide_eq_true_eq,decide_eq_false_iff_not] at hk
   ·rw [if_pos hk] at hsc hcb
    conv=>whnf
    repeat (refine ⟨gP_of ⟨by omega,by omega⟩,?_⟩;conv=>whnf)
    exact ⟨_,by omega,i+1,_,_,rfl,rfl,rfl,by omega,by rw [hsc,hn];show _+_=_;omega,by rw [hsl,hcl,decide_eq_false (by omega),Bool.or_false]⟩
   rw [if_neg hk] at hsc hcb
   conv=>whnf
   refine ⟨fun hk2=>?_,fun hk2=>?_⟩<;>simp only [decide_eq_true_eq,decide_eq_false_iff_not] at hk2
   ·rw [if_pos hk2] at hsc hcb
    conv=>whnf
    repeat (refine ⟨gP_of ⟨by omega,by omega⟩,?_⟩;conv=>whnf)
    exact ⟨_,by omega,i+1,_,_,rfl,rfl,rfl,by omega,by rw [hsc,hn];show _+_=_;omega,by rw [hsl,hcl,decide_eq_false (by omega),Bool.or_false]⟩
   rw [if_neg hk2] at hsc hcb
   conv=>whnf
   refine ⟨fun hk3=>?_,fun hk3=>?_⟩<;>simp only [decide_eq_true_eq,decide_eq_false_iff_not] at hk3
   ·rw [if_pos hk3] at hsc hcb
    conv=>whnf
    repeat (refine ⟨gP_of ⟨by omega,by omega⟩,?_⟩;conv=>whnf)
    exact ⟨_,by omega,i+1,_,_,rfl,rfl,rfl,by omega,by rw [hsc,hn];show _+_=_;omega,by rw [hsl,hcl,decide_eq_false (by omega),Bool.or_false]⟩
   rw [if_neg hk3] at hsc hcb
   conv=>whnf
   refine ⟨fun hk4=>?_,fun hk4=>?_⟩<;>simp only [decide_eq_true_eq,decide_eq_false_iff_not] at hk4
   ·rw [if_pos hk4] at hsc hcb
    conv=>whnf
    repeat (refine ⟨gP_of ⟨by omega,by omega⟩,?_⟩;conv=>whnf)
    exact ⟨_,by omega,i+1,_,_,rfl,rfl,rfl,by omega,by rw [hsc,hn];show _+_=_;omega,by rw [hsl,decide_eq_true hk4,Bool.or_true]⟩
   rw [if_neg hk4] at hsc hcb
   conv=>whnf
   repeat (refine ⟨gP_of ⟨by omega,by omega⟩,?_⟩;conv=>whnf)
   exact ⟨_,by omega,i+1,_,_,rfl,rfl,rfl,by omega,by rw [hsc,hn];omega,by rw [hsl,hcl,decide_eq_false hk4,Bool.or_false]⟩
  ·rw [List.take_of_length_le hi2] at hn hcl hb
   conv=>whnf
   repeat ((refine ixn w.form.entry.toNat (by omega) (entAt_get he.1 he.2) ?_);conv=>whnf)
   refine ⟨fun hq=>?_,fun hq=>?_⟩
   ·have hq:(!cl&&!decide ((entAt H.lex w.form.entry).cls=[]))=true:=hq
    rw [hcl] at hq
    conv=>whnf
    repeat (refine ⟨gP_of ⟨by omega,by omega⟩,?_⟩;conv=>whnf)
    refine ⟨congrArg (AV.int .i64) ?_,rfl⟩
    rw [priceM,if_pos hq,hn]
   ·have hq:(!cl&&!decide ((entAt H.lex w.form.entry).cls=[]))=false:=hq
    rw [hcl] at hq
    conv=>whnf
    skip
    refine ⟨congrArg (AV.int .i64) ?_,rfl⟩
    rw [priceM,if_neg (by rw [hq];decide),hn]
    omega
end Go.Abs.Wall
namespace Go.Abs.Wall
open Go Go.Abs Go.Proofs
structure Edg where
 frm:Int
 to:Int
 cost:Int
 word:Wrd
deriving DecidableEq
def encEdg (e:Edg):List AV:=[.int .i64 e.frm,.int .i64 e.to,.int .i64 e.cost]++encWrd e.word
def encUses (us:List Use):List AV:=[.sl 2 none (us.map encUse)]
structure Env where
 H:Hou
 s:Sp
 at_:Int
 entry:Int
 ending:Int
structure Run extends Env where
 most:Nat
 All:List (List Use)
structure EnvOK (E:Run):Prop where
 hou:HouOK E.H
 fit:HouFit E.H
 sp:SpOK E.s
 entry:0≤E.entry∧E.entry<E.H.lex.entries.length
 place:0≤E.at_∧E.at_≤1048576
 most:E.most≤1048576
 few:E.All.length≤12
 uses:∀ us∈E.All,us.length≤1048576∧∀ u∈us,UseOK u
theorem ACalls.perm {f:FuncId} {vs:List AV} {h h':Heap} {R:AV→Heap→Prop} (hf:ACalls Tryz.prog f vs h R) (hp:h.Perm h'):ACalls Tryz.prog f vs h' R:=
 ACalls.pre hf (fun k o hm=>hp.mem_iff.1 hm) (fun hn=>by unfold keys at hn ⊢;exact ((hp.map _).nodup_iff).2 hn)
theorem QCall.perm {f:FuncId} {vs:List AV} {h h2 h':Heap} {v:AV} (hf:QCall Tryz.prog f vs h v) (hp:(h++h2).Perm h'):QCall Tryz.prog f vs h' v:=by
 refine ACalls.post (ACalls.perm (ACalls.frame hf h2) hp) ?_
 rintro v' h1 ⟨h3,⟨rfl,rfl⟩,rfl⟩
 exact ⟨_,h',⟨rfl,rfl⟩,VLe.refl _,fun k o hm=>hp.mem_iff.2 hm,fun hn=>by unfold keys at hn ⊢;exact ((hp.map _).nodup_iff).1 hn⟩
theorem Turn.perm {r:Regs} {h h':Heap} (hp:h.Perm h'):Turn r h r h':=
 Turn.sub (fun k o hm=>hp.mem_iff.2 hm) (fun hn=>by unfold keys at hn ⊢;exact ((hp.map _).nodup_iff).1 hn)
theorem nextM_len {s:Sp} (hs:SpOK s) (p:Prg) (u:Use):(nextM s p u).length≤11:=by
 have h1:=hs.lex.many.2.2
 unfold nextM spellM
 repeat' split
 all_goals first|(simp;done)|(have h2:=spellGo_len p u (s.H.lex.clitics.drop (firstC p.cl).toNat) (firstC p.cl);rw [List.length_drop] at h2;omega)
end Go.Abs.Wall
namespace Go.Abs.Wall
open Go Go.Abs Go.Proofs
def wrdCmp (a b:Wrd):Int:=orI [cmpI a.uses.length b.uses.length,cmpI a.form.entry b.form.entry,cmpI a.form.ending b.form.ending,cmpL cmpI a.form.clitics b.form.clitics,cmpL useCmp a.uses b.uses]
structure WrdFit (w:Wrd):Prop where
 cl:w.form.clitics.length≤1048576
 us:w.uses.length≤1048576
end Go.Abs.Wall
namespace Go.Abs.Wall
open Go Go.Abs Go.Proofs
structure ValOK (v:Val):Prop where
 kind:1≤v.kind∧v.kind≤3
 text:1≤v.text.length∧v.text.length≤8
structure SgnOK (s:Sgn):Prop where
 few:s.values.length≤12
 each:∀ v∈s.values,ValOK v
structure LstOK (l:Lst):Prop where
 many:l.signs.length≤200
 each:∀ s∈l.signs,SgnOK s
theorem textOK_len {k:Int} {s:List UInt8} (h:textOK k s=true):1≤s.length∧s.length≤8:=by
 unfold textOK at h
 simp only [Bool.and_eq_true,decide_eq_true_eq] at h
 exact h.1
theorem valErr_ok {l:Lst} {b:List Val} {v:Val} (h:valErr l b v=0):ValOK v:=by
 unfold valErr at h
 split at h
 ·cases h
 ·rename_i h1
  simp only [not_or,Bool.not_eq_false] at h1
  have h2:=textOK_len h1.2.2
  refine ⟨by omega,h2⟩
theorem valsErr_ok {l:Lst} {vs:List Val}:∀ {t:List Val} {i:Nat},valsErr l vs t i=0→∀ v∈t,ValOK v
 | [],_,_,v,hv=>by cases hv
 | a::t,i,h,v,hv=>by
   unfold valsErr at h
   split at h
   ·rename_i h1;exact absurd h h1
   ·rename_i h1
    rcases List.mem_cons.1 hv with rfl|hv
    ·exact valErr_ok (by simpa using h1)
    ·exact valsErr_ok h v hv
theorem sgnErr_ok {l:Lst} {s:Sgn} (h:sgnErr l s=0):SgnOK s:=by
 unfold sgnErr at h
 split at h
 ·cases h
 split at h
 ·cases h
 ·rename_i h1 h2
  exact ⟨by omega,valsErr_ok h⟩
theorem lstGo_ok {l:Lst}:∀ {t:List Sgn} {seen:List (List UInt8)},lstGo l t seen=0→∀ s∈t,SgnOK s
 | [],_,_,s,hs=>by cases hs
 | a::t,seen,h,s,hs=>by
   unfold lstGo at h
   split at h
   ·cases h
   split at h
   ·rename_i h1;exact absurd h h1
   ·rename_i h1
    rcases List.mem_cons.1 hs with rfl|hs
    ·exact sgnErr_ok (by simpa using h1)
    ·exact lstGo_ok h s hs
theorem lstOK {l:Lst} (h:lstErr l=0):LstOK l:=by
 unfold lstErr at h
 split at h
 ·cases h
 split at h
 ·cases h
 ·exact ⟨by omega,lstGo_ok h⟩
theorem useOf_ok {v:Val} (h:ValOK v):∀ u∈useOf v,UseOK u:=by
 intro u hu
 have h1:=h.text
 unfold useOf at hu
 split at hu
 ·simp at hu
  rcases hu with rfl|rfl<;>exact ⟨by simp,by simp,h1.1,h1.2⟩
 split at hu
 ·simp at hu
  subst hu;exact ⟨by simp,by simp,h1.1,h1.2⟩
 split at hu
 ·simp at hu
  subst hu;exact ⟨by simp,by simp,h1.1,h1.2⟩
 ·cases hu
theorem useGo_mem {p:Int}:∀ {l:List Val} {u:Use},u∈useGo p l→∃ v∈l,u∈useOf v
 | [],u,h=>by cases h
 | v::t,u,h=>by
   unfold useGo at h
   rcases List.mem_append.1 h with h|h
   ·split at h
    ·exact ⟨v,by simp,h⟩
    ·cases h
   ·obtain ⟨w,hw,hu⟩:=useGo_mem h
    exact ⟨w,by simp [hw],hu⟩
theorem usesM_ok {p:Int} {s:Sgn} (h:SgnOK s):(usesM p s).length≤24∧∀ u∈usesM p s,UseOK u:=by
 refine ⟨?_,fun u hu=>?_⟩
 ·unfold usesM sortU
  rw [sortL_length]
  have:=useGo_len p s.values
  have:=h.few
  omega
 ·unfold usesM sortU at hu
  rw [sortL_mem] at hu
  obtain ⟨v,hv,hu⟩:=useGo_mem hu
  exact useOf_ok (h.each v hv) u hu
def sgnAt (H:Hou) (n:Int):Sgn:=H.list.signs.getD n.toNat ⟨[],0,0,false,[]⟩
def usesAt (H:Hou) (n:Int):List Use:=usesM H.period (sgnAt H n)
def bodyM (x:Lex) (e n:Int):List UInt8:=if n<0 then (entAt x e).root else (entAt x e).root++(ednAt x n).text
def envAt (H:Hou) (at_:Nat) (e n:Int):Env:=⟨H,⟨H,entAt H.lex e,bodyM H.lex e n⟩,at_,e,n⟩
theorem sgnAt_get {H:Hou} {n:Int} (h0:0≤n) (h1:n<H.list.signs.length):H.list.signs[n.toNat]?=some (sgnAt H n):=by
 have:n.toNat<H.list.signs.length:=by omega
 unfold sgnAt
 simp [List.getElem?_eq_getElem this]
def c151:Cfg:=⟨[0,1,2,3,6,8],[],[],[],[(3,[0,1,2,3,4,5,6,7,8,9,10,11,12,13],[])],[]⟩
theorem bodyA (x:Lex) (e n:Int) (hx:LexOK x) (h0:0≤e) (h1:e<x.entries.length) (hn:n<x.endings.length):QCall Tryz.prog 151 [.agg (encLex x),.int .i64 e,.int .i64 n] [] (.str (bodyM x e n)):=by
 have hr:=sndOK_len (hx.entAt h0 h1).root
 refine fcalls (F:=Tryz.f151) c151 rfl rfl rfl mixed rfl fun X=>?_
 conv=>whnf
 refine ⟨fun hc=>?_,fun hc=>?_⟩<;>simp at hc
 ·conv=>whnf
  repeat ((refine ixn e.toNat (by omega) (entAt_get h0 h1) ?_);conv=>whnf)
  exact ⟨by rw [bodyM,if_pos hc],rfl⟩
 ·have ht:=sndOK_len (hx.ednAt hc hn).text
  conv=>whnf
  repeat ((first|(refine ixn e.toNat (by omega) (entAt_get h0 h1) ?_)|(refine ixn n.toNat (by omega) (ednAt_get hc hn) ?_)|(refine ⟨gP_of (by rw [List.length_append];unfold LMAX;omega),?_⟩)|refine And.intro (by show drawOK (opsAt Tryz.f151 _) _=true;decide +kernel) ?_);conv=>whnf)
  exact ⟨by rw [bodyM,if_neg (by omega)],rfl⟩
structure EdgAt (H:Hou) (at_:Int) (e:Edg):Prop where
 frm:e.frm=at_
 to:e.to=at_+e.word.uses.length
 cost:e.cost=priceM H e.word
 few:e.word.uses.length≤12
 cl:e.word.form.clitics.length≤3
 some:1≤e.word.uses.length
theorem spAt {H:Hou} (hH:HouOK H) {at_:Nat} {e n:Int} (h0:0≤e) (h1:e<H.lex.entries.length) (hn:n<H.lex.endings.length):SpOK (envAt H at_ e n).s:=by
 have hr:=sndOK_len (hH.lex.entAt h0 h1).root
 refine ⟨hH.lex,?_,?_⟩
 ·show 1≤(bodyM H.lex e n).length∧(bodyM H.lex e n).length≤12
  unfold bodyM
  split
  ·omega
  ·have ht:=sndOK_len (hH.lex.ednAt (by omega) hn).text
   rw [List.length_append];omega
 ·show (entAt H.lex e).root.length≤(bodyM H.lex e n).length
  unfold bodyM
  split
  ·omega
  ·rw [List.length_append];omega
end Go.Abs.Wall
namespace Go.Abs.Wall
open Go Go.Abs Go.Proofs
theorem ACalls.cells {f:FuncId} {vs:List AV} {h h':Heap} {b:Nat} {xs ys:List AV} {R:AV→Heap→Prop} (hf:ACalls Tryz.prog f vs h' R) (hu:Upd b (.vec xs) b (.vec ys) h h') (hv:VsLe xs ys):ACalls Tryz.prog f vs h R:=by
 have hkeys:keys h'=keys h:=by
  clear hf
  induction hu with
  | here l=>rfl
  | there _ ih=>simp only [keys,List.map_cons] at ih ⊢;rw [ih]
 have hget:∀ k o',(k,o')∈h'→(k,o')∈h∨(k=b∧o'=.vec ys∧(b,Ob.vec xs)∈h):=by
  clear hf hkeys
  induction hu with
  | here l=>intro k o' hm;cases List.mem_cons.1 hm with
    | inl e=>cases e;exact .inr ⟨rfl,rfl,by simp⟩
    | inr e=>exact .inl (by simp [e])
  | there _ ih=>intro k o' hm;cases List.mem_cons.1 hm with
    | inl e=>subst e;exact .inl (by simp)
    | inr e=>
      rcases ih k o' e with h1|⟨h1,h2,h3⟩
      ·exact .inl (by simp [h1])
      ·exact .inr ⟨h1,h2,by simp [h3]⟩
 have hlen:∀ {xs ys:List AV},VsLe xs ys→xs.length=ys.length∧∀ (i:Nat) y,ys[i]?=some y→∃ x,xs[i]?=some x∧VLe x y:=by
  intro xs ys hv
  induction hv with
  | nil=>exact ⟨rfl,fun i y h=>by cases h⟩
  | cons h1 _ ih=>
    refine ⟨by simp [ih.1],fun i y hi=>?_⟩
    cases i with
    | zero=>cases hi;exact ⟨_,rfl,h1⟩
    | succ i=>exact ih.2 i y (by simpa using hi)
 refine ⟨fun X g w us hc hr=>?_⟩
 obtain ⟨c2,s2⟩:=hc.objs hkeys (fun k o' hm=>by
  rcases hget k o' hm with h1|⟨rfl,rfl,h2⟩
  ·exact hc.obj k o' h1
  ·obtain ⟨p,cc,t,q1,q2,q3,q4,q5,q6⟩:=hc.obj k (.vec xs) h2
   obtain ⟨l,hg⟩:=hlen hv
   refine ⟨p,cc,t,q1,q2,q3,q4,by rw [← l];exact q5,fun i y hy=>?_⟩
   obtain ⟨x,hx,hxy⟩:=hg i y hy
   obtain ⟨u,u1,u2,u3⟩:=q6 i x hx
   exact ⟨u,u1,u2,hxy _ _ u3⟩)
 refine (hf.1 X g w us c2 (RepVs.mono (Step.le s2) _ _ hr)).mono fun e w' he=>?_
 obtain ⟨v,u,g',h1,rfl,hR,hc1,hu,hs⟩:=he
 exact ⟨v,u,g',h1,rfl,hR,hc1,hu,s2.trans hc.own hs⟩
theorem Turn.sublist {r:Regs} {h h':Heap} (hs:h'.Sublist h):Turn r h r h':=
 Turn.sub (fun k o hm=>hs.subset hm) (fun hn=>by unfold keys at hn ⊢;exact hn.sublist (hs.map _))
def encRows (A:List (List Use)):List (List AV):=A.map encUses
end Go.Abs.Wall
