/- What is proved: small laws for the walks of this seat, and contracts of its functions. No condition but those each theorem names. -/
import Derived.Test.YtbmcnieifibckaaGreatN7
import Derived.Test.YtbmcnieifibckaaGreatN8
set_option maxRecDepth 100000
set_option maxHeartbeats 2000000
set_option linter.unusedVariables false
set_option linter.unusedSimpArgs false
namespace Go.Abs.Wall
open Go Go.Abs Go.Proofs
def spGo (H:Hou) (s:Sp) (cl:List Int):List Int→List Use→List Prg→Bool
 | n::t,u::us,st=>(usesAt H n).any (useEq u)&&spGo H s cl t us (st.flatMap fun p=>nextM s p u)
 | _,_,st=>st.any fun p=>endsM s p&&decide (p.cl=cl)
def spOf (H:Hou) (f:Frm):Sp:=⟨H,entAt H.lex f.entry,bodyM H.lex f.entry f.ending⟩
def spellsM (H:Hou) (line:List Int) (w:Wrd):Bool:=(wthn line.length 1 12&&decide (line.length=w.uses.length))&&spGo H (spOf H w.form) w.form.clitics line w.uses [prg0]
def priceE (H:Hou) (line:List Int) (w:Wrd):Int:=
 if lineErr H line≠0 then lineErr H line else if frmErr H.lex w.form≠0 then frmErr H.lex w.form else if spellsM H line w=true then 0 else 51
def priceL (H:Hou) (line:List Int) (w:Wrd):Int:=if priceE H line w=0 then priceM H w else 0
end Go.Abs.Wall
namespace Go.Abs.Wall
open Go Go.Abs Go.Proofs
structure Hlf where
 form:Frm
 part:List UInt8
 done:Int
 all:List UInt8
 closed:Bool
 uses:List Use
def encHlf (h:Hlf):List AV:=[.int .i64 h.form.entry,.int .i64 h.form.ending,.sl 1 none (ints h.form.clitics),.str h.part,.int .i64 h.done,.str h.all,.bool h.closed,.sl 2 none (h.uses.map encUse)]
def lastPart (s:Sp) (cl:List Int):List UInt8:=match cl.getLast? with
 | some c=>(cliAt s.H.lex c).text
 | none=>s.body
def baseL (s:Sp) (cl:List Int):Nat:=(tot s cl).length - (lastPart s cl).length
def hfOf (s:Sp) (f:Frm) (p:Prg) (T:List Use):Hlf:=⟨⟨f.entry,f.ending,p.cl⟩,lastPart s p.cl,(p.sounds.length:Int) - baseL s p.cl,p.sounds,p.closed,T⟩
theorem lastPart_snoc (s:Sp) (cl:List Int) (c:Int):lastPart s (cl++[c])=(cliAt s.H.lex c).text:=by unfold lastPart;simp
theorem tot_last (s:Sp) (cl:List Int):∃ pre,tot s cl=pre++lastPart s cl∧pre.length=baseL s cl:=by
 rcases List.eq_nil_or_concat cl with rfl|⟨l,c,hcl⟩
 ·refine ⟨[],?_,?_⟩
  ·simp [tot,cliT,lastPart]
  ·simp [baseL,tot,cliT,lastPart]
 ·rw [List.concat_eq_append] at hcl
  subst hcl
  refine ⟨tot s l,?_,?_⟩
  ·rw [lastPart_snoc,tot_snoc]
  ·unfold baseL
   rw [lastPart_snoc,tot_snoc,List.length_append]
   omega
theorem base_snoc (s:Sp) (cl:List Int) (c:Int):baseL s (cl++[c])=(tot s cl).length:=by
 unfold baseL
 rw [lastPart_snoc,tot_snoc,List.length_append]
 omega
structure HOK (s:Sp) (p:Prg) (T:List Use):Prop where
 ok:PrgOK s p
 base:baseL s p.cl≤p.sounds.length
 new:T=[]→p.last.kind=0
 last:T≠[]→T.getLast?=some p.last∧p.last.kind≠0
 few:T.length≤12
 len:p.last.text.length≤8
theorem HOK.part {s:Sp} {p:Prg} {T:List Use} (h:HOK s p T):partM s p=(lastPart s p.cl).drop ((p.sounds.length:Int) - baseL s p.cl).toNat∧(p.sounds.length:Int) - baseL s p.cl≤(lastPart s p.cl).length:=by
 obtain ⟨pre,h1,h2⟩:=tot_last s p.cl
 have h3:=h.base
 have h4:=h.ok.sounds
 rw [h1,List.length_append] at h4
 refine ⟨?_,by omega⟩
 unfold partM
 rw [h1,List.drop_append,List.drop_eq_nil_of_le (by omega),List.nil_append]
 congr 1
 omega
theorem spellGo_hok {s:Sp} {p:Prg} {u:Use} {T:List Use} (hp:HOK s p T) (hu:UseOK u) (he:p.sounds.length=(tot s p.cl).length):∀ (l:List Cli) (c:Int),∀ q∈spellGo p u l c,baseL s q.cl≤q.sounds.length∧q.last=u
 | [],_,q,hq=>by cases hq
 | k::t,c,q,hq=>by
   unfold spellGo at hq
   rcases List.mem_append.1 hq with hq|hq
   ·split at hq
    ·cases List.mem_singleton.1 hq
     refine ⟨?_,rfl⟩
     show baseL s (p.cl++[c])≤(p.sounds++u.text).length
     rw [base_snoc,List.length_append]
     omega
    ·cases hq
   ·exact spellGo_hok hp hu he t (c+1) q hq
theorem nextM_hok {s:Sp} {p:Prg} {u:Use} {T:List Use} (hs:SpOK s) (hp:HOK s p T) (hu:UseOK u) (hT:T.length<12):∀ q∈nextM s p u,HOK s q (T++[u]):=by
 intro q hq
 have hk:u.kind≠0:=by have:=hu.1;omega
 have hok:=nextM_ok hs hp.ok hu q hq
 have key:baseL s q.cl≤q.sounds.length∧q.last=u:=by
  unfold nextM at hq
  split at hq
  ·unfold spellM at hq
   split at hq
   ·split at hq
    ·cases List.mem_singleton.1 hq
     refine ⟨?_,rfl⟩
     have:=hp.base
     show baseL s p.cl≤(p.sounds++u.text).length
     rw [List.length_append];omega
    ·cases hq
   ·rename_i h0
    split at hq
    ·refine spellGo_hok hp hu ?_ _ _ q hq
     have h1:=hp.ok.sounds
     simp only [ne_eq,Decidable.not_not] at h0
     unfold partM at h0
     rw [List.drop_eq_nil_iff] at h0
     omega
    ·cases hq
  split at hq
  ·split at hq
   ·cases hq
   ·rename_i hb
    cases List.mem_singleton.1 hq
    refine ⟨?_,rfl⟩
    rw [Bool.not_eq_true] at hb
    unfold stBad at hb
    simp only [Bool.or_eq_false_iff,Bool.not_eq_false',decide_eq_true_eq] at hb
    have:=(hp.ok.new hb.1).1
    show baseL s p.cl≤_
    rw [this]
    simp [baseL,tot,cliT,lastPart]
  split at hq
  ·split at hq
   ·cases hq
   ·cases List.mem_singleton.1 hq
    exact ⟨hp.base,rfl⟩
  split at hq
  ·split at hq
   ·cases hq
   ·cases List.mem_singleton.1 hq
    exact ⟨hp.base,rfl⟩
  ·cases hq
 refine ⟨hok,key.1,fun h=>absurd h (by simp),fun _=>⟨by rw [key.2];simp,by rw [key.2];exact hk⟩,by rw [List.length_append,List.length_singleton];omega,by rw [key.2];exact hu.2.2.2⟩
theorem hok0 (s:Sp):HOK s prg0 []:=⟨prg0_ok s,by simp [baseL,tot,cliT,lastPart,prg0],fun _=>rfl,fun h=>absurd rfl h,by simp,by simp [prg0]⟩
def c240:Cfg:=⟨[0,1,4],[],[],[],[],[]⟩
def c263:Cfg:=⟨[0,1,4],[],[],[],[],[]⟩
def c241:Cfg:=⟨[0,1,2,3,4,5,6,10,11],[],[10],[],[(2,[0,1,3,4,2,5,6,7],[])],[]⟩
def c242:Cfg:=⟨[0,1,2,3,4,5,6,10],[],[5],[],[],[]⟩
def c191:Cfg:=⟨[0,1,2,3,4,5,6,7,8,9,10,11,12,13,14,29,30,33,41,67,88,99,130,142,156,160,173,199],[],[9],[],[(7,[0,1,2,3,4,5,6,7],[]),(17,[0,1,2,3,4,5,6,7,8],[]),(18,[0,1,2,3,4,5,6,7,8,9,10,11,12,13,14,15,16,17,18],[])],[]⟩
def c192:Cfg:=⟨[0,1,2],[],[],[],[],[]⟩
def c190:Cfg:=⟨[0,1,2,3,6,7,19],[],[6],[],[(3,[0,1,2,3,4,5,6,7,8,9,10],[])],[]⟩
theorem refBegins (t w:List UInt8) (ht:t.length≤LMAX) (hw:w.length≤LMAX):QCall Tryz.prog 240 [.str t,.str w] [] (.bool (begins t w)):=by
 unfold LMAX at ht hw
 refine fcalls (F:=Tryz.f240) c240 rfl rfl rfl mixed rfl fun X=>?_
 conv=>whnf
 repeat ((refine And.intro ?_ ?_;(focus ((conv=>whnf);intro g0;have g0:=of_decide_eq_true g0;refine ⟨?_,?_,?_⟩<;>omega)));conv=>whnf)
 exact ⟨rfl,rfl⟩
theorem refEnds (t w:List UInt8) (ht:t.length≤LMAX) (hw:w.length≤LMAX):QCall Tryz.prog 263 [.str t,.str w] [] (.bool (endsW t w)):=by
 unfold LMAX at ht hw
 refine fcalls (F:=Tryz.f263) c263 rfl rfl rfl mixed rfl fun X=>?_
 conv=>whnf
 repeat ((first|refine ⟨gP_of ⟨by omega,by omega⟩,?_⟩|(refine And.intro ?_ ?_;(focus ((conv=>whnf);intro g0;have g0:=of_decide_eq_true g0;refine ⟨?_,?_,?_⟩<;>omega))));conv=>whnf)
 refine ⟨congrArg AV.bool ?_,rfl⟩
 unfold endsW
 rw [show (t.length:Int).toNat=t.length from rfl,List.take_length,show ((t.length:Int) - w.length).toNat=t.length - w.length by omega]
theorem moreA (h:Hlf) (u:Use) (part all:List UInt8) (d:Int) (hu:h.uses.length≤1048576) :
  QCall Tryz.prog 241 [.agg (encHlf h),.agg (encUse u),.str part,.int .i64 d,.str all] [] (.agg (encHlf ⟨h.form,part,d,all,h.closed,h.uses++[u]⟩)):=by
 refine QCall.of (fcalls (F:=Tryz.f241) c241 rfl rfl rfl mixed rfl fun X=>?_)
 conv=>whnf
 intro b1
 conv=>whnf
 intro b2
 conv=>whnf
 repeat ((first|(refine ⟨(by simp;unfold AMAX;omega),fun q=>?_⟩)|(refine ⟨_,.here _,?_⟩)|(refine ⟨_,_,.there (.here _),leOK,?_⟩)|(refine ⟨_,_,Rem.there (.there (.here _)),⟨Nat.le_of_ble_eq_true rfl,rfl⟩,?_⟩)|refine ⟨_,_,.tail _ (.head _),rfl,?_⟩|refine ⟨_,_,.here _,leOK,?_⟩|refine And.intro (by show drawOK (opsAt Tryz.f241 _) _=true;decide +kernel) ?_);conv=>whnf)
 refine (show VLe (.agg [.int .i64 h.form.entry,.int .i64 h.form.ending,.sl 1 none (ints h.form.clitics),.str part,.int .i64 d,.str all,.bool h.closed,.sl 2 (some q) (h.uses.map encUse++[encUse u])]) (.agg (encHlf ⟨h.form,part,d,all,h.closed,h.uses++[u]⟩)) from ?_)
 refine VLe.agg (.cons (VLe.refl _) (.cons (VLe.refl _) (.cons (VLe.refl _) (.cons (VLe.refl _) (.cons (VLe.refl _) (.cons (VLe.refl _) (.cons (VLe.refl _) (.cons ?_ .nil))))))))
 show VLe _ (.sl 2 none ((h.uses++[u]).map encUse))
 rw [List.map_append]
 exact VLe.sl
theorem repeatsA (h:Hlf) (u:Use) (l:Use) (hl:h.uses.getLast?=some l) (hu:h.uses.length≤1048576) (ha:h.all.length≤LMAX) (hut:u.text.length≤LMAX) (hlt:l.text.length≤LMAX) :
  QCall Tryz.prog 242 [.agg (encHlf h),.agg (encUse u)] [] (.bool ((decide (l.kind=2)||(decide (l.kind=1)&&decide (2≤(l.text.length:Int))))&&decide ((u.text.length:Int)≤l.text.length)&&endsW h.all u.text)):=by
 have hne:h.uses≠[]:=by intro e;rw [e] at hl;cases hl
 have hlen:0<h.uses.length:=List.length_pos_iff.2 hne
 have hg:h.uses[h.uses.length - 1]?=some l:=by rw [← hl,List.getLast?_eq_getElem?]
 refine fcalls (F:=Tryz.f242) c242 rfl rfl rfl mixed rfl fun X=>?_
 conv=>whnf
 skip
 refine cF (by simp;omega) ?_
 conv=>whnf
 repeat ((first|(refine ixn (h.uses.length - 1) (by simp;omega) hg ?_)|refine gcall (refEnds h.all u.text ha hut) ?_|(refine ⟨gP_of ⟨by simp;omega,by simp;omega⟩,?_⟩)|refine ⟨_,_,Rem.here _,⟨Nat.le_of_ble_eq_true rfl,rfl⟩,?_⟩|intro (nb:Nat));conv=>whnf)
 exact ⟨rfl,rfl⟩
theorem repeats0 (h:Hlf) (u:Use) (hl:h.uses=[]) :
  QCall Tryz.prog 242 [.agg (encHlf h),.agg (encUse u)] [] (.bool false):=by
 refine fcalls (F:=Tryz.f242) c242 rfl rfl rfl mixed rfl fun X=>?_
 conv=>whnf
 skip
 refine cT (by rw [hl];rfl) ?_
 conv=>whnf
 exact ⟨rfl,rfl⟩
theorem VLe.one {k:Nat} {t:Option Nat} {x y:List AV} (h:VsLe x y):VLe (.sl k t [x]) (.sl k none [y]):=by
 refine fun c u hu=>VLe.sl c u (VLe.els (.cons h .nil) c u hu)
theorem begins_drop {t w:List UInt8} {d:Int}:begins ((t.take (t.length:Int).toNat).drop d.toNat) w=begins (t.drop d.toNat) w:=by
 rw [show (t.length:Int).toNat=t.length from rfl,List.take_length]
set_option maxHeartbeats 1000000 in
theorem followA (s:Sp) (f:Frm) (p:Prg) (T:List Use) (u:Use) (hs:SpOK s) (hp:HOK s p T) (hu:UseOK u) (he:s.e=entAt s.H.lex f.entry) (hf:0≤f.entry∧f.entry<s.H.lex.entries.length) :
  QCall Tryz.prog 191 [.agg (encLex s.H.lex),.agg (encHlf (hfOf s f p T)),.agg (encUse u)] [] (.sl 8 none ((nextM s p u).map fun q=>encHlf (hfOf s f q (T++[u])))):=by
 have hb:=hs.body
 have hfew:=hp.ok.few
 have hsn:=hp.ok.sounds
 have htt:=hs.tot hp.ok.cli
 have hut:=hu.2.2
 obtain ⟨z,hh⟩:∃ z,z=hfOf s f p T:=⟨_,rfl⟩
 rw [← hh]
 have e1:z.form.entry=f.entry:=by rw [hh];rfl
 have e3:z.form.clitics=p.cl:=by rw [hh];rfl
 have e4:z.part=lastPart s p.cl:=by rw [hh];rfl
 have e5:z.done=(p.sounds.length:Int) - baseL s p.cl:=by rw [hh];rfl
 have e6:z.all=p.sounds:=by rw [hh];rfl
 have e7:z.closed=p.closed:=by rw [hh];rfl
 have e8:z.uses=T:=by rw [hh];rfl
 have hTl:z.uses.length≤1048576:=by have:=hp.few;rw [e8];omega
 have hul:u.text.length≤LMAX:=by unfold LMAX;omega
 have hadd:(z.all++u.text).length≤LMAX:=by rw [e6,List.length_append];unfold LMAX;omega
 have hmn:=hs.lex.many.2.2
 obtain ⟨hpart,hdle⟩:=hp.part
 rw [← e4,← e5] at hpart hdle
 have hbase:=hp.base
 have hlp:z.part.length≤24:=by
  obtain ⟨pre,h1,h2⟩:=tot_last s p.cl
  have:=congrArg List.length h1
  rw [List.length_append] at this
  rw [e4]
  omega
 refine QCall.of (fcalls (F:=Tryz.f191) c191 rfl rfl rfl mixed rfl fun X=>?_)
 conv=>whnf
 repeat ((first|(refine ixn f.entry.toNat (by omega) (entAt_get hf.1 hf.2) ?_)|(intro (b9:Nat))|refine ⟨_,_,Rem.here _,⟨Nat.le_of_ble_eq_true rfl,rfl⟩,?_⟩);conv=>whnf)
 rcases (show u.kind=1∨u.kind=2∨u.kind=3∨u.kind=4 by have:=hu.1;have:=hu.2.1;omega) with hk|hk|hk|hk
 ·refine cT (by simp [hk]) ?_
  have hm0:nextM s p u=spellM s p u:=by rw [nextM,if_pos hk]
  conv=>whnf
  skip
  refine ⟨fun hw=>?_,fun hw=>?_⟩
  ·have hw:(!decide (z.done=(z.part.length:Int)))=true:=hw
   rw [Bool.not_eq_true',decide_eq_false_iff_not] at hw
   have hc:partM s p≠[]:=by
    rw [hpart,ne_eq,List.drop_eq_nil_iff]
    omega
   have hm:nextM s p u=if begins (partM s p) u.text=true then [⟨p.sounds++u.text,p.closed,p.cl,u⟩] else []:=by rw [hm0,spellM,if_pos hc]
   have hbg:=refBegins ((z.part.take (z.part.length:Int).toNat).drop z.done.toNat) u.text (by simp;unfold LMAX;omega) hul
   rw [begins_drop,← hpart] at hbg
   conv=>whnf
   repeat ((first|refine ⟨gP_of ⟨by omega,by omega⟩,?_⟩|(refine gcall hbg ?_)|refine And.intro (by show drawOK (opsAt Tryz.f191 _) _=true;decide +kernel) ?_);conv=>whnf)
   refine ⟨fun hq=>?_,fun hq=>?_⟩
   ·have hq:begins (partM s p) u.text=true:=hq
    rw [hm,if_pos hq]
    conv=>whnf
    repeat ((first|refine ⟨gP_of ⟨by omega,by omega⟩,?_⟩|refine QCall.k0 (moreA z u z.part (z.all++u.text) (z.done+(u.text.length:Int)) hTl) ?_|(refine ⟨gP_of hadd,?_⟩)|(refine ⟨Nat.le_of_ble_eq_true rfl,fun q3=>?_⟩));conv=>whnf)
    refine VLe.one ?_
    rw [hh]
    unfold encHlf hfOf
    simp only [List.length_append]
    rw [show (((p.sounds.length+u.text.length:Nat):Int) - (baseL s p.cl:Int))=(p.sounds.length:Int) - baseL s p.cl+u.text.length by omega]
    exact VsLe.refl _
   ·have hq:begins (partM s p) u.text=false:=hq
    rw [hm,if_neg (by rw [hq];decide)]
    conv=>whnf
    skip
    exact VLe.nil (by decide)
  ·have hw:(!decide (z.done=(z.part.length:Int)))=false:=hw
   rw [Bool.not_eq_false',decide_eq_true_eq] at hw
   have hc:partM s p=[]:=by
    rw [hpart,List.drop_eq_nil_iff]
    omega
   have hst:p.sounds.length=(tot s p.cl).length:=by
    unfold partM at hc
    rw [List.drop_eq_nil_iff] at hc
    omega
   have hm:nextM s p u=if p.cl.length<3 then spellGo p u (s.H.lex.clitics.drop (firstC p.cl).toNat) (firstC p.cl) else []:=by rw [hm0,spellM,if_neg (by simpa using hc)]
   have hfc:=firstC_ok hp.ok
   conv=>whnf
   skip
   refine ⟨fun hn=>?_,fun hn=>?_⟩
   ·have hn:decide (0<((ints z.form.clitics).length:Int))=true:=hn
    rw [e3] at hn
    simp at hn
    obtain ⟨c,hcl⟩:=get_lt (l:=z.form.clitics) (i:=z.form.clitics.length - 1) (by rw [e3];omega)
    have hfc1:c+1=firstC p.cl:=by unfold firstC;rw [← e3,List.getLast?_eq_getElem?,hcl]
    conv=>whnf
    repeat ((first|refine ⟨gP_of ⟨by omega,by omega⟩,?_⟩|(refine ixn (z.form.clitics.length - 1) (by rw [ints_length,e3];omega) hcl ?_)|(refine ⟨gP_of ⟨by rw [ints_length,e3];omega,by rw [ints_length,e3];omega⟩,?_⟩));conv=>whnf)
    refine tloop rfl mixed [3,4,5,7,12] [] (fun m r h=>∃ (c:Int) (o:List Prg) (v:AV) (hp0:Heap),r=[(3,[],.iptr (encLex s.H.lex)),(4,[],.iptr (encHlf z)),(5,[],.iptr (encUse u)),(7,[],v),(12,[],.int .i64 c)]∧h=hp0∧m=(s.H.lex.clitics.length - c).toNat∧0≤c∧c≤s.H.lex.clitics.length∧Out 8 (fun q=>encHlf (hfOf s f q (T++[u]))) o v hp0∧o.length≤c∧nextM s p u=o++(if p.cl.length<3 then spellGo p u (s.H.lex.clitics.drop c.toNat) c else [])) ?_ ?_
    ·conv=>whnf
     exact ⟨_,_,Turn.refl _ _,_,firstC p.cl,[],_,[],by rw [← hfc1],rfl,rfl,hfc.1,hfc.2,.inl ⟨rfl,rfl,rfl⟩,by simpa using hfc.1,by rw [hm];rfl⟩
    ·rintro m r h' ⟨c,o,v,hp0,rfl,rfl,rfl,hc0,hcn,hv,hol,hmo⟩
     have hob:o.length+1≤AMAX:=by have:=hs.lex.many;unfold AMAX;omega
     conv=>whnf
     skip
     refine ⟨fun hi2=>?_,fun hi2=>?_⟩
     ·have hi3:c<s.H.lex.clitics.length∧p.cl.length<3:=by
       have hi2:(decide (c<((s.H.lex.clitics.map encCli).length:Int))&&decide (((ints z.form.clitics).length:Int)<3))=true:=hi2
       rw [e3] at hi2
       simp at hi2;exact ⟨hi2.1,by omega⟩
      have hct:=sndOK_len (hs.lex.cliAt hc0 hi3.1).text
      have hcl:(cliAt s.H.lex c).text.length≤LMAX:=by unfold LMAX;omega
      rw [if_pos hi3.2,drop_cons (cliAt_get hc0 hi3.1),spellGo,show ((c.toNat:Nat)+1)=(c+1).toNat by omega] at hmo
      conv=>whnf
      repeat ((first|(refine ixn c.toNat (by omega) (cliAt_get hc0 hi3.1) ?_)|refine gcall (refBegins (cliAt s.H.lex c).text u.text hcl hul) ?_|refine And.intro (by show drawOK (opsAt Tryz.f191 _) _=true;decide +kernel) ?_);conv=>whnf)
      refine ⟨fun hq=>?_,fun hq=>?_⟩
      ·have hq:begins (cliAt s.H.lex c).text u.text=true:=hq
       rw [if_pos hq] at hmo
       obtain ⟨qn,hqn⟩:∃ q:Prg,q=⟨p.sounds++u.text,p.closed,p.cl++[c],u⟩:=⟨_,rfl⟩
       rw [← hqn] at hmo
       have hel:encHlf (hfOf s f qn (T++[u]))=[.int .i64 z.form.entry,.int .i64 z.form.ending,.sl 1 none (ints (p.cl++[c])),.str (cliAt s.H.lex c).text,.int .i64 u.text.length,.str (z.all++u.text),.bool z.closed,.sl 2 none ((z.uses++[u]).map encUse)]:=by
        rw [hqn,hh]
        unfold encHlf hfOf
        simp only [lastPart_snoc,base_snoc,List.length_append]
        rw [show (((p.sounds.length+u.text.length:Nat):Int) - ((tot s p.cl).length:Int))=(u.text.length:Int) by omega]
       have hle:∀ t,VsLe [.int .i64 z.form.entry,.int .i64 z.form.ending,.sl 1 t (ints z.form.clitics++[[.int .i64 c]]),.str (cliAt s.H.lex c).text,.int .i64 u.text.length,.str (z.all++u.text),.bool z.closed,.sl 2 none ((z.uses++[u]).map encUse)] (encHlf (hfOf s f qn (T++[u]))):=fun t=>by
        rw [hel,e3]
        exact .cons (VLe.refl _) (.cons (VLe.refl _) (.cons clV (VsLe.refl _)))
       rcases hv with ⟨hoe,rfl,rfl⟩|⟨qv,rfl,rfl⟩
       all_goals
        conv=>whnf
        repeat ((first|refine ⟨gP_of ⟨by omega,by omega⟩,?_⟩|(refine ixn c.toNat (by omega) (cliAt_get hc0 hi3.1) ?_)|refine gcall (moreA z u (cliAt s.H.lex c).text (z.all++u.text) (u.text.length:Int) hTl) ?_|(refine ⟨gP_of hadd,?_⟩)|(intro (b13:Nat))|(refine ⟨(by rw [e3];simp;unfold AMAX;omega),fun q3=>?_⟩)|(refine ⟨_,.here _,?_⟩)|(refine ⟨_,.there (.there (.here _)),?_⟩)|refine ⟨_,_,.tail _ (.head _),rfl,?_⟩|refine ⟨_,_,.here _,leOK,?_⟩|refine ⟨_,_,.there (.here _),leOK,?_⟩|refine And.intro (by show drawOK (opsAt Tryz.f191 _) _=true;decide +kernel) ?_);conv=>whnf)
        refine ⟨[(3,[],.iptr (encLex s.H.lex)),(4,[],.iptr (encHlf z)),(5,[],.iptr (encUse u)),(7,[],.sl 8 (some q3) ((o++[qn]).map fun q=>encHlf (hfOf s f q (T++[u])))),(12,[],.int .i64 (c+1))],[(q3,.tok)],?_,_,(by omega),c+1,_,_,[(q3,.tok)],rfl,rfl,rfl,by omega,by omega,.inr ⟨_,rfl,rfl⟩,by simp;omega,by rw [if_pos hi3.2,hmo,List.append_assoc]⟩
        refine Turn.one (.cons (VLe.refl _) (.cons (VLe.refl _) (.cons (VLe.refl _) (.cons ?_ (RLe.refl _))))) (by simp)
        first
         | (rw [hoe];exact VLe.els (.cons (hle _) .nil))
         | (rw [List.map_append (f:=fun q=>encHlf (hfOf s f q (T++[u])))];exact VLe.els (VssLe.snoc (hle _)))
      ·have hq:begins (cliAt s.H.lex c).text u.text=false:=hq
       rw [if_neg (by rw [hq];decide),List.nil_append] at hmo
       conv=>whnf
       repeat (refine ⟨gP_of ⟨by omega,by omega⟩,?_⟩;conv=>whnf)
       exact ⟨_,_,Turn.refl _ _,_,(by omega),c+1,o,_,_,rfl,rfl,rfl,by omega,by omega,hv,by omega,by rw [if_pos hi3.2];exact hmo⟩
     ·have hmo2:nextM s p u=o:=by
       rw [hmo]
       have hi2:(decide (c<((s.H.lex.clitics.map encCli).length:Int))&&decide (((ints z.form.clitics).length:Int)<3))=false:=hi2
       rw [e3] at hi2
       simp at hi2
       split
       ·rename_i h3
        rw [drop_nil (by omega)];simp [spellGo]
       ·simp
      rw [hmo2]
      conv=>whnf
      skip
      exact hv.le (by decide)
   ·have hn:decide (0<((ints z.form.clitics).length:Int))=false:=hn
    rw [e3] at hn
    simp at hn
    have hfc1:(-1:Int)+1=firstC p.cl:=by rw [hn];rfl
    conv=>whnf
    repeat (refine ⟨gP_of ⟨by omega,by omega⟩,?_⟩;conv=>whnf)
    refine tloop rfl mixed [3,4,5,7,12] [] (fun m r h=>∃ (c:Int) (o:List Prg) (v:AV) (hp0:Heap),r=[(3,[],.iptr (encLex s.H.lex)),(4,[],.iptr (encHlf z)),(5,[],.iptr (encUse u)),(7,[],v),(12,[],.int .i64 c)]∧h=hp0∧m=(s.H.lex.clitics.length - c).toNat∧0≤c∧c≤s.H.lex.clitics.length∧Out 8 (fun q=>encHlf (hfOf s f q (T++[u]))) o v hp0∧o.length≤c∧nextM s p u=o++(if p.cl.length<3 then spellGo p u (s.H.lex.clitics.drop c.toNat) c else [])) ?_ ?_
    ·conv=>whnf
     exact ⟨_,_,Turn.refl _ _,_,firstC p.cl,[],_,[],by rw [← hfc1],rfl,rfl,hfc.1,hfc.2,.inl ⟨rfl,rfl,rfl⟩,by simpa using hfc.1,by rw [hm];rfl⟩
    ·rintro m r h' ⟨c,o,v,hp0,rfl,rfl,rfl,hc0,hcn,hv,hol,hmo⟩
     have hob:o.length+1≤AMAX:=by have:=hs.lex.many;unfold AMAX;omega
     conv=>whnf
     skip
     refine ⟨fun hi2=>?_,fun hi2=>?_⟩
     ·have hi3:c<s.H.lex.clitics.length∧p.cl.length<3:=by
       have hi2:(decide (c<((s.H.lex.clitics.map encCli).length:Int))&&decide (((ints z.form.clitics).length:Int)<3))=true:=hi2
       rw [e3] at hi2
       simp at hi2;exact ⟨hi2.1,by omega⟩
      have hct:=sndOK_len (hs.lex.cliAt hc0 hi3.1).text
      have hcl:(cliAt s.H.lex c).text.length≤LMAX:=by unfold LMAX;omega
      rw [if_pos hi3.2,drop_cons (cliAt_get hc0 hi3.1),spellGo,show ((c.toNat:Nat)+1)=(c+1).toNat by omega] at hmo
      conv=>whnf
      repeat ((first|(refine ixn c.toNat (by omega) (cliAt_get hc0 hi3.1) ?_)|refine gcall (refBegins (cliAt s.H.lex c).text u.text hcl hul) ?_|refine And.intro (by show drawOK (opsAt Tryz.f191 _) _=true;decide +kernel) ?_);conv=>whnf)
      refine ⟨fun hq=>?_,fun hq=>?_⟩
      ·have hq:begins (cliAt s.H.lex c).text u.text=true:=hq
       rw [if_pos hq] at hmo
       obtain ⟨qn,hqn⟩:∃ q:Prg,q=⟨p.sounds++u.text,p.closed,p.cl++[c],u⟩:=⟨_,rfl⟩
       rw [← hqn] at hmo
       have hel:encHlf (hfOf s f qn (T++[u]))=[.int .i64 z.form.entry,.int .i64 z.form.ending,.sl 1 none (ints (p.cl++[c])),.str (cliAt s.H.lex c).text,.int .i64 u.text.length,.str (z.all++u.text),.bool z.closed,.sl 2 none ((z.uses++[u]).map encUse)]:=by
        rw [hqn,hh]
        unfold encHlf hfOf
        simp only [lastPart_snoc,base_snoc,List.length_append]
        rw [show (((p.sounds.length+u.text.length:Nat):Int) - ((tot s p.cl).length:Int))=(u.text.length:Int) by omega]
       have hle:∀ t,VsLe [.int .i64 z.form.entry,.int .i64 z.form.ending,.sl 1 t (ints z.form.clitics++[[.int .i64 c]]),.str (cliAt s.H.lex c).text,.int .i64 u.text.length,.str (z.all++u.text),.bool z.closed,.sl 2 none ((z.uses++[u]).map encUse)] (encHlf (hfOf s f qn (T++[u]))):=fun t=>by
        rw [hel,e3]
        exact .cons (VLe.refl _) (.cons (VLe.refl _) (.cons clV (VsLe.refl _)))
       rcases hv with ⟨hoe,rfl,rfl⟩|⟨qv,rfl,rfl⟩
       all_goals
        conv=>whnf
        repeat ((first|refine ⟨gP_of ⟨by omega,by omega⟩,?_⟩|(refine ixn c.toNat (by omega) (cliAt_get hc0 hi3.1) ?_)|refine gcall (moreA z u (cliAt s.H.lex c).text (z.all++u.text) (u.text.length:Int) hTl) ?_|(refine ⟨gP_of hadd,?_⟩)|(intro (b13:Nat))|(refine ⟨(by rw [e3];simp;unfold AMAX;omega),fun q3=>?_⟩)|(refine ⟨_,.here _,?_⟩)|(refine ⟨_,.there (.there (.here _)),?_⟩)|refine ⟨_,_,.tail _ (.head _),rfl,?_⟩|refine ⟨_,_,.here _,leOK,?_⟩|refine ⟨_,_,.there (.here _),leOK,?_⟩|refine And.intro (by show drawOK (opsAt Tryz.f191 _) _=true;decide +kernel) ?_);conv=>whnf)
        refine ⟨[(3,[],.iptr (encLex s.H.lex)),(4,[],.iptr (encHlf z)),(5,[],.iptr (encUse u)),(7,[],.sl 8 (some q3) ((o++[qn]).map fun q=>encHlf (hfOf s f q (T++[u])))),(12,[],.int .i64 (c+1))],[(q3,.tok)],?_,_,(by omega),c+1,_,_,[(q3,.tok)],rfl,rfl,rfl,by omega,by omega,.inr ⟨_,rfl,rfl⟩,by simp;omega,by rw [if_pos hi3.2,hmo,List.append_assoc]⟩
        refine Turn.one (.cons (VLe.refl _) (.cons (VLe.refl _) (.cons (VLe.refl _) (.cons ?_ (RLe.refl _))))) (by simp)
        first
         | (rw [hoe];exact VLe.els (.cons (hle _) .nil))
         | (rw [List.map_append (f:=fun q=>encHlf (hfOf s f q (T++[u])))];exact VLe.els (VssLe.snoc (hle _)))
      ·have hq:begins (cliAt s.H.lex c).text u.text=false:=hq
       rw [if_neg (by rw [hq];decide),List.nil_append] at hmo
       conv=>whnf
       repeat (refine ⟨gP_of ⟨by omega,by omega⟩,?_⟩;conv=>whnf)
       exact ⟨_,_,Turn.refl _ _,_,(by omega),c+1,o,_,_,rfl,rfl,rfl,by omega,by omega,hv,by omega,by rw [if_pos hi3.2];exact hmo⟩
     ·have hmo2:nextM s p u=o:=by
       rw [hmo]
       have hi2:(decide (c<((s.H.lex.clitics.map encCli).length:Int))&&decide (((ints z.form.clitics).length:Int)<3))=false:=hi2
       rw [e3] at hi2
       simp at hi2
       split
       ·rename_i h3
        rw [drop_nil (by omega)];simp [spellGo]
       ·simp
      rw [hmo2]
      conv=>whnf
      skip
      exact hv.le (by decide)
 ·refine cF (by simp [hk]) ?_
  have hm0:nextM s p u=if stBad s p u=true then [] else [⟨u.text,p.closed,p.cl,u⟩]:=by rw [nextM,if_neg (by omega),if_pos hk]
  have hz:(decide (((z.uses.map encUse).length:Int)=0)&&decide (u.text=(entAt s.H.lex f.entry).root))=!stBad s p u:=by
   unfold stBad
   rw [← he,Bool.not_or,Bool.not_not,Bool.not_not,List.length_map,e8]
   congr 1
   rw [decide_eq_decide]
   refine ⟨fun h=>hp.new (List.eq_nil_of_length_eq_zero (by omega)),fun h=>?_⟩
   by_cases hT:T=[]
   ·rw [hT];rfl
   ·exact absurd h (hp.last hT).2
  conv=>whnf
  skip
  refine cT (by simp [hk]) ?_
  conv=>whnf
  skip
  refine ⟨fun hq=>?_,fun hq=>?_⟩
  ·have hq:=hz.symm.trans hq
   rw [Bool.not_eq_true'] at hq
   rw [hm0,if_neg (by rw [hq];decide)]
   have hl0:p.last.kind=0:=by
    unfold stBad at hq
    simp only [Bool.or_eq_false_iff,Bool.not_eq_false',decide_eq_true_eq] at hq
    exact hq.1
   have hcl0:=(hp.ok.new hl0).1
   conv=>whnf
   repeat ((first|refine QCall.k0 (moreA z u z.part u.text (u.text.length:Int) hTl) ?_|(refine ⟨Nat.le_of_ble_eq_true rfl,fun q3=>?_⟩));conv=>whnf)
   refine VLe.one ?_
   rw [hh]
   unfold encHlf hfOf
   simp only
   rw [show (u.text.length:Int) - (baseL s p.cl:Int)=u.text.length by rw [hcl0];simp [baseL,tot,cliT,lastPart]]
   exact VsLe.refl _
  ·have hq:=hz.symm.trans hq
   rw [Bool.not_eq_false'] at hq
   rw [hm0,if_pos hq]
   conv=>whnf
   skip
   exact VLe.nil (by decide)
 ·refine cF (by simp [hk]) ?_
  have hm0:nextM s p u=if rpBad p u=true then [] else [⟨p.sounds,p.closed,p.cl,u⟩]:=by rw [nextM,if_neg (by omega),if_neg (by omega),if_pos hk]
  have hrp:QCall Tryz.prog 242 [.agg (encHlf z),.agg (encUse u)] [] (.bool (!rpBad p u)):=by
   by_cases hT:T=[]
   ·have hl0:=hp.new hT
    have:rpBad p u=true:=by unfold rpBad heavy;rw [hl0];rfl
    rw [this]
    exact repeats0 z u (by rw [e8,hT])
   ·obtain ⟨h1,h2⟩:=hp.last hT
    have:=repeatsA z u p.last (by rw [e8];exact h1) hTl (by rw [e6];unfold LMAX;omega) hul (by have:=hp.len;unfold LMAX;omega)
    rw [e6] at this
    have hz:((decide (p.last.kind=2)||(decide (p.last.kind=1)&&decide (2≤(p.last.text.length:Int))))&&decide ((u.text.length:Int)≤p.last.text.length)&&endsW p.sounds u.text)=!rpBad p u:=by
     unfold rpBad heavy
     rw [Bool.not_or,Bool.not_or,Bool.not_not,Bool.not_not]
     congr 2
     rw [Bool.eq_iff_iff]
     simp
    rw [hz] at this
    exact this
  conv=>whnf
  skip
  refine cF (by simp [hk]) ?_
  conv=>whnf
  skip
  refine cT (by simp [hk]) ?_
  conv=>whnf
  repeat ((refine QCall.k0 hrp ?_);conv=>whnf)
  refine ⟨fun hq=>?_,fun hq=>?_⟩
  ·have hq:(!rpBad p u)=true:=hq
   rw [Bool.not_eq_true'] at hq
   rw [hm0,if_neg (by rw [hq];decide)]
   conv=>whnf
   repeat ((first|refine QCall.k0 (moreA z u z.part z.all z.done hTl) ?_|(refine ⟨Nat.le_of_ble_eq_true rfl,fun q3=>?_⟩));conv=>whnf)
   refine VLe.one ?_
   rw [hh]
   exact VsLe.refl _
  ·have hq:(!rpBad p u)=false:=hq
   rw [Bool.not_eq_false'] at hq
   rw [hm0,if_pos hq]
   conv=>whnf
   skip
   exact VLe.nil (by decide)
 ·refine cF (by simp [hk]) ?_
  have hm0:nextM s p u=if clBad s p u=true then [] else [⟨p.sounds,true,p.cl,u⟩]:=by rw [nextM,if_neg (by omega),if_neg (by omega),if_neg (by omega),if_pos hk]
  have hz:(decide (z.done=(z.part.length:Int))&&decide (((ints z.form.clitics).length:Int)=0)&&!z.closed&&!decide ((entAt s.H.lex f.entry).cls=[])&&decide (u.text=(entAt s.H.lex f.entry).cls))=!clBad s p u:=by
   unfold clBad
   rw [← he,e3,e4,e5,e7,ints_length]
   by_cases hcl:p.cl=[]
   ·have h1:((p.sounds.length:Int) - baseL s p.cl=((lastPart s p.cl).length:Int))↔((p.sounds.length:Int)=s.body.length):=by
     rw [hcl]
     simp [baseL,tot,cliT,lastPart]
    rw [decide_eq_decide.2 h1,hcl]
    cases p.closed<;>cases decide (s.e.cls=[])<;>cases decide (u.text=s.e.cls)<;>cases decide ((p.sounds.length:Int)=s.body.length)<;>rfl
   ·have h1:0<p.cl.length:=List.length_pos_iff.2 hcl
    rw [decide_eq_false (show ¬ ((p.cl.length:Int)=0) by omega),decide_eq_true (show (0:Int)<p.cl.length by omega)]
    simp
  conv=>whnf
  skip
  refine cF (by simp [hk]) ?_
  conv=>whnf
  skip
  refine cF (by simp [hk]) ?_
  conv=>whnf
  skip
  refine cT (by simp [hk]) ?_
  conv=>whnf
  skip
  refine ⟨fun hq=>?_,fun hq=>?_⟩
  ·have hq:=hz.symm.trans hq
   rw [Bool.not_eq_true'] at hq
   rw [hm0,if_neg (by rw [hq];decide)]
   conv=>whnf
   repeat ((first|refine QCall.k0 (moreA z u z.part z.all z.done hTl) ?_|(refine ⟨Nat.le_of_ble_eq_true rfl,fun q3=>?_⟩)|(intro (bt:Nat))|refine ⟨_,_,.head _,rfl,?_⟩|refine ⟨_,_,.here _,leOK,?_⟩);conv=>whnf)
   refine VLe.one (x:=[.int .i64 z.form.entry,.int .i64 z.form.ending,.sl 1 none (ints z.form.clitics),.str z.part,.int .i64 z.done,.str z.all,.bool true,.sl 2 none ((z.uses++[u]).map encUse)]) ?_
   rw [hh]
   exact VsLe.refl _
  ·have hq:=hz.symm.trans hq
   rw [Bool.not_eq_false'] at hq
   rw [hm0,if_pos hq]
   conv=>whnf
   skip
   exact VLe.nil (by decide)
end Go.Abs.Wall
namespace Go.Abs.Wall
open Go Go.Abs Go.Proofs
def c132:Cfg:=⟨[0,1,2,3,4,5,7,8,31,39,40,47,54,61,68],[],[],[],[],[]⟩
theorem wholeA (s:Sp) (f:Frm) (p:Prg) (T:List Use) (hp:HOK s p T):QCall Tryz.prog 192 [.agg (encHlf (hfOf s f p T))] [] (.bool (endsM s p&&decide (0<(T.length:Int)))):=by
 refine fcalls (F:=Tryz.f192) c192 rfl rfl rfl mixed rfl fun X=>?_
 conv=>whnf
 skip
 refine ⟨congrArg AV.bool ?_,rfl⟩
 show (decide ((p.sounds.length:Int) - baseL s p.cl=((lastPart s p.cl).length:Int))&&decide (0<((T.map encUse).length:Int)))=_
 rw [List.length_map]
 congr 1
 unfold endsM
 rw [decide_eq_decide]
 obtain ⟨pre,h1,h2⟩:=tot_last s p.cl
 have h3:=congrArg List.length h1
 rw [List.length_append] at h3
 have h4:=hp.base
 omega
theorem beginA (H:Hou) (f:Frm) (hx:LexOK H.lex) (hf:0≤f.entry∧f.entry<H.lex.entries.length) (hn:f.ending<H.lex.endings.length) (hcl:True) :
  QCall Tryz.prog 190 [.agg (encLex H.lex),.int .i64 f.entry,.int .i64 f.ending] [] (.agg (encHlf (hfOf (spOf H f) f prg0 []))):=by
 have hr:=sndOK_len (hx.entAt hf.1 hf.2).root
 have h0:hfOf (spOf H f) f prg0 []=⟨⟨f.entry,f.ending,[]⟩,bodyM H.lex f.entry f.ending,0,[],false,[]⟩:=by
  unfold hfOf prg0
  simp [lastPart,baseL,tot,cliT,spOf]
 rw [h0]
 refine QCall.of (fcalls (F:=Tryz.f190) c190 rfl rfl rfl mixed rfl fun X=>?_)
 conv=>whnf
 intro b1
 conv=>whnf
 repeat ((first|(refine ixn f.entry.toNat (by omega) (entAt_get hf.1 hf.2) ?_)|(intro (b2:Nat))|refine ⟨_,_,.here _,leOK,?_⟩);conv=>whnf)
 refine ⟨fun he=>?_,fun he=>?_⟩<;>simp at he
 ·have ht:=sndOK_len (hx.ednAt he hn).text
  have hb:bodyM H.lex f.entry f.ending=(entAt H.lex f.entry).root++(ednAt H.lex f.ending).text:=by rw [bodyM,if_neg (by omega)]
  conv=>whnf
  repeat ((first|(refine ixn f.ending.toNat (by omega) (ednAt_get he hn) ?_)|(refine ⟨gP_of (by rw [List.length_append];unfold LMAX;omega),?_⟩)|(refine ⟨⟨Nat.le_of_ble_eq_true rfl,rfl⟩,?_⟩)|refine ⟨_,_,Rem.there (.here _),?_⟩|refine ⟨_,_,.head _,rfl,?_⟩|refine ⟨_,_,.here _,leOK,?_⟩|refine And.intro (by show drawOK (opsAt Tryz.f190 _) _=true;decide +kernel) ?_);conv=>whnf)
  rw [hb]
  exact VLe.agg (.cons (VLe.refl _) (.cons (VLe.refl _) (.cons (VLe.nil (k:=1) (by decide)) (.cons (VLe.refl _) (.cons (VLe.refl _) (.cons (VLe.refl _) (.cons (VLe.refl _) (.cons (VLe.nil (k:=2) (by decide)) .nil))))))))
 ·have hb:bodyM H.lex f.entry f.ending=(entAt H.lex f.entry).root:=by rw [bodyM,if_pos he]
  conv=>whnf
  repeat ((first|(refine ⟨⟨Nat.le_of_ble_eq_true rfl,rfl⟩,?_⟩)|refine ⟨_,_,Rem.there (.here _),?_⟩|refine ⟨_,_,.head _,rfl,?_⟩);conv=>whnf)
  rw [hb]
  exact VLe.agg (.cons (VLe.refl _) (.cons (VLe.refl _) (.cons (VLe.nil (k:=1) (by decide)) (.cons (VLe.refl _) (.cons (VLe.refl _) (.cons (VLe.refl _) (.cons (VLe.refl _) (.cons (VLe.nil (k:=2) (by decide)) .nil))))))))
theorem refCost (H:Hou) (w:Wrd) (hx:LexFit H.lex) (hH:HouOK H) (hf:w.form.clitics.length≤LMAX) (he:0≤w.form.entry∧w.form.entry<H.lex.entries.length) (hu:w.uses.length≤1048576) :
  QCall Tryz.prog 132 [.agg (encHou H),.agg (encWrd w)] [] (.int .i64 (priceM H w)):=by
 have hfw:=frmW_bound (x:=H.lex) (f:=w.form)
 have hop:=hH.costs H.costs.opn (by simp [costL])
 refine fcalls (F:=Tryz.f132) c132 rfl rfl rfl mixed rfl fun X=>?_
 conv=>whnf
 repeat ((first|refine QCall.k0 (refWgt H.lex w.form hx hf) ?_|(refine ixn w.form.entry.toNat (by omega) (entAt_get he.1 he.2) ?_));conv=>whnf)
 refine sloop rfl mixed [2,3,5,7,8] [] (fun m r h=>∃ (i:Nat) (n:Int) (cl:Bool),r=[(2,[],.iptr (encHou H)),(3,[],.iptr (encWrd w)),(5,[],.int .i64 n),(7,[],.bool (!decide ((entAt H.lex w.form.entry).cls=[])&&!cl)),(8,[],.int .i64 i)]∧h=[]∧m=w.uses.length - i∧i≤w.uses.length∧n=frmW H.lex w.form+usesCost H.costs (w.uses.take i)∧cl=closes (w.uses.take i)) ?_ ?_
 ·conv=>whnf
  exact ⟨_,0,frmW H.lex w.form,false,by rw [Bool.not_false,Bool.and_true];rfl,rfl,rfl,by omega,by simp [usesCost],by simp [closes]⟩
 ·rintro m r h' ⟨i,n,cl,rfl,rfl,rfl,hi,hn,hcl⟩
  have hb:=usesCost_bound hH (w.uses.take i)
  rw [List.length_take] at hb
  conv=>whnf
  skip
  refine ⟨fun hi2=>?_,fun hi2=>?_⟩<;>simp at hi2
  ·obtain ⟨u,hu'⟩:=get_lt hi2
   have hs':=take_snoc hu'
   have hcb:=useCost_bound hH u
   have hsc:=usesCost_snoc (c:=H.costs) (l:=w.uses.take i) (u:=u)
   have hsl:=closes_snoc (l:=w.uses.take i) (u:=u)
   rw [← hs'] at hsc hsl
   unfold useCost at hsc hcb
   conv=>whnf
   repeat (refine ix (by assumption) ?_;conv=>whnf)
   refine ⟨fun hk=>?_,fun hk=>?_⟩<;>simp only [decide_eq_true_eq,decide_eq_false_iff_not] at hk
   ·rw [if_pos hk] at hsc hcb
    conv=>whnf
    repeat (refine ⟨gP_of ⟨by omega,by omega⟩,?_⟩;conv=>whnf)
    exact ⟨_,by omega,i+1,_,_,rfl,rfl,rfl,by omega,by rw [hsc,hn];show _+_=_;omega,by rw [hsl,hcl,decide_eq_false (by omega),Bool.or_false]⟩
   rw [if_neg hk] at hsc hcb
   conv=>whnf
   skip
   refine ⟨fun hk2=>?_,fun hk2=>?_⟩<;>simp only [decide_eq_true_eq,decide_eq_false_iff_not] at hk2
   ·rw [if_pos hk2] at hsc hcb
    conv=>whnf
    repeat (refine ⟨gP_of ⟨by omega,by omega⟩,?_⟩;conv=>whnf)
    exact ⟨_,by omega,i+1,_,_,rfl,rfl,rfl,by omega,by rw [hsc,hn];show _+_=_;omega,by rw [hsl,hcl,decide_eq_false (by omega),Bool.or_false]⟩
   rw [if_neg hk2] at hsc hcb
   conv=>whnf
   skip
   refine ⟨fun hk3=>?_,fun hk3=>?_⟩<;>simp only [decide_eq_true_eq,decide_eq_false_iff_not] at hk3
   ·rw [if_pos hk3] at hsc hcb
    conv=>whnf
    repeat (refine ⟨gP_of ⟨by omega,by omega⟩,?_⟩;conv=>whnf)
    exact ⟨_,by omega,i+1,_,_,rfl,rfl,rfl,by omega,by rw [hsc,hn];show _+_=_;omega,by rw [hsl,hcl,decide_eq_false (by omega),Bool.or_false]⟩
   rw [if_neg hk3] at hsc hcb
   conv=>whnf
   skip
   refine ⟨fun hk4=>?_,fun hk4=>?_⟩<;>simp only [decide_eq_true_eq,decide_eq_false_iff_not] at hk4
   ·rw [if_pos hk4] at hsc hcb
    conv=>whnf
    repeat (refine ⟨gP_of ⟨by omega,by omega⟩,?_⟩;conv=>whnf)
    exact ⟨_,by omega,i+1,n+H.costs.cls,true,by rw [Bool.not_true,Bool.and_false];rfl,rfl,rfl,by omega,by rw [hsc,hn];show _+_=_;omega,by rw [hsl,decide_eq_true hk4,Bool.or_true]⟩
   rw [if_neg hk4] at hsc hcb
   conv=>whnf
   repeat (refine ⟨gP_of ⟨by omega,by omega⟩,?_⟩;conv=>whnf)
   exact ⟨_,by omega,i+1,_,_,rfl,rfl,rfl,by omega,by rw [hsc,hn];omega,by rw [hsl,hcl,decide_eq_false hk4,Bool.or_false]⟩
  ·rw [List.take_of_length_le hi2] at hn hcl hb
   conv=>whnf
   skip
   refine ⟨fun hq=>?_,fun hq=>?_⟩
   ·have hq:(!decide ((entAt H.lex w.form.entry).cls=[])&&!cl)=true:=hq
    rw [hcl,Bool.and_comm] at hq
    conv=>whnf
    repeat (refine ⟨gP_of ⟨by omega,by omega⟩,?_⟩;conv=>whnf)
    refine ⟨congrArg (AV.int .i64) ?_,rfl⟩
    rw [priceM,if_pos hq,hn]
   ·have hq:(!decide ((entAt H.lex w.form.entry).cls=[])&&!cl)=false:=hq
    rw [hcl,Bool.and_comm] at hq
    conv=>whnf
    skip
    refine ⟨congrArg (AV.int .i64) ?_,rfl⟩
    rw [priceM,if_neg (by rw [hq];decide),hn]
    omega
theorem refLineH {H:Hou} (hh:HouFit H) (h0:houErr H=0) {line:List Int} (hl:line.length≤LMAX):QCall Tryz.prog 130 [.agg (encLst H.list),.sl 1 none (ints line)] [] (.int .i64 (lineErr H line)):=by
 have:=refLine H.list line hh.list hl
 rwa [show lineE H.list line=lineErr H line by rw [lineErr,if_neg (by omega)];rfl] at this
end Go.Abs.Wall
namespace Go.Abs.Wall
open Go Go.Abs Go.Proofs
end Go.Abs.Wall
namespace Go.Abs.Wall
open Go Go.Abs Go.Proofs
def cliCmp:List Int→List Int→Int
 | x::s,y::t=>if x≠y then x - y else cliCmp s t
 | s,t=>(s.length:Int) - t.length
def frmCmp (a b:Frm):Int:=if a.entry≠b.entry then a.entry - b.entry else if a.ending≠b.ending then a.ending - b.ending else cliCmp a.clitics b.clitics
structure FrmSmall (f:Frm):Prop where
 entry:-1≤f.entry∧f.entry≤1048576
 ending:-1≤f.ending∧f.ending≤1048576
 cl:∀ c∈f.clitics,-1≤c∧c≤1048576
 few:f.clitics.length≤1048576
def c141:Cfg:=⟨[0,1,2,3,4,5,10,20,37,50],[],[],[],[(8,[0,1,2,3,4,5,6,7,8,9,10],[]),(9,[0,1,2,3,4,5,6,7,8,9,10,11],[])],[]⟩
def c212:Cfg:=⟨[0,1,2,3,4,5,6,13,27,34,47],[],[],[],[(9,[0,1,2,3,4,5,6,7,8,9,10],[]),(10,[0,1,2,3,4,5,6,7,8,9,10,11],[])],[]⟩
theorem refCmpForms (a b:Frm) (ha:FrmSmall a) (hb:FrmSmall b):QCall Tryz.prog 141 [.agg (encFrm a),.agg (encFrm b)] [] (.int .i64 (frmCmp a b)):=by
 have h1:=ha.entry;have h2:=hb.entry;have h3:=ha.ending;have h4:=hb.ending;have h5:=ha.few;have h6:=hb.few
 refine fcalls (F:=Tryz.f141) c141 rfl rfl rfl mixed rfl fun X=>?_
 conv=>whnf
 skip
 refine ⟨fun hq=>?_,fun hq=>?_⟩<;>simp at hq
 ·conv=>whnf
  repeat (refine ⟨gP_of ⟨by omega,by omega⟩,?_⟩;conv=>whnf)
  exact ⟨by rw [frmCmp,if_pos hq],rfl⟩
 conv=>whnf
 skip
 refine ⟨fun hr=>?_,fun hr=>?_⟩<;>simp at hr
 ·conv=>whnf
  repeat (refine ⟨gP_of ⟨by omega,by omega⟩,?_⟩;conv=>whnf)
  exact ⟨by rw [frmCmp,if_neg (by simpa using hq),if_pos hr],rfl⟩
 have h0:frmCmp a b=cliCmp a.clitics b.clitics:=by rw [frmCmp,if_neg (by simpa using hq),if_neg (by simpa using hr)]
 conv=>whnf
 skip
 refine sloop rfl mixed [2,3,5] [] (fun m r h=>∃ (i:Nat),r=[(2,[],.iptr (encFrm a)),(3,[],.iptr (encFrm b)),(5,[],.int .i64 i)]∧h=[]∧m=a.clitics.length - i∧i≤a.clitics.length∧i≤b.clitics.length∧frmCmp a b=cliCmp (a.clitics.drop i) (b.clitics.drop i)) ?_ ?_
 ·conv=>whnf
  exact ⟨_,0,rfl,rfl,rfl,by omega,by omega,h0⟩
 ·rintro m r h ⟨i,rfl,rfl,rfl,hi,hj,hg⟩
  conv=>whnf
  skip
  refine ⟨fun hc=>?_,fun hc=>?_⟩
  ·have hc:(decide ((i:Int)<((ints a.clitics).length:Int))&&decide ((i:Int)<((ints b.clitics).length:Int)))=true:=hc
   simp at hc
   obtain ⟨x,hx⟩:=get_lt hc.1
   obtain ⟨y,hy⟩:=get_lt hc.2
   have hx2:=ha.cl x (List.mem_of_getElem? hx)
   have hy2:=hb.cl y (List.mem_of_getElem? hy)
   rw [drop_cons hx,drop_cons hy,cliCmp] at hg
   conv=>whnf
   repeat ((first|refine ix (by assumption) ?_|refine And.intro (by show drawOK (opsAt Tryz.f141 _) _=true;decide +kernel) ?_);conv=>whnf)
   refine ⟨fun he=>?_,fun he=>?_⟩<;>simp at he
   ·rw [if_pos he] at hg
    conv=>whnf
    repeat ((first|refine ⟨gP_of ⟨by omega,by omega⟩,?_⟩|refine ix (by assumption) ?_|refine And.intro (by show drawOK (opsAt Tryz.f141 _) _=true;decide +kernel) ?_);conv=>whnf)
    exact ⟨by rw [hg],rfl⟩
   ·rw [if_neg (by simpa using he)] at hg
    conv=>whnf
    repeat (refine ⟨gP_of ⟨by omega,by omega⟩,?_⟩;conv=>whnf)
    exact ⟨_,by omega,i+1,rfl,rfl,rfl,by omega,by omega,hg⟩
  ·have hc:(decide ((i:Int)<((ints a.clitics).length:Int))&&decide ((i:Int)<((ints b.clitics).length:Int)))=false:=hc
   simp at hc
   have hz:frmCmp a b=(a.clitics.length:Int) - b.clitics.length:=by
    rw [hg]
    have hl1:((a.clitics.drop i).length:Int)=a.clitics.length - i:=by rw [List.length_drop];omega
    have hl2:((b.clitics.drop i).length:Int)=b.clitics.length - i:=by rw [List.length_drop];omega
    cases h1:a.clitics.drop i with
    | nil=>rw [h1] at hl1;unfold cliCmp;rw [hl1,hl2];omega
    | cons x s=>
      cases h2:b.clitics.drop i with
      | nil=>rw [h2] at hl2;unfold cliCmp;rw [← h1,hl1,hl2];omega
      | cons y t=>
        rw [h1] at hl1
        rw [h2] at hl2
        simp at hl1 hl2
        omega
   conv=>whnf
   repeat ((refine ⟨gP_of ⟨by rw [ints_length,ints_length];omega,by rw [ints_length,ints_length];omega⟩,?_⟩);conv=>whnf)
   exact ⟨by rw [hz,ints_length,ints_length],rfl⟩
theorem cliCmp_cmp:∀ (s t:List Int),(cliCmp s t<0↔cmpL cmpI s t<0)∧(cliCmp s t=0↔cmpL cmpI s t=0)
 | [],[]=>by simp [cliCmp,cmpL]
 | [],y::t=>by simp [cliCmp,cmpL];omega
 | x::s,[]=>by simp [cliCmp,cmpL];omega
 | x::s,y::t=>by
   have ih:=cliCmp_cmp s t
   unfold cliCmp cmpL
   by_cases h:x=y
   ·rw [if_neg (by simpa using h),if_neg (by rw [ne_eq,cmpI_zero];simpa using h)]
    exact ih
   ·rw [if_pos h,if_pos (by rw [ne_eq,cmpI_zero];exact h),cmpI_lt,cmpI_zero]
    omega
def lessW (a b:Wrd):Bool:=decide (wrdCmp a b<0)
theorem wrdCmp_eq (a b:Wrd):wrdCmp a b=if cmpI a.uses.length b.uses.length≠0 then cmpI a.uses.length b.uses.length else if cmpI a.form.entry b.form.entry≠0 then cmpI a.form.entry b.form.entry else if cmpI a.form.ending b.form.ending≠0 then cmpI a.form.ending b.form.ending else if cmpL cmpI a.form.clitics b.form.clitics≠0 then cmpL cmpI a.form.clitics b.form.clitics else cmpL useCmp a.uses b.uses:=by
 unfold wrdCmp
 rw [orI,orI,orI,orI2]
theorem frmCmp_wrd (a b:Wrd) (h:a.uses.length=b.uses.length):(frmCmp a.form b.form≠0→(frmCmp a.form b.form<0↔wrdCmp a b<0))∧(frmCmp a.form b.form=0→wrdCmp a b=cmpL useCmp a.uses b.uses):=by
 have hc:=cliCmp_cmp a.form.clitics b.form.clitics
 have h0:¬ cmpI (a.uses.length:Int) b.uses.length≠0:=by rw [ne_eq,cmpI_zero];omega
 rw [wrdCmp_eq,if_neg h0]
 unfold frmCmp
 by_cases h1:a.form.entry=b.form.entry
 ·have k1:¬ cmpI a.form.entry b.form.entry≠0:=by rw [ne_eq,cmpI_zero];simpa using h1
  have k2:¬ a.form.entry≠b.form.entry:=by simpa using h1
  rw [if_neg k1,if_neg k2]
  by_cases h2:a.form.ending=b.form.ending
  ·have k3:¬ cmpI a.form.ending b.form.ending≠0:=by rw [ne_eq,cmpI_zero];simpa using h2
   have k4:¬ a.form.ending≠b.form.ending:=by simpa using h2
   rw [if_neg k3,if_neg k4]
   by_cases h3:cliCmp a.form.clitics b.form.clitics=0
   ·have k5:¬ cmpL cmpI a.form.clitics b.form.clitics≠0:=by rw [ne_eq,← hc.2];simpa using h3
    rw [if_neg k5]
    exact ⟨fun h=>absurd h3 h,fun _=>rfl⟩
   ·have k5:cmpL cmpI a.form.clitics b.form.clitics≠0:=by rw [ne_eq,← hc.2];exact h3
    rw [if_pos k5]
    exact ⟨fun _=>hc.1,fun h=>absurd h h3⟩
  ·have k3:cmpI a.form.ending b.form.ending≠0:=by rw [ne_eq,cmpI_zero];exact h2
   have k4:a.form.ending≠b.form.ending:=h2
   rw [if_pos k3,if_pos k4,cmpI_lt]
   exact ⟨fun _=>by omega,fun h=>by omega⟩
 ·have k1:cmpI a.form.entry b.form.entry≠0:=by rw [ne_eq,cmpI_zero];exact h1
  have k2:a.form.entry≠b.form.entry:=h1
  rw [if_pos k1,if_pos k2,cmpI_lt]
  exact ⟨fun _=>by omega,fun h=>by omega⟩
structure WrdSmall (w:Wrd):Prop where
 form:FrmSmall w.form
 uses:w.uses.length≤1048576
theorem refLess (a b:Wrd) (ha:WrdSmall a) (hb:WrdSmall b):QCall Tryz.prog 212 [.agg (encWrd a),.agg (encWrd b)] [] (.bool (lessW a b)):=by
 have h1:=ha.uses;have h2:=hb.uses
 refine fcalls (F:=Tryz.f212) c212 rfl rfl rfl mixed rfl fun X=>?_
 conv=>whnf
 skip
 refine ⟨fun hq=>?_,fun hq=>?_⟩<;>simp at hq
 ·conv=>whnf
  skip
  refine ⟨congrArg AV.bool ?_,rfl⟩
  unfold lessW
  rw [wrdCmp_eq,if_pos (by rw [ne_eq,cmpI_zero];omega),List.length_map,List.length_map,decide_eq_decide,cmpI_lt]
 have hl:a.uses.length=b.uses.length:=by omega
 obtain ⟨hn0,hz0⟩:=frmCmp_wrd a b hl
 conv=>whnf
 repeat (refine QCall.k0 (refCmpForms a.form b.form ha.form hb.form) ?_;conv=>whnf)
 refine ⟨fun hr=>?_,fun hr=>?_⟩<;>simp at hr
 ·conv=>whnf
  skip
  refine ⟨congrArg AV.bool ?_,rfl⟩
  unfold lessW
  rw [decide_eq_decide]
  exact hn0 hr
 have hz:=hz0 hr
 conv=>whnf
 skip
 refine sloop rfl mixed [2,3,6] [] (fun m r h=>∃ (i:Nat),r=[(2,[],.iptr (encWrd a)),(3,[],.iptr (encWrd b)),(6,[],.int .i64 i)]∧h=[]∧m=a.uses.length - i∧i≤a.uses.length∧wrdCmp a b=cmpL useCmp (a.uses.drop i) (b.uses.drop i)) ?_ ?_
 ·conv=>whnf
  exact ⟨_,0,rfl,rfl,rfl,by omega,hz⟩
 ·rintro m r h ⟨i,rfl,rfl,rfl,hi,hg⟩
  conv=>whnf
  skip
  refine ⟨fun hc=>?_,fun hc=>?_⟩<;>simp at hc
  ·obtain ⟨x,hx⟩:=get_lt hc
   obtain ⟨y,hy⟩:=get_lt (l:=b.uses) (i:=i) (by omega)
   rw [drop_cons hx,drop_cons hy,cmpL] at hg
   conv=>whnf
   repeat ((first|refine ix (by assumption) ?_|(refine ⟨plainUse,?_⟩)|refine And.intro (by show drawOK (opsAt Tryz.f212 _) _=true;decide +kernel) ?_);conv=>whnf)
   refine ⟨fun he=>?_,fun he=>?_⟩
   ·have he:(!useEq x y)=true:=he
    rw [useEq_iff,Bool.not_eq_true',decide_eq_false_iff_not] at he
    rw [if_pos (by rw [ne_eq,zU.zero];exact he)] at hg
    conv=>whnf
    repeat ((first|refine ix (by assumption) ?_|refine gcall (refLessU x y) ?_|refine And.intro (by show drawOK (opsAt Tryz.f212 _) _=true;decide +kernel) ?_);conv=>whnf)
    refine ⟨congrArg AV.bool ?_,rfl⟩
    unfold lessW lessU
    rw [hg]
   ·have he:(!useEq x y)=false:=he
    rw [useEq_iff,Bool.not_eq_false',decide_eq_true_eq] at he
    rw [if_neg (by rw [ne_eq,zU.zero];simpa using he)] at hg
    conv=>whnf
    repeat (refine ⟨gP_of ⟨by omega,by omega⟩,?_⟩;conv=>whnf)
    exact ⟨_,by omega,i+1,rfl,rfl,rfl,by omega,hg⟩
  ·rw [drop_nil hc,drop_nil (by omega),cmpL] at hg
   conv=>whnf
   skip
   refine ⟨congrArg AV.bool ?_,rfl⟩
   unfold lessW
   rw [hg]
   rfl
end Go.Abs.Wall
