/- What is proved: small laws for the walks of this seat, and contracts of its functions. No condition but those each theorem names. -/
import Derived.Test.YtbmcnieifibckaaGreatN5
set_option maxRecDepth 100000
set_option maxHeartbeats 2000000
set_option linter.unusedVariables false
set_option linter.unusedSimpArgs false
namespace Go.Abs.Wall
open Go Go.Abs Go.Proofs
def partM (s:Sp) (p:Prg):List UInt8:=(tot s p.cl).drop p.sounds.length
def firstC (cl:List Int):Int:=match cl.getLast? with
 | some c=>c+1
 | none=>0
def spellGo (p:Prg) (u:Use):List Cli→Int→List Prg
 | [],_=>[]
 | k::t,c=>(if begins k.text u.text=true then [⟨p.sounds++u.text,p.closed,p.cl++[c],u⟩] else [])++spellGo p u t (c+1)
def spellM (s:Sp) (p:Prg) (u:Use):List Prg:=
 if partM s p≠[] then (if begins (partM s p) u.text=true then [⟨p.sounds++u.text,p.closed,p.cl,u⟩] else [])
 else if p.cl.length<3 then spellGo p u (s.H.lex.clitics.drop (firstC p.cl).toNat) (firstC p.cl) else []
theorem firstC_ok {s:Sp} {p:Prg} (hp:PrgOK s p):0≤firstC p.cl∧firstC p.cl≤s.H.lex.clitics.length:=by
 unfold firstC
 cases h:p.cl.getLast? with
 | none=>simp
 | some c=>
   have:=hp.cli c (List.mem_of_getLast? h)
   simp only
   omega
def Out {α:Type} (k:Nat) (enc:α→List AV) (o:List α) (v:AV) (hp:Heap):Prop:=(o=[]∧v=.nilS∧hp=[])∨∃ q,v=.sl k (some q) (o.map enc)∧hp=[(q,.tok)]
theorem Out.le {α:Type} {k:Nat} {enc:α→List AV} {o:List α} {v:AV} {hp:Heap} (hk:0<k) (h:Out k enc o v hp):VLe v (.sl k none (o.map enc)):=by
 rcases h with ⟨rfl,rfl,rfl⟩|⟨q,rfl,rfl⟩
 ·exact VLe.nil hk
 ·exact VLe.sl
end Go.Abs.Wall
namespace Go.Abs.Wall
open Go Go.Abs Go.Proofs
def stBad (s:Sp) (p:Prg) (u:Use):Bool:=!decide (p.last.kind=0)||!decide (u.text=s.e.root)
def heavy (p:Prg):Bool:=decide (p.last.kind=2)||(decide (p.last.kind=1)&&decide (2≤(p.last.text.length:Int)))
def rpBad (p:Prg) (u:Use):Bool:=!heavy p||decide ((p.last.text.length:Int)<u.text.length)||!endsW p.sounds u.text
def clBad (s:Sp) (p:Prg) (u:Use):Bool:=p.closed||decide (s.e.cls=[])||!decide (u.text=s.e.cls)||decide (0<(p.cl.length:Int))||!decide ((p.sounds.length:Int)=s.body.length)
def nextM (s:Sp) (p:Prg) (u:Use):List Prg:=
 if u.kind=1 then spellM s p u
 else if u.kind=2 then (if stBad s p u=true then [] else [⟨u.text,p.closed,p.cl,u⟩])
 else if u.kind=3 then (if rpBad p u=true then [] else [⟨p.sounds,p.closed,p.cl,u⟩])
 else if u.kind=4 then (if clBad s p u=true then [] else [⟨p.sounds,true,p.cl,u⟩])
 else []
def UseOK (u:Use):Prop:=1≤u.kind∧u.kind≤4∧1≤u.text.length∧u.text.length≤8
theorem begins_len {t w:List UInt8} (h:begins t w=true):w.length≤t.length:=by
 unfold begins at h
 simp only [Bool.and_eq_true,decide_eq_true_eq] at h
 omega
theorem spellGo_ok {s:Sp} {p:Prg} {u:Use} (hp:PrgOK s p) (hu:UseOK u) (he:p.sounds.length=(tot s p.cl).length) (h3:p.cl.length<3):∀ (l:List Cli) (c:Int),0≤c→s.H.lex.clitics.drop c.toNat=l→∀ q∈spellGo p u l c,PrgOK s q
 | [],_,_,_,q,hq=>by cases hq
 | k::t,c,h0,hd,q,hq=>by
   unfold spellGo at hq
   have hk:s.H.lex.clitics[c.toNat]?=some k:=by
    have:=congrArg (fun z=>z[0]?) hd
    simpa using this
   have hlt:=(List.getElem?_eq_some_iff.1 hk).1
   have hd2:s.H.lex.clitics.drop (c+1).toNat=t:=by
    have:=congrArg List.tail hd
    rw [show (c+1).toNat=c.toNat+1 by omega]
    simpa [List.tail_drop] using this
   rcases List.mem_append.1 hq with hq|hq
   ·split at hq
    ·rename_i hb
     cases List.mem_singleton.1 hq
     have hca:(cliAt s.H.lex c)=k:=by
      have:=cliAt_get (x:=s.H.lex) h0 (by omega)
      rw [hk] at this
      exact (Option.some.inj this).symm
     refine ⟨by simp;omega,fun d hd=>?_,?_,fun h=>?_⟩
     ·rcases List.mem_append.1 hd with hd|hd
      ·exact hp.cli d hd
      ·cases List.mem_singleton.1 hd;omega
     ·show (p.sounds++u.text).length≤(tot s (p.cl++[c])).length
      rw [tot_snoc,List.length_append,List.length_append,hca]
      have:=begins_len hb
      omega
     ·exact absurd h (by have:=hu.1;show ¬ u.kind=0;omega)
    ·cases hq
   ·exact spellGo_ok hp hu he h3 t (c+1) (by omega) hd2 q hq
theorem spellM_ok {s:Sp} {p:Prg} {u:Use} (hp:PrgOK s p) (hu:UseOK u):∀ q∈spellM s p u,PrgOK s q:=by
 intro q hq
 unfold spellM at hq
 split at hq
 ·split at hq
  ·rename_i hb
   cases List.mem_singleton.1 hq
   have:=begins_len hb
   unfold partM at this
   rw [List.length_drop] at this
   refine ⟨hp.few,hp.cli,?_,fun h=>absurd h (by have:=hu.1;show ¬ u.kind=0;omega)⟩
   show (p.sounds++u.text).length≤_
   rw [List.length_append]
   have:=hp.sounds
   show _≤(tot s p.cl).length
   omega
  ·cases hq
 ·rename_i h0
  split at hq
  ·rename_i h3
   have he:p.sounds.length=(tot s p.cl).length:=by
    have h1:=hp.sounds
    simp only [ne_eq,Decidable.not_not] at h0
    unfold partM at h0
    rw [List.drop_eq_nil_iff] at h0
    omega
   exact spellGo_ok hp hu he h3 _ _ (firstC_ok hp).1 rfl q hq
  ·cases hq
theorem nextM_ok {s:Sp} {p:Prg} {u:Use} (hs:SpOK s) (hp:PrgOK s p) (hu:UseOK u):∀ q∈nextM s p u,PrgOK s q:=by
 intro q hq
 have hk:¬ u.kind=0:=by have:=hu.1;omega
 unfold nextM at hq
 split at hq
 ·exact spellM_ok hp hu q hq
 split at hq
 ·split at hq
  ·cases hq
  ·rename_i hb
   cases List.mem_singleton.1 hq
   rw [Bool.not_eq_true] at hb
   unfold stBad at hb
   simp only [Bool.or_eq_false_iff,Bool.not_eq_false',decide_eq_true_eq] at hb
   obtain ⟨h1,h2⟩:=hp.new hb.1
   refine ⟨hp.few,hp.cli,?_,fun h=>absurd h hk⟩
   show u.text.length≤_
   rw [hb.2]
   have:=hs.root
   unfold tot
   rw [List.length_append]
   omega
 split at hq
 ·split at hq
  ·cases hq
  ·cases List.mem_singleton.1 hq
   exact ⟨hp.few,hp.cli,hp.sounds,fun h=>absurd h hk⟩
 split at hq
 ·split at hq
  ·cases hq
  ·cases List.mem_singleton.1 hq
   exact ⟨hp.few,hp.cli,hp.sounds,fun h=>absurd h hk⟩
 ·cases hq
def prg0:Prg:=⟨[],false,[],⟨0,[]⟩⟩
theorem prg0_ok (s:Sp):PrgOK s prg0:=⟨by simp [prg0],by simp [prg0],by simp [prg0],fun _=>⟨rfl,rfl⟩⟩
end Go.Abs.Wall
namespace Go.Abs.Wall
open Go Go.Abs Go.Proofs
structure Wrd where
 form:Frm
 uses:List Use
deriving DecidableEq
def encWrd (w:Wrd):List AV:=encFrm w.form++[.sl 2 none (w.uses.map encUse)]
def useCost (c:Cos) (u:Use):Int:=
 if u.kind=1 then c.spell else if u.kind=2 then c.stand else if u.kind=3 then c.rpt else if u.kind=4 then c.cls else 0
def usesCost (c:Cos) (l:List Use):Int:=(l.map (useCost c)).sum
def closes (l:List Use):Bool:=l.any fun u=>decide (u.kind=4)
def frmW (x:Lex) (f:Frm):Int:=if frmErr x f=0 then wgtM x f else 0
def priceM (H:Hou) (w:Wrd):Int:=
 frmW H.lex w.form+usesCost H.costs w.uses+(if (!closes w.uses&&!decide ((entAt H.lex w.form.entry).cls=[]))=true then H.costs.opn else 0)
structure HouOK (H:Hou):Prop where
 lst:lstErr H.list=0
 lex:LexOK H.lex
 costs:∀ c∈costL H.costs,0≤c∧c≤1000
 period:1≤H.period∧H.period≤H.list.periods
theorem houOK {H:Hou} (h:houErr H=0):HouOK H:=by
 unfold houErr at h
 split at h
 ·rename_i h1;exact absurd h h1
 rename_i h1
 split at h
 ·rename_i h2;exact absurd h h2
 rename_i h2
 split at h
 ·cases h
 rename_i h3
 split at h
 ·cases h
 rename_i h4
 rw [Bool.not_eq_false,List.all_eq_true] at h3
 rw [Bool.not_eq_false,wthn_iff] at h4
 exact ⟨by omega,lexOK (by omega),fun c hc=>wthn_iff.1 (h3 c hc),h4⟩
end Go.Abs.Wall
namespace Go.Abs.Wall
open Go Go.Abs Go.Proofs
structure Edg where
 frm:Int
 to:Int
 cost:Int
 word:Wrd
deriving DecidableEq
def encEdg (e:Edg):List AV:=[.int .i64 e.frm,.int .i64 e.to,.int .i64 e.cost]++encWrd e.word
def encUses (us:List Use):List AV:=[.sl 2 none (us.map encUse)]
structure Env where
 H:Hou
 s:Sp
 at_:Int
 entry:Int
 ending:Int
structure Run extends Env where
 most:Nat
 All:List (List Use)
structure EnvOK (E:Run):Prop where
 hou:HouOK E.H
 fit:HouFit E.H
 sp:SpOK E.s
 entry:0≤E.entry∧E.entry<E.H.lex.entries.length
 place:0≤E.at_∧E.at_≤1048576
 most:E.most≤1048576
 few:E.All.length≤12
 uses:∀ us∈E.All,us.length≤1048576∧∀ u∈us,UseOK u
theorem ACalls.perm {f:FuncId} {vs:List AV} {h h':Heap} {R:AV→Heap→Prop} (hf:ACalls Tryz.prog f vs h R) (hp:h.Perm h'):ACalls Tryz.prog f vs h' R:=
 ACalls.pre hf (fun k o hm=>hp.mem_iff.1 hm) (fun hn=>by unfold keys at hn ⊢;exact ((hp.map _).nodup_iff).2 hn)
theorem QCall.perm {f:FuncId} {vs:List AV} {h h2 h':Heap} {v:AV} (hf:QCall Tryz.prog f vs h v) (hp:(h++h2).Perm h'):QCall Tryz.prog f vs h' v:=by
 refine ACalls.post (ACalls.perm (ACalls.frame hf h2) hp) ?_
 rintro v' h1 ⟨h3,⟨rfl,rfl⟩,rfl⟩
 exact ⟨_,h',⟨rfl,rfl⟩,VLe.refl _,fun k o hm=>hp.mem_iff.2 hm,fun hn=>by unfold keys at hn ⊢;exact ((hp.map _).nodup_iff).1 hn⟩
theorem Turn.perm {r:Regs} {h h':Heap} (hp:h.Perm h'):Turn r h r h':=
 Turn.sub (fun k o hm=>hp.mem_iff.2 hm) (fun hn=>by unfold keys at hn ⊢;exact ((hp.map _).nodup_iff).1 hn)
end Go.Abs.Wall
namespace Go.Abs.Wall
open Go Go.Abs Go.Proofs
def wrdCmp (a b:Wrd):Int:=orI [cmpI a.uses.length b.uses.length,cmpI a.form.entry b.form.entry,cmpI a.form.ending b.form.ending,cmpL cmpI a.form.clitics b.form.clitics,cmpL useCmp a.uses b.uses]
structure WrdFit (w:Wrd):Prop where
 cl:w.form.clitics.length≤1048576
 us:w.uses.length≤1048576
end Go.Abs.Wall
namespace Go.Abs.Wall
open Go Go.Abs Go.Proofs
structure ValOK (v:Val):Prop where
 kind:1≤v.kind∧v.kind≤3
 text:1≤v.text.length∧v.text.length≤8
structure SgnOK (s:Sgn):Prop where
 few:s.values.length≤12
 each:∀ v∈s.values,ValOK v
structure LstOK (l:Lst):Prop where
 many:l.signs.length≤200
 each:∀ s∈l.signs,SgnOK s
theorem textOK_len {k:Int} {s:List UInt8} (h:textOK k s=true):1≤s.length∧s.length≤8:=by
 unfold textOK at h
 simp only [Bool.and_eq_true,decide_eq_true_eq] at h
 exact h.1
theorem valErr_ok {l:Lst} {b:List Val} {v:Val} (h:valErr l b v=0):ValOK v:=by
 unfold valErr at h
 split at h
 ·cases h
 ·rename_i h1
  simp only [not_or,Bool.not_eq_false] at h1
  have h2:=textOK_len h1.2.2
  refine ⟨by omega,h2⟩
theorem valsErr_ok {l:Lst} {vs:List Val}:∀ {t:List Val} {i:Nat},valsErr l vs t i=0→∀ v∈t,ValOK v
 | [],_,_,v,hv=>by cases hv
 | a::t,i,h,v,hv=>by
   unfold valsErr at h
   split at h
   ·rename_i h1;exact absurd h h1
   ·rename_i h1
    rcases List.mem_cons.1 hv with rfl|hv
    ·exact valErr_ok (by simpa using h1)
    ·exact valsErr_ok h v hv
theorem sgnErr_ok {l:Lst} {s:Sgn} (h:sgnErr l s=0):SgnOK s:=by
 unfold sgnErr at h
 split at h
 ·cases h
 split at h
 ·cases h
 ·rename_i h1 h2
  exact ⟨by omega,valsErr_ok h⟩
theorem lstGo_ok {l:Lst}:∀ {t:List Sgn} {seen:List (List UInt8)},lstGo l t seen=0→∀ s∈t,SgnOK s
 | [],_,_,s,hs=>by cases hs
 | a::t,seen,h,s,hs=>by
   unfold lstGo at h
   split at h
   ·cases h
   split at h
   ·rename_i h1;exact absurd h h1
   ·rename_i h1
    rcases List.mem_cons.1 hs with rfl|hs
    ·exact sgnErr_ok (by simpa using h1)
    ·exact lstGo_ok h s hs
theorem lstOK {l:Lst} (h:lstErr l=0):LstOK l:=by
 unfold lstErr at h
 split at h
 ·cases h
 split at h
 ·cases h
 ·exact ⟨by omega,lstGo_ok h⟩
theorem useOf_ok {v:Val} (h:ValOK v):∀ u∈useOf v,UseOK u:=by
 intro u hu
 have h1:=h.text
 unfold useOf at hu
 split at hu
 ·simp at hu
  rcases hu with rfl|rfl<;>exact ⟨by simp,by simp,h1.1,h1.2⟩
 split at hu
 ·simp at hu
  subst hu;exact ⟨by simp,by simp,h1.1,h1.2⟩
 split at hu
 ·simp at hu
  subst hu;exact ⟨by simp,by simp,h1.1,h1.2⟩
 ·cases hu
theorem useGo_mem {p:Int}:∀ {l:List Val} {u:Use},u∈useGo p l→∃ v∈l,u∈useOf v
 | [],u,h=>by cases h
 | v::t,u,h=>by
   unfold useGo at h
   rcases List.mem_append.1 h with h|h
   ·split at h
    ·exact ⟨v,by simp,h⟩
    ·cases h
   ·obtain ⟨w,hw,hu⟩:=useGo_mem h
    exact ⟨w,by simp [hw],hu⟩
theorem usesM_ok {p:Int} {s:Sgn} (h:SgnOK s):(usesM p s).length≤24∧∀ u∈usesM p s,UseOK u:=by
 refine ⟨?_,fun u hu=>?_⟩
 ·unfold usesM sortU
  rw [sortL_length]
  have:=useGo_len p s.values
  have:=h.few
  omega
 ·unfold usesM sortU at hu
  rw [sortL_mem] at hu
  obtain ⟨v,hv,hu⟩:=useGo_mem hu
  exact useOf_ok (h.each v hv) u hu
def sgnAt (H:Hou) (n:Int):Sgn:=H.list.signs.getD n.toNat ⟨[],0,0,false,[]⟩
def usesAt (H:Hou) (n:Int):List Use:=usesM H.period (sgnAt H n)
def bodyM (x:Lex) (e n:Int):List UInt8:=if n<0 then (entAt x e).root else (entAt x e).root++(ednAt x n).text
def envAt (H:Hou) (at_:Nat) (e n:Int):Env:=⟨H,⟨H,entAt H.lex e,bodyM H.lex e n⟩,at_,e,n⟩
theorem sgnAt_get {H:Hou} {n:Int} (h0:0≤n) (h1:n<H.list.signs.length):H.list.signs[n.toNat]?=some (sgnAt H n):=by
 have:n.toNat<H.list.signs.length:=by omega
 unfold sgnAt
 simp [List.getElem?_eq_getElem this]
structure EdgAt (H:Hou) (at_:Int) (e:Edg):Prop where
 frm:e.frm=at_
 to:e.to=at_+e.word.uses.length
 cost:e.cost=priceM H e.word
 few:e.word.uses.length≤12
 cl:e.word.form.clitics.length≤3
 some:1≤e.word.uses.length
theorem spAt {H:Hou} (hH:HouOK H) {at_:Nat} {e n:Int} (h0:0≤e) (h1:e<H.lex.entries.length) (hn:n<H.lex.endings.length):SpOK (envAt H at_ e n).s:=by
 have hr:=sndOK_len (hH.lex.entAt h0 h1).root
 refine ⟨hH.lex,?_,?_⟩
 ·show 1≤(bodyM H.lex e n).length∧(bodyM H.lex e n).length≤12
  unfold bodyM
  split
  ·omega
  ·have ht:=sndOK_len (hH.lex.ednAt (by omega) hn).text
   rw [List.length_append];omega
 ·show (entAt H.lex e).root.length≤(bodyM H.lex e n).length
  unfold bodyM
  split
  ·omega
  ·rw [List.length_append];omega
end Go.Abs.Wall
namespace Go.Abs.Wall
open Go Go.Abs Go.Proofs
theorem ACalls.cells {f:FuncId} {vs:List AV} {h h':Heap} {b:Nat} {xs ys:List AV} {R:AV→Heap→Prop} (hf:ACalls Tryz.prog f vs h' R) (hu:Upd b (.vec xs) b (.vec ys) h h') (hv:VsLe xs ys):ACalls Tryz.prog f vs h R:=by
 have hkeys:keys h'=keys h:=by
  clear hf
  induction hu with
  | here l=>rfl
  | there _ ih=>simp only [keys,List.map_cons] at ih ⊢;rw [ih]
 have hget:∀ k o',(k,o')∈h'→(k,o')∈h∨(k=b∧o'=.vec ys∧(b,Ob.vec xs)∈h):=by
  clear hf hkeys
  induction hu with
  | here l=>intro k o' hm;cases List.mem_cons.1 hm with
    | inl e=>cases e;exact .inr ⟨rfl,rfl,by simp⟩
    | inr e=>exact .inl (by simp [e])
  | there _ ih=>intro k o' hm;cases List.mem_cons.1 hm with
    | inl e=>subst e;exact .inl (by simp)
    | inr e=>
      rcases ih k o' e with h1|⟨h1,h2,h3⟩
      ·exact .inl (by simp [h1])
      ·exact .inr ⟨h1,h2,by simp [h3]⟩
 have hlen:∀ {xs ys:List AV},VsLe xs ys→xs.length=ys.length∧∀ (i:Nat) y,ys[i]?=some y→∃ x,xs[i]?=some x∧VLe x y:=by
  intro xs ys hv
  induction hv with
  | nil=>exact ⟨rfl,fun i y h=>by cases h⟩
  | cons h1 _ ih=>
    refine ⟨by simp [ih.1],fun i y hi=>?_⟩
    cases i with
    | zero=>cases hi;exact ⟨_,rfl,h1⟩
    | succ i=>exact ih.2 i y (by simpa using hi)
 refine ⟨fun X g w us hc hr=>?_⟩
 obtain ⟨c2,s2⟩:=hc.objs hkeys (fun k o' hm=>by
  rcases hget k o' hm with h1|⟨rfl,rfl,h2⟩
  ·exact hc.obj k o' h1
  ·obtain ⟨p,cc,t,q1,q2,q3,q4,q5,q6⟩:=hc.obj k (.vec xs) h2
   obtain ⟨l,hg⟩:=hlen hv
   refine ⟨p,cc,t,q1,q2,q3,q4,by rw [← l];exact q5,fun i y hy=>?_⟩
   obtain ⟨x,hx,hxy⟩:=hg i y hy
   obtain ⟨u,u1,u2,u3⟩:=q6 i x hx
   exact ⟨u,u1,u2,hxy _ _ u3⟩)
 refine (hf.1 X g w us c2 (RepVs.mono (Step.le s2) _ _ hr)).mono fun e w' he=>?_
 obtain ⟨v,u,g',h1,rfl,hR,hc1,hu,hs⟩:=he
 exact ⟨v,u,g',h1,rfl,hR,hc1,hu,s2.trans hc.own hs⟩
theorem Turn.sublist {r:Regs} {h h':Heap} (hs:h'.Sublist h):Turn r h r h':=
 Turn.sub (fun k o hm=>hs.subset hm) (fun hn=>by unfold keys at hn ⊢;exact hn.sublist (hs.map _))
def encRows (A:List (List Use)):List (List AV):=A.map encUses
end Go.Abs.Wall
