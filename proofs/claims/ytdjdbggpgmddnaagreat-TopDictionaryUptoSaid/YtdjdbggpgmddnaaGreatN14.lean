/- Small laws for the walks and contracts of functions; each theorem names its conditions. -/
import Derived.Test.YtdjdbggpgmddnaaGreatN13
import Derived.Test.YtdjdbggpgmddnaaGreatN12
set_option maxRecDepth 100000
set_option maxHeartbeats 2000000
set_option linter.unusedVariables false
set_option linter.unusedSimpArgs false
namespace Go.Abs.Wall
open Go Go.Abs Go.Proofs
abbrev WKey:=Int × Int × Int × List Int × List Use
def keyW (w:Wrd):WKey:=(w.uses.length,w.form.entry,w.form.ending,w.form.clitics,w.uses)
def wrdCmp (a b:Wrd):Int:=orI [cmpI a.uses.length b.uses.length,cmpI a.form.entry b.form.entry,cmpI a.form.ending b.form.ending,cmpL cmpI a.form.clitics b.form.clitics,cmpL useCmp a.uses b.uses]
theorem zW:OrdZ wrdCmp:=by
 have h:=(OrdZ.lexC zI (OrdZ.lexC zI (OrdZ.lexC zI (OrdZ.lexC zI.cmpL zU.cmpL)))).of keyW (fun a b h=>by
  obtain ⟨⟨a1,a2,a3⟩,a4⟩:=a;obtain ⟨⟨b1,b2,b3⟩,b4⟩:=b;unfold keyW at h;simp at h;simp [h])
 have he:wrdCmp=fun a b=>lexC cmpI (lexC cmpI (lexC cmpI (lexC (cmpL cmpI) (cmpL useCmp)))) (keyW a) (keyW b):=by
  funext a b;have h1:∀ x:Int,orI [x]=x:=fun x=>by simp only [orI];split<;>omega
  simp only [wrdCmp,lexC,keyW];rw [orI,orI,orI,orI2];rfl
 rw [he];exact h
def edgCmp (a b:Edg):Int:=wrdCmp a.word b.word
theorem edgW:OrdW edgCmp:=⟨fun x=>zW.c.irr _,fun x y z=>zW.c.tr _ _ _,fun x y z=>zW.c.nt _ _ _⟩
def sortE (L:List Edg):List Edg:=sortL edgCmp L
def c145:Cfg:=⟨[0,1,4,5,6,7,8,9,10,11,12,19,28,35],[],[],[],[],[]⟩
def c146:Cfg:=⟨[0,1,2,6,7,8,9,10,11,12,13,14,21,31,38],[],[8,9],[],[],[]⟩
def c127:Cfg:=⟨[0,1,2,3,4],[],[],[],[(1,[0,1,2,3,4,5,6,7,8,9,10,11,12,13,14,15,16,17,18,19,20,21,22,23,24,25,26,27,28,29,30,31,32,33,34,35],[])],[]⟩
def c126:Cfg:=⟨[0,1,2,3,4],[],[],[],[],[]⟩
theorem compareIs (a b:List Int) (ha:a.length<=LMAX) (hb:b.length<=LMAX):QCall Tryz.prog 145 [.sl 1 none (ints a),.sl 1 none (ints b)] [] (.int .i64 (cmpL cmpI a b)):=by
 unfold LMAX at ha hb;refine fcalls (F:=Tryz.f145) c145 rfl rfl rfl mixed rfl fun X=>?_;(conv=>whnf);refine sloop rfl mixed [0,1,9,10,11] [] (fun m r h=>∃ (i:Nat),r=[(0,[],.sl 1 none (ints a)),(1,[],.sl 1 none (ints b)),(9,[],.sl 1 none (ints a)),(10,[],.int .i64 (ints a).length),(11,[],.int .i64 i)]/\h=[]/\m=a.length - i/\i<=a.length/\i<=b.length/\cmpL cmpI a b=cmpL cmpI (a.drop i) (b.drop i)) ?_ ?_
 ·(conv=>whnf);exact ⟨_,0,rfl,rfl,rfl,by omega,by omega,rfl⟩
 rintro m r h ⟨i,rfl,rfl,rfl,hi,hj,hg⟩;(conv=>whnf);refine ⟨fun hi2=>?_,fun hi2=>?_⟩<;>simp at hi2
 ·obtain ⟨x,hx⟩:=get_lt hi2;(conv=>whnf);repeat (refine ix (by assumption) ?_;conv=>whnf)
  refine ⟨fun hq=>?_,fun hq=>?_⟩<;>simp at hq
  ·rw [drop_cons hx,drop_nil hq,cmpL] at hg;(conv=>whnf);exact ⟨by rw [hg],rfl⟩
  obtain ⟨y,hy⟩:=get_lt hq;rw [drop_cons hx,drop_cons hy,cmpL] at hg;(conv=>whnf);repeat ((first|refine ix (by assumption) ?_|refine QCall.k0 (compareI _ _) ?_);conv=>whnf)
  refine ⟨fun hc=>?_,fun hc=>?_⟩<;>simp at hc
  ·rw [if_pos hc] at hg;(conv=>whnf);exact ⟨by rw [hg],rfl⟩
  rw [if_neg (by simpa using hc)] at hg;(conv=>whnf);repeat (refine ⟨gP_of ⟨by omega,by omega⟩,?_⟩;conv=>whnf)
  exact ⟨_,by omega,i+1,rfl,rfl,rfl,by omega,by omega,hg⟩
 (conv=>whnf);skip;refine ⟨fun hq=>?_,fun hq=>?_⟩<;>simp at hq
 ·obtain ⟨y,hy⟩:=get_lt (show i<b.length by omega);rw [drop_nil hi2,drop_cons hy,cmpL] at hg;(conv=>whnf);exact ⟨by rw [hg],rfl⟩
 rw [drop_nil hi2,drop_nil (by omega),cmpL] at hg;(conv=>whnf);exact ⟨by rw [hg],rfl⟩
theorem compareUs (a b:List Use) (ha:a.length<=LMAX) (hb:b.length<=LMAX):QCall Tryz.prog 146 [.sl 2 none (a.map encUse),.sl 2 none (b.map encUse),.fn 139 []] [] (.int .i64 (cmpL useCmp a b)):=by
 unfold LMAX at ha hb;refine fcalls (F:=Tryz.f146) c146 rfl rfl rfl mixed rfl fun X=>?_;(conv=>whnf);refine sloop rfl mixed [0,1,2,11,12,13] [] (fun m r h=>∃ (i:Nat),r=[(0,[],.sl 2 none (a.map encUse)),(1,[],.sl 2 none (b.map encUse)),(2,[],.fn 139 []),(11,[],.sl 2 none (a.map encUse)),(12,[],.int .i64 (a.map encUse).length),(13,[],.int .i64 i)]/\h=[]/\m=a.length - i/\i<=a.length/\i<=b.length/\cmpL useCmp a b=cmpL useCmp (a.drop i) (b.drop i)) ?_ ?_
 ·(conv=>whnf);exact ⟨_,0,rfl,rfl,rfl,by omega,by omega,rfl⟩
 rintro m r h ⟨i,rfl,rfl,rfl,hi,hj,hg⟩;(conv=>whnf);refine ⟨fun hi2=>?_,fun hi2=>?_⟩<;>simp at hi2
 ·obtain ⟨x,hx⟩:=get_lt hi2;(conv=>whnf);repeat ((first|refine ix (by assumption) ?_|refine ⟨_,_,Rem.here _,⟨Nat.le_of_ble_eq_true rfl,rfl⟩,?_⟩|intro (nb:Nat));conv=>whnf)
  refine ⟨fun hq=>?_,fun hq=>?_⟩<;>simp at hq
  ·rw [drop_cons hx,drop_nil hq,cmpL] at hg;(conv=>whnf);exact ⟨by rw [hg],rfl⟩
  obtain ⟨y,hy⟩:=get_lt hq;rw [drop_cons hx,drop_cons hy,cmpL] at hg;(conv=>whnf);repeat ((first|refine ix (by assumption) ?_|refine QCall.k0 (compareUses _ _) ?_|refine ⟨_,_,Rem.here _,⟨Nat.le_of_ble_eq_true rfl,rfl⟩,?_⟩|intro (nb:Nat));conv=>whnf)
  refine ⟨fun hc=>?_,fun hc=>?_⟩<;>simp at hc
  ·rw [if_pos hc] at hg;(conv=>whnf);exact ⟨by rw [hg],rfl⟩
  rw [if_neg (by simpa using hc)] at hg;(conv=>whnf);repeat (refine ⟨gP_of ⟨by omega,by omega⟩,?_⟩;conv=>whnf)
  exact ⟨_,by omega,i+1,rfl,rfl,rfl,by omega,by omega,hg⟩
 (conv=>whnf);skip;refine ⟨fun hq=>?_,fun hq=>?_⟩<;>simp at hq
 ·obtain ⟨y,hy⟩:=get_lt (show i<b.length by omega);rw [drop_nil hi2,drop_cons hy,cmpL] at hg;(conv=>whnf);exact ⟨by rw [hg],rfl⟩
 rw [drop_nil hi2,drop_nil (by omega),cmpL] at hg;(conv=>whnf);exact ⟨by rw [hg],rfl⟩
structure WrdFit (w:Wrd):Prop where
 cl:w.form.clitics.length<=1048576
 us:w.uses.length<=1048576
theorem compareWs (a b:Wrd) (ha:WrdFit a) (hb:WrdFit b):QCall Tryz.prog 127 [.agg (encWrd a),.agg (encWrd b)] [] (.int .i64 (wrdCmp a b)):=by
 have h1:=ha.cl;have h2:=ha.us;have h3:=hb.cl;have h4:=hb.us;refine fcalls (F:=Tryz.f127) c127 rfl rfl rfl mixed rfl fun X=>?_;(conv=>whnf);repeat ((first|refine gcall (compareI _ _) ?_|refine gcall (compareIs a.form.clitics b.form.clitics (by unfold LMAX;omega) (by unfold LMAX;omega)) ?_|refine gcall (compareUs a.uses b.uses (by unfold LMAX;omega) (by unfold LMAX;omega)) ?_|refine gcall (orW [cmpI (a.uses.map encUse).length (b.uses.map encUse).length,cmpI a.form.entry b.form.entry,cmpI a.form.ending b.form.ending,cmpL cmpI a.form.clitics b.form.clitics,cmpL useCmp a.uses b.uses] (by simp [LMAX])) ?_|refine And.intro (by show drawOK (opsAt Tryz.f127 _) _=true;decide +kernel) ?_);conv=>whnf)
 refine ⟨?_,rfl⟩;rw [List.length_map,List.length_map];rfl
theorem compareEs (a b:Edg) (ha:WrdFit a.word) (hb:WrdFit b.word):QCall Tryz.prog 126 [.agg (encEdg a),.agg (encEdg b)] [] (.int .i64 (edgCmp a b)):=by
 refine fcalls (F:=Tryz.f126) c126 rfl rfl rfl mixed rfl fun X=>?_;(conv=>whnf);repeat (refine QCall.k0 (compareWs a.word b.word ha hb) ?_;conv=>whnf)
 exact ⟨rfl,rfl⟩
def decInts (l:List (List AV)):List Int:=l.map fun x=>match x with
 | [.int _ n]=>n
 | _=>0
theorem decInts_enc (l:List Int):decInts (ints l)=l:=by unfold decInts ints;rw [List.map_map];exact (List.map_congr_left fun a _=>rfl).trans (List.map_id _)
def decEdg:List AV->Edg
 | [.int _ a,.int _ b,.int _ c,.int _ e,.int _ n,.sl _ _ cl,.sl _ _ us]=>⟨a,b,c,⟨⟨e,n,decInts cl⟩,us.map decUse⟩⟩
 | _=>⟨0,0,0,⟨⟨0,0,[]⟩,[]⟩⟩
theorem decEdg_enc (e:Edg):decEdg (encEdg e)=e:=by obtain ⟨a,b,c,⟨⟨f,n,cl⟩,us⟩⟩:=e;show Edg.mk a b c ⟨⟨f,n,decInts (ints cl)⟩,(us.map encUse).map decUse⟩=_;rw [decInts_enc,List.map_map,show us.map (decUse ∘ encUse)=us from (List.map_congr_left fun a _=>rfl).trans (List.map_id _)]
theorem sortLawE:SortLaw Tryz.prog 125 126 7:=
 sortLaw Tryz.sortEdge 7 126 Tryz.isAgg165 Tryz.sizeOf165 (fun args w=>run_call ⟨Tryz.f126,_,rfl,rfl,rfl⟩)
def c125:Cfg:=⟨[0,1,4],[],[],[],[],[]⟩
def c143:Cfg:=⟨[0,1,2,3,4,10,11,12,13,14,15,16,17,18,19,20,25,32,39,56,75,80,97,125],[],[],[],[(17,[0,1,2,3,4,5,6,7,8,9,10,11,12,13,14,15,16],[])],[]⟩
def c157:Cfg:=⟨[0,1,2,3,8,9,14,34],[],[],[],[(4,[0,1,2,3,4,5,6,7,8,9,10,11,12,13,14,15,16],[]),(6,[0,1,2,3,4,5,6,7,8,9,10,11,12,13,14,15,16,17],[])],[]⟩
theorem insNilE (c:FuncId):QCall Tryz.prog 157 [.nilS,.int .i64 0,.int .i64 0,.fn c []] [] (.tup []):=by
 refine fcalls (F:=Tryz.f157) c157 rfl rfl rfl mixed rfl fun X=>?_;(conv=>whnf);repeat (refine ⟨gP_of ⟨by omega,by omega⟩,?_⟩;conv=>whnf)
 refine sloop rfl mixed [0,1,2,3,8] [] (fun m r h=>r=[(0,[],.nilS),(1,[],.int .i64 0),(2,[],.int .i64 0),(3,[],.fn c []),(8,[],.int .i64 1)]/\h=[]/\m=0/\True) ?_ ?_
 ·(conv=>whnf);exact ⟨_,rfl,rfl,rfl,trivial⟩
 rintro m r h ⟨rfl,rfl,rfl,_⟩;(conv=>whnf);refine cF rfl ?_;(conv=>whnf);exact ⟨rfl,rfl⟩
theorem pdqNilE (c:FuncId):QCall Tryz.prog 143 [.nilS,.int .i64 0,.int .i64 0,.int .i64 0,.fn c []] [] (.tup []):=by
 refine fcalls (F:=Tryz.f143) c143 rfl rfl rfl mixed rfl fun X=>?_;(conv=>whnf);skip;refine sloop rfl mixed [0,1,2,3,4,10,11] [] (fun m r h=>r=[(0,[],.nilS),(1,[],.int .i64 0),(2,[],.int .i64 0),(3,[],.int .i64 0),(4,[],.fn c []),(10,[],.bool true),(11,[],.bool true)]/\h=[]/\m=0/\True) ?_ ?_
 ·(conv=>whnf);exact ⟨_,rfl,rfl,rfl,trivial⟩
 rintro m r h ⟨rfl,rfl,rfl,_⟩;(conv=>whnf);repeat (refine ⟨gP_of ⟨by omega,by omega⟩,?_⟩;conv=>whnf)
 refine cT rfl ?_;(conv=>whnf);repeat (refine QCall.k0 (insNilE c) ?_;conv=>whnf)
 exact ⟨rfl,rfl⟩
theorem sortNilE (c:FuncId):QCall Tryz.prog 125 [.nilO,.fn c []] [] (.tup []):=by
 refine QCall.args (args':=[.nilS,.fn c []]) ?_ (.cons (by intro c u h;simpa [Rep] using h) (.cons (VLe.refl _) .nil));refine fcalls (F:=Tryz.f125) c125 rfl rfl rfl mixed rfl fun X=>?_;(conv=>whnf);repeat ((first|refine QCall.k0 (bitsLen) ?_|refine QCall.k0 (pdqNilE c) ?_);conv=>whnf)
 exact ⟨rfl,rfl⟩
theorem sortOwnE (b:Nat) (xs:List Edg) (hne:xs≠[]) (hlx:xs.length<=4294967296) (hf:∀ x∈xs,WrdFit x.word) (ha:∀ x∈xs,∀ y∈xs,x.word=y.word->x=y) :
  ACalls Tryz.prog 125 [.osl b 0 xs.length 7,.fn 126 []] [(b,.vec (xs.map encEdg).flatten)] (fun v h'=>v=.tup []/\h'=[(b,.vec ((sortE xs).map encEdg).flatten)]):=
 sortF_encW (by decide) ⟨Tryz.f125,_,rfl,rfl,rfl⟩ ⟨Tryz.f126,_,rfl,rfl,rfl⟩ sortLawE edgCmp (dec:=decEdg) decEdg_enc (fun a=>rfl) edgW xs (fun x hx y hy h1 h2=>ha x hx y hy (zW.c.anti _ _ h1 h2)) hne hlx (fun x hx y hy=>compareEs x y (hf x hx) (hf y hy)) b
end Go.Abs.Wall
namespace Go.Abs.Wall
open Go Go.Abs Go.Proofs
structure ValOK (v:Val):Prop where
 kind:1<=v.kind/\v.kind<=3
 text:1<=v.text.length/\v.text.length<=8
structure SgnOK (s:Sgn):Prop where
 few:s.values.length<=12
 each:∀ v∈s.values,ValOK v
structure LstOK (l:Lst):Prop where
 many:l.signs.length<=200
 each:∀ s∈l.signs,SgnOK s
theorem textOK_len {k:Int} {s:List UInt8} (h:textOK k s=true):1<=s.length/\s.length<=8:=by unfold textOK at h;simp only [Bool.and_eq_true,decide_eq_true_eq] at h;exact h.1
theorem valErr_ok {l:Lst} {b:List Val} {v:Val} (h:valErr l b v=0):ValOK v:=by
 unfold valErr at h;split at h
 ·cases h
 rename_i h1;simp only [not_or,Bool.not_eq_false] at h1;have h2:=textOK_len h1.2.2;refine ⟨by omega,h2⟩
theorem valsErr_ok {l:Lst} {vs:List Val}:∀ {t:List Val} {i:Nat},valsErr l vs t i=0->∀ v∈t,ValOK v
 | [],_,_,v,hv=>by cases hv
 | a::t,i,h,v,hv=>by
   unfold valsErr at h;split at h
   ·rename_i h1;exact absurd h h1
   rename_i h1;rcases List.mem_cons.1 hv with rfl|hv
   ·exact valErr_ok (by simpa using h1)
   exact valsErr_ok h v hv
theorem sgnErr_ok {l:Lst} {s:Sgn} (h:sgnErr l s=0):SgnOK s:=by
 unfold sgnErr at h;split at h
 ·cases h
 split at h
 ·cases h
 rename_i h1 h2;exact ⟨by omega,valsErr_ok h⟩
theorem lstGo_ok {l:Lst}:∀ {t:List Sgn} {seen:List (List UInt8)},lstGo l t seen=0->∀ s∈t,SgnOK s
 | [],_,_,s,hs=>by cases hs
 | a::t,seen,h,s,hs=>by
   unfold lstGo at h;split at h
   ·cases h
   split at h
   ·rename_i h1;exact absurd h h1
   rename_i h1;rcases List.mem_cons.1 hs with rfl|hs
   ·exact sgnErr_ok (by simpa using h1)
   exact lstGo_ok h s hs
theorem lstOK {l:Lst} (h:lstErr l=0):LstOK l:=by
 unfold lstErr at h;split at h
 ·cases h
 split at h
 ·cases h
 exact ⟨by omega,lstGo_ok h⟩
theorem useOf_ok {v:Val} (h:ValOK v):∀ u∈useOf v,UseOK u:=by
 intro u hu;have h1:=h.text;unfold useOf at hu;split at hu
 ·simp at hu;rcases hu with rfl|rfl<;>exact ⟨by simp,by simp,h1.1,h1.2⟩
 split at hu
 ·simp at hu;subst hu;exact ⟨by simp,by simp,h1.1,h1.2⟩
 split at hu
 ·simp at hu;subst hu;exact ⟨by simp,by simp,h1.1,h1.2⟩
 cases hu
theorem useGo_mem {p:Int}:∀ {l:List Val} {u:Use},u∈useGo p l->∃ v∈l,u∈useOf v
 | [],u,h=>by cases h
 | v::t,u,h=>by
   unfold useGo at h;rcases List.mem_append.1 h with h|h
   ·split at h
    ·exact ⟨v,by simp,h⟩
    cases h
   obtain ⟨w,hw,hu⟩:=useGo_mem h;exact ⟨w,by simp [hw],hu⟩
theorem usesM_ok {p:Int} {s:Sgn} (h:SgnOK s):(usesM p s).length<=24/\∀ u∈usesM p s,UseOK u:=by
 refine ⟨?_,fun u hu=>?_⟩
 ·unfold usesM sortU;rw [sortL_length];have:=useGo_len p s.values;have:=h.few;omega
 unfold usesM sortU at hu;rw [sortL_mem] at hu;obtain ⟨v,hv,hu⟩:=useGo_mem hu;exact useOf_ok (h.each v hv) u hu
def sgnAt (H:Hou) (n:Int):Sgn:=H.list.signs.getD n.toNat ⟨[],0,0,false,[]⟩
def usesAt (H:Hou) (n:Int):List Use:=usesM H.period (sgnAt H n)
def allAt (H:Hou) (line:List Int) (at_:Nat):List (List Use):=((line.drop at_).take 12).map (usesAt H)
def bodyM (x:Lex) (e n:Int):List UInt8:=if n<0 then (entAt x e).root else (entAt x e).root++(ednAt x n).text
def envAt (H:Hou) (at_:Nat) (e n:Int):Env:=⟨H,⟨H,entAt H.lex e,bodyM H.lex e n⟩,at_,e,n⟩
def skipE (x:Lex) (e n:Int):Bool:=decide (0<=n)&&!decide ((ednAt x n).kind=(entAt x e).kind)
def wordsOf (H:Hou) (All:List (List Use)) (at_:Nat) (e:Nat) (k:Nat):List Edg:=if skipE H.lex e ((k:Int) - 1)=true then [] else wordsF (envAt H at_ e ((k:Int) - 1)) All prg0 []
def wordsEnt (H:Hou) (All:List (List Use)) (at_:Nat) (e:Nat):List Edg:=(List.range (H.lex.endings.length+1)).flatMap (wordsOf H All at_ e)
def wordsAll (H:Hou) (All:List (List Use)) (at_:Nat):List Edg:=(List.range H.lex.entries.length).flatMap (wordsEnt H All at_)
def wordsM (H:Hou) (line:List Int) (at_ most:Nat):List Edg:=sortE ((wordsAll H (allAt H line at_) at_).take (most+1))
theorem sgnAt_get {H:Hou} {n:Int} (h0:0<=n) (h1:n<H.list.signs.length):H.list.signs[n.toNat]?=some (sgnAt H n):=by have:n.toNat<H.list.signs.length:=(by omega);unfold sgnAt;simp [List.getElem?_eq_getElem this]
def c118:Cfg:=⟨[0,1,2,3,6,8],[],[],[],[(3,[0,1,2,3,4,5,6,7,8,9,10,11,12,13],[])],[]⟩
theorem bodyA (x:Lex) (e n:Int) (hx:LexOK x) (h0:0<=e) (h1:e<x.entries.length) (hn:n<x.endings.length):QCall Tryz.prog 118 [.agg (encLex x),.int .i64 e,.int .i64 n] [] (.str (bodyM x e n)):=by
 have hr:=sndOK_len (hx.entAt h0 h1).root;refine fcalls (F:=Tryz.f118) c118 rfl rfl rfl mixed rfl fun X=>?_;(conv=>whnf);refine ⟨fun hc=>?_,fun hc=>?_⟩<;>simp at hc
 ·(conv=>whnf);repeat ((refine ixn e.toNat (by omega) (entAt_get h0 h1) ?_);conv=>whnf)
  exact ⟨by rw [bodyM,if_pos hc],rfl⟩
 have ht:=sndOK_len (hx.ednAt hc hn).text;(conv=>whnf);repeat ((first|(refine ixn e.toNat (by omega) (entAt_get h0 h1) ?_)|(refine ixn n.toNat (by omega) (ednAt_get hc hn) ?_)|(refine ⟨gP_of (by rw [List.length_append];unfold LMAX;omega),?_⟩)|refine And.intro (by show drawOK (opsAt Tryz.f118 _) _=true;decide +kernel) ?_);conv=>whnf)
 exact ⟨by rw [bodyM,if_neg (by omega)],rfl⟩
theorem headW_nil (E:Env) (p:Prg):headW E p []=[]:=rfl
structure EdgAt (H:Hou) (at_:Int) (e:Edg):Prop where
 frm:e.frm=at_
 to:e.to=at_+e.word.uses.length
 cost:e.cost=priceM H e.word
 few:e.word.uses.length<=12
 cl:e.word.form.clitics.length<=3
 some:1<=e.word.uses.length
theorem wordsR_at {E:Env} (hs:SpOK E.s):∀ (rest:List (List Use)) (p:Prg) (T:List Use),PrgOK E.s p->(∀ us∈rest,∀ u∈us,UseOK u)->T.length+rest.length<=12->∀ e∈wordsR E rest p T,EdgAt E.H E.at_ e
 | [],_,_,_,_,_,e,he=>by cases he
 | us::r,p,T,hp,hu,hl,e,he=>by
   unfold wordsR at he;rw [List.mem_flatMap] at he;obtain ⟨u,hum,he⟩:=he;rw [List.mem_flatMap] at he;obtain ⟨q,hq,he⟩:=he;have hqo:=nextM_ok hs hp (hu us (by simp) u hum) q hq;rw [List.length_cons] at hl;rcases List.mem_append.1 he with he|he
   ·unfold headW at he;split at he
    ·cases List.mem_singleton.1 he
     exact ⟨rfl,rfl,rfl,by show (T++[u]).length<=12;rw [List.length_append,List.length_singleton];omega,hqo.few,by show 1<=(T++[u]).length;simp⟩
    cases he
   exact wordsR_at hs r q (T++[u]) hqo (fun us' h'=>hu us' (by simp [h'])) (by rw [List.length_append,List.length_singleton];omega) e he
theorem spAt {H:Hou} (hH:HouOK H) {at_:Nat} {e n:Int} (h0:0<=e) (h1:e<H.lex.entries.length) (hn:n<H.lex.endings.length):SpOK (envAt H at_ e n).s:=by
 have hr:=sndOK_len (hH.lex.entAt h0 h1).root;refine ⟨hH.lex,?_,?_⟩
 ·show 1<=(bodyM H.lex e n).length/\(bodyM H.lex e n).length<=12;unfold bodyM;split
  ·omega
  have ht:=sndOK_len (hH.lex.ednAt (by omega) hn).text;rw [List.length_append];omega
 show (entAt H.lex e).root.length<=(bodyM H.lex e n).length;unfold bodyM;split
 ·omega
 rw [List.length_append];omega
theorem allAt_ok {H:Hou} (hH:HouOK H) {line:List Int} {at_:Nat} (hl:∀ s∈line,0<=s/\s<H.list.signs.length):(allAt H line at_).length<=12/\∀ us∈allAt H line at_,us.length<=1048576/\∀ u∈us,UseOK u:=by refine ⟨by unfold allAt;simp;omega,fun us hus=>?_⟩;unfold allAt at hus;obtain ⟨s,hs,rfl⟩:=List.mem_map.1 hus;have hs2:=hl s (List.mem_of_mem_drop (List.mem_of_mem_take hs));have hok:=(lstOK hH.lst).each _ (List.mem_of_getElem? (sgnAt_get hs2.1 hs2.2));have:=usesM_ok (p:=H.period) hok;exact ⟨by unfold usesAt;omega,this.2⟩
theorem wordsAll_at {H:Hou} (hH:HouOK H) {All:List (List Use)} (hf:All.length<=12) (hu:∀ us∈All,us.length<=1048576/\∀ u∈us,UseOK u) {at_:Nat}:∀ e∈wordsAll H All at_,EdgAt H at_ e:=by
 intro e he;unfold wordsAll at he;rw [List.mem_flatMap] at he;obtain ⟨i,hi,he⟩:=he;unfold wordsEnt at he;rw [List.mem_flatMap] at he;obtain ⟨k,hk,he⟩:=he;rw [List.mem_range] at hi hk;unfold wordsOf at he;split at he
 ·cases he
 unfold wordsF at he;rw [headW_nil,List.nil_append] at he;exact wordsR_at (E:=envAt H at_ i ((k:Int) - 1)) (spAt hH (by omega) (by omega) (by omega)) All prg0 [] (prg0_ok _) (fun us h=>(hu us h).2) (by simp;omega) e he
theorem edgAt_eq {H:Hou} {at_:Int} {a b:Edg} (ha:EdgAt H at_ a) (hb:EdgAt H at_ b) (h:a.word=b.word):a=b:=by obtain ⟨f,t,c,w⟩:=a;obtain ⟨f',t',c',w'⟩:=b;have h:w=w':=h;subst h;have h1:=ha.frm;have h2:=ha.to;have h3:=ha.cost;have h4:=hb.frm;have h5:=hb.to;have h6:=hb.cost;simp only at h1 h2 h3 h4 h5 h6;rw [h1,h2,h3,h4,h5,h6]
theorem take_app1 {α:Type} {A C:List α} {m:Nat}:(A.take m++C).take m=(A++C).take m:=by have:=take_app (A:=A) (B:=[]) (C:=C) (m:=m);simpa using this
end Go.Abs.Wall
namespace Go.Abs.Wall
open Go Go.Abs Go.Proofs
theorem ACalls.cells {f:FuncId} {vs:List AV} {h h':Heap} {b:Nat} {xs ys:List AV} {R:AV->Heap->Prop} (hf:ACalls Tryz.prog f vs h' R) (hu:Upd b (.vec xs) b (.vec ys) h h') (hv:VsLe xs ys):ACalls Tryz.prog f vs h R:=by
 have hkeys:keys h'=keys h:=by
  clear hf;induction hu with
  | here l=>rfl
  | there _ ih=>simp only [keys,List.map_cons] at ih ⊢;rw [ih]
 have hget:∀ k o',(k,o')∈h'->(k,o')∈h\/(k=b/\o'=.vec ys/\(b,Ob.vec xs)∈h):=by
  clear hf hkeys;induction hu with
  | here l=>intro k o' hm;cases List.mem_cons.1 hm with
    | inl e=>cases e;exact .inr ⟨rfl,rfl,by simp⟩
    | inr e=>exact .inl (by simp [e])
  | there _ ih=>intro k o' hm;cases List.mem_cons.1 hm with
    | inl e=>subst e;exact .inl (by simp)
    | inr e=>
      rcases ih k o' e with h1|⟨h1,h2,h3⟩
      ·exact .inl (by simp [h1])
      exact .inr ⟨h1,h2,by simp [h3]⟩
 have hlen:∀ {xs ys:List AV},VsLe xs ys->xs.length=ys.length/\∀ (i:Nat) y,ys[i]?=some y->∃ x,xs[i]?=some x/\VLe x y:=by
  intro xs ys hv;induction hv with
  | nil=>exact ⟨rfl,fun i y h=>by cases h⟩
  | cons h1 _ ih=>
    refine ⟨by simp [ih.1],fun i y hi=>?_⟩;cases i with
    | zero=>cases hi;exact ⟨_,rfl,h1⟩
    | succ i=>exact ih.2 i y (by simpa using hi)
 refine ⟨fun X g w us hc hr=>?_⟩
 obtain ⟨c2,s2⟩:=hc.objs hkeys (fun k o' hm=>by
  rcases hget k o' hm with h1|⟨rfl,rfl,h2⟩
  ·exact hc.obj k o' h1
  obtain ⟨p,cc,t,q1,q2,q3,q4,q5,q6⟩:=hc.obj k (.vec xs) h2;obtain ⟨l,hg⟩:=hlen hv;refine ⟨p,cc,t,q1,q2,q3,q4,by rw [<- l];exact q5,fun i y hy=>?_⟩;obtain ⟨x,hx,hxy⟩:=hg i y hy;obtain ⟨u,u1,u2,u3⟩:=q6 i x hx;exact ⟨u,u1,u2,hxy _ _ u3⟩)
 refine (hf.1 X g w us c2 (RepVs.mono (Step.le s2) _ _ hr)).mono fun e w' he=>?_;obtain ⟨v,u,g',h1,rfl,hR,hc1,hu,hs⟩:=he;exact ⟨v,u,g',h1,rfl,hR,hc1,hu,s2.trans hc.own hs⟩
theorem Turn.sublist {r:Regs} {h h':Heap} (hs:h'.Sublist h):Turn r h r h':=
 Turn.sub (fun k o hm=>hs.subset hm) (fun hn=>by unfold keys at hn ⊢;exact hn.sublist (hs.map _))
def c88:Cfg:=⟨[0,1,2,3,4,6,7,8,9,11,12,13,14,15,16,17,25,26,27,28,40,41,42,43,52,68,82],[],[12,13,15],[],[(5,[0,1,2,3,4,5,6],[]),(13,[0,1,2,3,4,5,6,7,8,9,10,11,12,13],[]),(14,[0,1,2,3,4,5,6,7,8,9,10],[15])],[]⟩
set_option maxHeartbeats 2000000 in
theorem wordsA (H:Hou) (line:List Int) (at_ most:Nat) (hH:HouOK H) (hfit:HouFit H) (hline:∀ s∈line,0<=s/\s<H.list.signs.length) (hlen:line.length<=1048576) (hat:at_<=line.length) (hmost:most<=1048575) :
  ACalls Tryz.prog 88 [.agg (encHou H),.sl 1 none (ints line),.int .i64 at_,.int .i64 most] [] (fun v h'=>∃ hp Z,Row 7 encEdg (wordsM H line at_ most) v hp/\h'=hp++Z):=by
 have hlst:=lstOK hH.lst;have hmn:=hH.lex.many;obtain ⟨hAf,hAu⟩:=allAt_ok hH (line:=line) (at_:=at_) hline;obtain ⟨seg,hseg⟩:∃ seg,seg=(line.drop at_).take 12:=⟨_,rfl⟩;have hsegl:seg.length<=12:=by rw [hseg];simp;omega
 have hsegm:∀ s∈seg,0<=s/\s<H.list.signs.length:=fun s hs=>by rw [hseg] at hs;exact hline s (List.mem_of_mem_drop (List.mem_of_mem_take hs))
 have hsl:((ints line).take (min ((ints line).length:Int) ((at_:Int)+12)).toNat).drop (at_:Int).toNat=ints seg:=by
  rw [hseg,ints_length];unfold ints;rw [<- List.map_take,<- List.map_drop,List.drop_take];congr 1;rw [show (at_:Int).toNat=at_ from rfl];by_cases hc:line.length<=at_+12
  ·rw [show (min (line.length:Int) ((at_:Int)+12)).toNat - at_=line.length - at_ by omega,List.take_of_length_le (by simp),List.take_of_length_le (by simp;omega)]
  rw [show (min (line.length:Int) ((at_:Int)+12)).toNat - at_=12 by omega]
 refine fcalls (F:=Tryz.f88) c88 rfl rfl rfl mixed rfl fun X=>?_;(conv=>whnf);intro lk;(conv=>whnf);intro ak;(conv=>whnf);repeat ((first|refine ⟨gP_of ⟨by omega,by omega⟩,?_⟩|(refine ⟨gP_of ⟨by omega,by rw [ints_length];omega,by rw [ints_length];omega⟩,?_⟩));conv=>whnf)
 rw [hsl];refine tloop rfl mixed [4,6,7,8,9,25,26,27] [] (fun m r h=>∃ (i:Nat) (v:AV) (hp:Heap),r=[(4,[],.iptr (encHou H)),(6,[],.iptr [.int .i64 at_]),(7,[],.iptr [.int .i64 most]),(8,[],.optr lk 0),(9,[],.optr ak 0),(25,[],.sl 1 none (ints seg)),(26,[],.int .i64 (ints seg).length),(27,[],.int .i64 i)]/\h=(ak,.vec [v])::(lk,.vec [.nilS])::hp/\m=seg.length - i/\i<=seg.length/\Out 1 encUses ((seg.take i).map (usesAt H)) v hp) ?_ ?_
 ·(conv=>whnf);exact ⟨_,_,Turn.refl _ _,_,0,_,_,rfl,rfl,rfl,by omega,.inl ⟨rfl,rfl,rfl⟩⟩
 rintro m r h' ⟨i,v,hp,rfl,rfl,rfl,hi,ho⟩;(conv=>whnf);refine ⟨fun hi2=>?_,fun hi2=>?_⟩<;>simp at hi2
 ·obtain ⟨s,hs⟩:=get_lt hi2;have hs2:=hsegm s (List.mem_of_getElem? hs);have hsg:=sgnAt_get hs2.1 hs2.2;have hsv:=(hlst.each _ (List.mem_of_getElem? hsg)).few;have htk:=take_snoc hs;rcases ho with ⟨he,rfl,rfl⟩|⟨q,rfl,rfl⟩
  all_goals
   (conv=>whnf);repeat ((first|refine ⟨gP_of ⟨by omega,by omega⟩,?_⟩|refine ix (by assumption) ?_|(refine gcall (usesW H s (sgnAt H s) hs2.1 hsg (by omega)) ?_)|(refine ⟨Nat.le_of_ble_eq_true rfl,fun q'=>?_⟩)|(refine ⟨(by simp;unfold AMAX;omega),fun q'=>⟨_,.there (.there (.here _)),?_⟩⟩)|refine ⟨_,_,.head _,rfl,?_⟩|refine ⟨_,_,.here _,leOK,?_⟩|refine ⟨_,_,.there (.here _),leOK,?_⟩|refine And.intro (by show drawOK (opsAt Tryz.f88 _) _=true;decide +kernel) ?_);conv=>whnf)
   refine ⟨_,[(ak,.vec [.sl 1 (some q') (((seg.take (i+1)).map (usesAt H)).map encUses)]),(lk,.vec [.nilS]),(q',.tok)],?_,_,(by omega),i+1,_,[(q',.tok)],rfl,rfl,rfl,by omega,.inr ⟨q',rfl,rfl⟩⟩;rw [htk,List.map_append,List.map_append]
   first
    | (rw [he];exact Turn.perm (List.perm_append_comm (l₁:=[_]) (l₂:=[_,_])))
    | exact Turn.refl _ _
 rw [List.take_of_length_le hi2] at ho;have hAll:seg.map (usesAt H)=allAt H line at_:=by rw [hseg];rfl
 rw [hAll] at ho;obtain ⟨All,hAe⟩:∃ A,A=allAt H line at_:=⟨_,rfl⟩;rw [<- hAe] at ho hAf hAu;have hwm:wordsM H line at_ most=sortE ((wordsAll H All at_).take (most+1)):=by rw [hAe];rfl
 (conv=>whnf);skip;refine tloop rfl mixed [4,6,7,8,9,40,41,42] [] (fun m r h=>∃ (i:Nat) (lv:AV) (lhp:Heap),r=[(4,[],.iptr (encHou H)),(6,[],.iptr [.int .i64 at_]),(7,[],.iptr [.int .i64 most]),(8,[],.optr lk 0),(9,[],.iptr [.sl 1 none (All.map encUses)]),(40,[],.sl 4 none (H.lex.entries.map encEnt)),(41,[],.int .i64 (H.lex.entries.map encEnt).length),(42,[],.int .i64 i)]/\h=(lk,.vec [lv])::lhp/\m=H.lex.entries.length - i/\i<=H.lex.entries.length/\Row 7 encEdg (((List.range i).flatMap (wordsEnt H All at_)).take (most+1)) lv lhp) ?_ ?_
 ·(conv=>whnf);refine ⟨_,_,?_,_,0,.nilO,[],rfl,rfl,rfl,by omega,.inl ⟨by simp,rfl,rfl⟩⟩;refine Turn.trans (Turn.cells (.here _) (.cons (Out.le (by decide) ho) .nil)) ?_;refine Turn.trans (Turn.freeze (.here _) (FzH.refl _) (.cons (.refl _) (.cons (.refl _) (.cons (.refl _) (.cons (.refl _) (.cons (.ptr rfl) (FzR.refl _))))))) ?_;refine Turn.trans (Turn.cells (.here _) (.cons nil_le_nilO .nil)) (Turn.sublist (.cons_cons _ (List.nil_sublist _)))
 clear ho;rintro m r h' ⟨i,lv,lhp,rfl,rfl,rfl,hi,hr⟩;(conv=>whnf);refine ⟨fun hi2=>?_,fun hi2=>?_⟩<;>simp at hi2
 ·obtain ⟨e,he⟩:=get_lt hi2;have hee:e=entAt H.lex i:=by have:=entAt_get (x:=H.lex) (n:=(i:Int)) (by omega) (by omega);rw [show ((i:Int)).toNat=i from rfl,he] at this;exact Option.some.inj this
  subst hee;have hent:=(hH.lex.entAt (n:=(i:Int)) (by omega) (by omega));(conv=>whnf);repeat ((first|refine ix (by assumption) ?_|(refine And.intro ⟨Nat.le_of_ble_eq_true rfl,rfl⟩ ?_)|refine ⟨_,_,Rem.here _,⟨Nat.le_of_ble_eq_true rfl,rfl⟩,?_⟩|refine ⟨_,_,Rem.there (.here _),?_⟩|refine ⟨_,_,.here _,leOK,?_⟩|intro (nb:Nat));conv=>whnf)
  refine tloop rfl mixed [4,6,7,8,9,12,13,14,40,41,42] [] (fun m r h=>∃ (k:Nat) (c:Int) (en:Nat) (lv:AV) (lhp:Heap),r=[(4,[],.iptr (encHou H)),(6,[],.iptr [.int .i64 at_]),(7,[],.iptr [.int .i64 most]),(8,[],.optr lk 0),(9,[],.iptr [.sl 1 none (All.map encUses)]),(12,[],.iptr [.int .i64 i]),(13,[],.iptr (encEnt (entAt H.lex i))),(14,[],.optr en 0),(40,[],.sl 4 none (H.lex.entries.map encEnt)),(41,[],.int .i64 (H.lex.entries.map encEnt).length),(42,[],.int .i64 i)]/\h=(en,.vec [.int .i64 c])::(lk,.vec [lv])::lhp/\m=H.lex.endings.length+1 - k/\c=(k:Int) - 1/\k<=H.lex.endings.length+1/\Row 7 encEdg (((List.range i).flatMap (wordsEnt H All at_)++(List.range k).flatMap (wordsOf H All at_ i)).take (most+1)) lv lhp) ?_ ?_
  ·(conv=>whnf);exact ⟨_,_,Turn.refl _ _,_,0,-1,_,_,_,rfl,rfl,rfl,rfl,by omega,by simpa using hr⟩
  clear hr;rintro m r h' ⟨k,c,en,lv,lhp,rfl,rfl,rfl,hc,hk,hr⟩;have hrs:(List.range (k+1)).flatMap (wordsOf H All at_ i)=(List.range k).flatMap (wordsOf H All at_ i)++wordsOf H All at_ i k:=(by rw [List.range_succ,List.flatMap_append,List.flatMap_singleton]);(conv=>whnf);repeat (refine ⟨_,_,.head _,rfl,?_⟩;conv=>whnf)
  refine ⟨fun hi3=>?_,fun hi3=>?_⟩<;>simp at hi3
  ·(conv=>whnf);repeat ((first|(refine ixg (⟨0,[],[],0⟩:Edn) ?_ ?_;(focus (conv=>whnf;skip));(focus (intro g0;have g0:=of_decide_eq_true g0;show 0<=_/\_<_;omega)))|refine ⟨_,_,.head _,rfl,?_⟩|refine And.intro (by show drawOK (opsAt Tryz.f88 _) _=true;decide +kernel) ?_);conv=>whnf)
   refine ⟨fun hs=>?_,fun hs=>?_⟩
   ·have hs:skipE H.lex i c=true:=hs;have hwo:wordsOf H All at_ i k=[]:=by unfold wordsOf;rw [<- hc,if_pos hs]
    rw [hwo,List.append_nil] at hrs;(conv=>whnf);repeat ((first|refine ⟨gP_of ⟨by omega,by omega⟩,?_⟩|refine ⟨_,_,.head _,rfl,?_⟩|refine ⟨_,_,.here _,leOK,?_⟩|intro (nb:Nat));conv=>whnf)
    exact ⟨_,_,Turn.sublist (.cons_cons _ (.cons _ (.cons_cons _ (List.Sublist.refl _)))),_,(by omega),k+1,_,_,_,_,rfl,rfl,rfl,by omega,by omega,by rw [hrs];exact hr⟩
   have hs:skipE H.lex i c=false:=hs;obtain ⟨E,hE0⟩:∃ E:Run,E=⟨envAt H at_ i c,most,All⟩:=⟨_,rfl⟩;have hwo:wordsOf H All at_ i k=wordsF E.toEnv All prg0 []:=by unfold wordsOf;rw [<- hc,if_neg (by rw [hs];decide),hE0]
   have hE:EnvOK E:=by rw [hE0];exact ⟨hH,hfit,spAt hH (by omega) (by omega) (by omega),⟨by show (0:Int)<=i;omega,by show (i:Int)<H.lex.entries.length;omega⟩,⟨by show (0:Int)<=at_;omega,by show (at_:Int)<=1048576;omega⟩,by show most<=1048576;omega,hAf,hAu⟩
   (conv=>whnf);repeat ((first|refine gcall (bodyA H.lex i c hH.lex (by omega) (by omega) (by omega)) ?_|refine ⟨_,_,Rem.here _,?_⟩|refine ⟨_,_,.head _,rfl,?_⟩|refine ⟨_,_,.here _,leOK,?_⟩|refine And.intro (by show drawOK (opsAt Tryz.f88 _) _=true;decide +kernel) ?_|intro (nb:Nat));conv=>whnf)
   have hst:=fun sk tk=>stepA E sk tk lk en hE All prg0 [] _ .nilO [] lv lhp ⟨[],by rw [hE0];rfl,rfl⟩ (prg0_ok _) (.inl ⟨rfl,rfl,rfl⟩) hr (fun h=>absurd rfl h) (by rw [hE0,List.length_take];show min (most+1) _<=most+1;omega);simp only [hE0] at hst;refine ACalls.mono ?_ (ACalls.cells (ACalls.perm (ACalls.args (hst _ _) (.cons (VLe.agg (.cons (VLe.refl _) (.cons (VLe.refl _) (.cons (VLe.refl _) (.cons (VLe.nil (by decide)) (.cons (VLe.refl _) (.cons (VLe.refl _) .nil))))))) (VsLe.refl _))) (.cons _ (.cons _ (.swap _ _ _)))) (.there (.here _)) (.cons nil_le_nilO .nil));rintro v h1 ⟨rfl,tv',thp',lv',lhp',hT',hL',rfl⟩;(conv=>whnf);repeat ((first|(refine ⟨_,_,.tail _ (.tail _ (.tail _ (.head _))),rfl,?_⟩)|(refine ⟨gP_of (show -9223372036854775808<=c+1/\c+1<=9223372036854775807 by omega),?_⟩)|refine ⟨_,_,.head _,rfl,?_⟩|refine ⟨_,_,.here _,leOK,?_⟩|intro (nb:Nat));conv=>whnf)
   have h9:Row 7 encEdg ((((List.range i).flatMap (wordsEnt H All at_)++(List.range k).flatMap (wordsOf H All at_ i)).take (most+1)++wordsF (envAt H at_ i c) All prg0 []).take (most+1)) lv' lhp':=hL';rw [take_app1] at h9;exact ⟨_,_::(lk,.vec [lv'])::lhp',Turn.sublist (.cons_cons _ (.cons _ (.cons _ (.cons_cons _ (.cons _ (List.sublist_append_right thp' lhp')))))),_,(by omega),k+1,_,_,_,_,rfl,rfl,rfl,(by show c+1=_;omega),by omega,by rw [hrs,hwo,hE0];rw [List.append_assoc] at h9;exact h9⟩
  have hke:k=H.lex.endings.length+1:=(by omega);rw [hke] at hr;(conv=>whnf);repeat (refine ⟨gP_of ⟨by omega,by omega⟩,?_⟩;conv=>whnf)
  exact ⟨_,_,Turn.sublist (.cons _ (List.Sublist.refl _)),_,(by omega),i+1,_,_,rfl,rfl,rfl,by omega,by rw [List.range_succ,List.flatMap_append,List.flatMap_singleton];exact hr⟩
 have hie:i=H.lex.entries.length:=(by omega);rw [hie] at hr;have hLm:((wordsAll H All at_).take (most+1)).length<=4294967296:=by rw [List.length_take];omega
 have hat':∀ e∈(wordsAll H All at_).take (most+1),EdgAt H at_ e:=fun e he=>wordsAll_at hH hAf hAu e (List.mem_of_mem_take he);rcases hr with ⟨hne,rfl,rfl⟩|⟨hne,b,rfl,rfl⟩
 ·have hne:(wordsAll H All at_).take (most+1)=[]:=hne;(conv=>whnf);repeat ((first|refine QCall.k0 (sortNilE _) ?_|refine ⟨_,_,.head _,rfl,?_⟩|refine ⟨_,_,.here _,leOK,?_⟩);conv=>whnf)
  exact ⟨[],_,.inl ⟨by rw [hwm,hne];simp [sortE,sortL],rfl,rfl⟩,rfl⟩
 have hne:(wordsAll H All at_).take (most+1)≠[]:=hne;(conv=>whnf);repeat (refine ⟨_,_,.head _,rfl,?_⟩;conv=>whnf)
 refine ACalls.mono ?_ (ACalls.perm (ACalls.frame (sortOwnE b _ hne hLm (fun x hx=>⟨by have:=(hat' x hx).cl;omega,by have:=(hat' x hx).few;omega⟩) (fun x hx y hy=>edgAt_eq (hat' x hx) (hat' y hy))) _) (.swap _ _ _));rintro v h1 ⟨h2,⟨rfl,rfl⟩,rfl⟩;(conv=>whnf);repeat ((first|refine ⟨_,_,.tail _ (.head _),rfl,?_⟩|refine ⟨_,_,.there (.here _),leOK,?_⟩);conv=>whnf)
 refine ⟨_,_,.inr ⟨?_,b,?_,rfl⟩,by rw [hwm];rfl⟩
 ·rw [hwm];intro h;have:=congrArg List.length h;rw [sortE,sortL_length] at this;exact hne (List.eq_nil_of_length_eq_zero this)
 rw [hwm,sortE,sortL_length];rfl
theorem wordsW (H:Hou) (line:List Int) (at_ most:Nat) (hH:HouOK H) (hfit:HouFit H) (hline:∀ s∈line,0<=s/\s<H.list.signs.length) (hlen:line.length<=1048576) (hat:at_<=line.length) (hmost:most<=1048575) :
  QCall Tryz.prog 88 [.agg (encHou H),.sl 1 none (ints line),.int .i64 at_,.int .i64 most] [] (.sl 7 none ((wordsM H line at_ most).map encEdg)):=Row.ok (by decide) (fun _=>rfl) (wordsA H line at_ most hH hfit hline hlen hat hmost)
end Go.Abs.Wall
namespace Go.Abs.Wall
open Go Go.Abs Go.Proofs
theorem wrap64 {n:Int} (h0:0<=n) (h1:n<4294967296):IntKind.u64.wrap n=n:=by simp [IntKind.wrap,IntKind.signed,IntKind.bits];omega
def c116:Cfg:=⟨[0,1,4,5,6,7,8,9],[],[],[],[],[]⟩
def c137:Cfg:=⟨[0,1,4,5,6,7,8,9,10,11,12,13],[],[],[],[],[]⟩
def c87:Cfg:=⟨[0,1,4,5,6,7,8,10,26,37],[],[],[],[(9,[0,1,2,3,4,5,6,7,8,9],[])],[]⟩
theorem mul64W (n:Int) (h0:0<=n) (h1:n<=1048577):QCall Tryz.prog 137 [.int .u64 1,.int .u64 n] [] (.tup [.int .u64 0,.int .u64 n]):=by
 have w1:IntKind.u64.wrap (1*n)=n:=by rw [Int.one_mul];exact wrap64 h0 (by omega)
 have w2:IntKind.u64.wrap (0*n)=0:=by rw [Int.zero_mul];exact wrap64 (by omega) (by omega)
 have w3:IntKind.u64.wrap (1*0)=0:=wrap64 (by omega) (by omega);have w4:IntKind.u64.wrap (0*0)=0:=wrap64 (by omega) (by omega);have w5:IntKind.u64.wrap (0+0)=0:=wrap64 (by omega) (by omega);refine fcalls (F:=Tryz.f137) c137 rfl rfl rfl mixed rfl fun X=>?_;(conv=>whnf);repeat ((refine ⟨gP_of ⟨⟨rfl,rfl⟩,⟨by first|omega|(rw [w1];omega)|(rw [w2,w5];omega)|(rw [w2,w5,w3,w5];omega),by first|omega|(rw [w1];omega)|(rw [w2,w5];omega)|(rw [w2,w5,w3,w5];omega)⟩,rfl⟩,?_⟩);conv=>whnf)
 refine ⟨?_,rfl⟩;rw [w1,w4,w5,w5]
theorem mulW (n:Int) (h0:0<=n) (h1:n<=1048577):QCall Tryz.prog 116 [.int .u64 1,.int .u64 n] [] (.tup [.int .u64 0,.int .u64 n]):=by
 refine fcalls (F:=Tryz.f116) c116 rfl rfl rfl mixed rfl fun X=>?_;(conv=>whnf);refine cF rfl ?_;(conv=>whnf);repeat (refine QCall.k0 (mul64W n h0 h1) ?_;conv=>whnf)
 exact ⟨rfl,rfl⟩
def rowR (n m:Nat) (v:Int):List AV:=List.replicate m (.int .i64 v)++List.replicate (n - m) (.int .i64 0)
theorem rowR_len {n m:Nat} {v:Int} (h:m<=n):(rowR n m v).length=n:=by unfold rowR;simp;omega
theorem rowR_set {n m c:Nat} {v:Int} (h:m+c<=n):setC (rowR n m v) m (List.replicate c (.int .i64 v))=rowR n (m+c) v:=by
 unfold setC rowR;rw [List.take_append_of_le_length (by simp),List.take_of_length_le (by simp),List.length_replicate,List.drop_append,List.drop_eq_nil_of_le (by simp),List.nil_append,List.length_replicate,List.drop_replicate];congr 1
 ·rw [List.replicate_append_replicate]
 congr 1;omega
theorem rowR_full {n:Nat} {v:Int}:rowR n n v=List.replicate n (.int .i64 v):=by unfold rowR;simp
theorem repeatW (v:Int) (n:Nat) (h1:1<=n) (h2:n<=1048577):ACalls Tryz.prog 87 [.sl 1 none [[.int .i64 v]],.int .i64 n] [] (fun w h'=>∃ b,w=.osl b 0 n 1/\h'=[(b,.vec (List.replicate n (.int .i64 v)))]):=by
 refine fcalls (F:=Tryz.f87) c87 rfl rfl rfl mixed rfl fun X=>?_;(conv=>whnf);refine ⟨fun h=>absurd (of_decide_eq_true h) (by omega),fun h=>?_⟩;(conv=>whnf);skip;rw [show IntKind.u64.wrap ((([[AV.int .i64 v]]:List (List AV)).length:Nat):Int)=1 from wrap64 (by simp) (by simp),show IntKind.u64.wrap (n:Int)=n from wrap64 (by omega) (by omega)];refine QCall.k0 (mulW n (by omega) (by omega)) ?_;(conv=>whnf);refine cF (by simp;omega) ?_;(conv=>whnf);repeat ((first|refine ⟨gP_of ⟨by omega,by omega⟩,?_⟩|(refine ⟨⟨by omega,by omega,by omega⟩,fun b=>?_⟩));conv=>whnf)
 rw [show repC (n:Int).toNat [AV.int .i64 0]=rowR n 0 v by rw [show (n:Int).toNat=n from rfl,repC_one];simp [rowR],show (n:Int).toNat=n from rfl];refine ⟨_,_,.here _,⟨by simp,by simp;omega,by rw [rowR_len (by omega)];simp;omega⟩,?_⟩;rw [show setC (rowR n 0 v) 0 [[AV.int .i64 v]].flatten=rowR n 1 v from rowR_set (m:=0) (c:=1) (by omega)];(conv=>whnf);skip;refine sloop rfl mixed [7,8] [] (fun m r h=>∃ (q:Nat),r=[(7,[],.osl b 0 n 1),(8,[],.int .i64 q)]/\h=[(b,.vec (rowR n q v))]/\m=n - q/\1<=q/\q<=n) ?_ ?_
 ·(conv=>whnf);exact ⟨_,1,rfl,rfl,rfl,by omega,by omega⟩
 rintro x r h' ⟨q,rfl,rfl,rfl,hm1,hm2⟩;(conv=>whnf);refine ⟨fun hf=>?_,fun hf=>?_⟩<;>simp at hf
 ·(conv=>whnf);repeat ((first|refine ⟨gP_of ⟨by omega,by omega⟩,?_⟩|refine And.intro (by show drawOK (opsAt Tryz.f87 _) _=true;decide +kernel) ?_);conv=>whnf)
  obtain ⟨c,hc⟩:∃ c,c=min q (n - q):=⟨_,rfl⟩;have hm:min ((q:Int).toNat - Int.toNat 0) ((n:Int).toNat - (q:Int).toNat)=c:=by rw [hc];show min (q - 0) (n - q)=_;rw [Nat.sub_zero]
  have hfl:(List.replicate c [AV.int .i64 v]).flatten=List.replicate c (.int .i64 v):=(by simp);rw [hm];refine ⟨rowR n q v,List.replicate c [.int .i64 v],.head _,⟨?_,by intro z hz;rw [List.mem_replicate] at hz;rw [hz.2];rfl,by simp⟩,rowR n q v,_,.here _,⟨by omega,?_⟩,?_⟩
  ·rw [hfl];show List.take (c*1) (List.drop 0 (rowR n q v))=_;rw [List.drop_zero,Nat.mul_one];unfold rowR;rw [List.take_append_of_le_length (by simp;omega),List.take_replicate];congr 1;omega
  ·rw [hfl,rowR_len (by omega)];show 0+q*1+_<=n;simp;omega
  rw [hfl,show setC (rowR n q v) (0+(q:Int).toNat*1) (List.replicate c (.int .i64 v))=rowR n (q+c) v by rw [show 0+(q:Int).toNat*1=q by omega];exact rowR_set (by omega)];(conv=>whnf);repeat (refine ⟨gP_of ⟨by omega,by omega⟩,?_⟩;conv=>whnf)
  exact ⟨_,by omega,q+c,rfl,rfl,rfl,by omega,by omega⟩
 have:n=q:=(by omega);subst this;(conv=>whnf);exact ⟨b,rfl,by rw [rowR_full]⟩
end Go.Abs.Wall
namespace Go.Abs.Wall
open Go Go.Abs Go.Proofs
def edgsAt (H:Hou) (line:List Int) (at_:Nat):List Edg:=sortE (wordsAll H (allAt H line at_) at_)
def graphM (H:Hou) (line:List Int):List (List Edg):=(List.range line.length).map (edgsAt H line)
def sumL (g:List (List Edg)):Nat:=(g.map List.length).sum
def growErr (H:Hou) (line:List Int):Int:=if lineErr H line≠0 then lineErr H line else if 2000<sumL (graphM H line) then 2 else 0
def edgeStep (q cur cost:Int):Int:=if (!decide (q = -1)&&(decide (cur = -1)||decide (cost+q<cur)))=true then cost+q else cur
def edgeR (t:List Int) (r:Int) (x:Edg):Int:=edgeStep (t.getD (x.word.uses.length - 1) 0) r x.cost
def restT:List (List Edg)->List Int
 | []=>[0]
 | es::g=>es.foldl (edgeR (restT g)) (-1)::restT g
def restV (g:List (List Edg)) (i:Nat):Int:=(restT (g.drop i)).headD 0
theorem restT_len:∀ g,(restT g).length=g.length+1
 | []=>rfl
 | es::g=>by simp [restT,restT_len g]
theorem restT_get:∀ (g:List (List Edg)) (i:Nat),i<=g.length->(restT g)[i]?=some (restV g i)
 | [],i,h=>by have:i=0:=(by simpa using h);subst this;rfl
 | es::g,0,_=>by simp [restT,restV]
 | es::g,i+1,h=>by have:=restT_get g i (by simpa using h);simp only [restT,List.getElem?_cons_succ];rw [this];rfl
theorem restV_drop (g:List (List Edg)) (a i:Nat):restV (g.drop a) i=restV g (a+i):=by unfold restV;rw [List.drop_drop]
theorem restV_end (g:List (List Edg)):restV g g.length=0:=by unfold restV;rw [List.drop_length];rfl
theorem restT_map (g:List (List Edg)):restT g=(List.range (g.length+1)).map (restV g):=by
 refine List.ext_getElem? fun i=>?_;by_cases h:i<=g.length
 ·rw [restT_get g i h,List.getElem?_map,List.getElem?_range (by omega)];rfl
 rw [List.getElem?_eq_none (by rw [restT_len];omega),List.getElem?_eq_none (by simp;omega)]
theorem edgeStep_bound {q cur cost B:Int} (h1:-1<=q) (h2:q<=B) (h3:-1<=cur) (h4:cur<=B+18000) (h5:0<=cost) (h6:cost<=18000):-1<=edgeStep q cur cost/\edgeStep q cur cost<=B+18000:=by
 unfold edgeStep;split
 ·omega
 omega
theorem foldR_bound {t:List Int} {B:Int} (hB:0<=B) (ht:∀ v∈t,-1<=v/\v<=B):∀ (es:List Edg) (r:Int),-1<=r->r<=B+18000->(∀ x∈es,0<=x.cost/\x.cost<=18000)->-1<=es.foldl (edgeR t) r/\es.foldl (edgeR t) r<=B+18000
 | [],r,h1,h2,_=>⟨h1,h2⟩
 | x::es,r,h1,h2,hx=>by
   have hq:-1<=t.getD (x.word.uses.length - 1) 0/\t.getD (x.word.uses.length - 1) 0<=B:=by
    by_cases h:x.word.uses.length - 1<t.length
    ·have:=ht _ (List.getElem_mem h);simp [List.getD,List.getElem?_eq_getElem h];exact this
    simp [List.getD,List.getElem?_eq_none (Nat.le_of_not_lt h)];omega
   have hc:=hx x (by simp);obtain ⟨h3,h4⟩:=edgeStep_bound hq.1 hq.2 h1 h2 hc.1 hc.2;exact foldR_bound hB ht es _ h3 h4 fun y hy=>hx y (by simp [hy])
theorem restT_bound:∀ (g:List (List Edg)),(∀ es∈g,∀ x∈es,0<=x.cost/\x.cost<=18000)->∀ v∈restT g,-1<=v/\v<=18000*(g.length:Int)
 | [],_,v,hv=>by simp [restT] at hv;subst hv;simp
 | es::g,h,v,hv=>by
   have ih:=restT_bound g fun e he=>h e (by simp [he]);simp only [restT,List.mem_cons] at hv;rcases hv with rfl|hv
   ·have:=foldR_bound (B:=18000*(g.length:Int)) (by omega) ih es (-1) (by omega) (by omega) (h es (by simp));simp only [List.length_cons];omega
   have:=ih v hv;simp only [List.length_cons];omega
theorem wordsR_len {E:Env}:∀ (rest:List (List Use)) (p:Prg) (T:List Use),∀ e∈wordsR E rest p T,e.word.uses.length<=T.length+rest.length
 | [],_,_,e,he=>by cases he
 | us::r,p,T,e,he=>by
   unfold wordsR at he;rw [List.mem_flatMap] at he;obtain ⟨u,hum,he⟩:=he;rw [List.mem_flatMap] at he;obtain ⟨q,hq,he⟩:=he;rw [List.length_cons];rcases List.mem_append.1 he with he|he
   ·unfold headW at he;split at he
    ·cases List.mem_singleton.1 he
     show (T++[u]).length<=_;rw [List.length_append,List.length_singleton];omega
    cases he
   have:=wordsR_len r q (T++[u]) e he;rw [List.length_append,List.length_singleton] at this;omega
theorem edgsAt_mem {H:Hou} (hH:HouOK H) {line:List Int} (hl:∀ s∈line,0<=s/\s<H.list.signs.length) {at_:Nat} (hat:at_<=line.length):∀ x∈edgsAt H line at_,EdgAt H at_ x/\at_+x.word.uses.length<=line.length/\0<=x.cost/\x.cost<=18000:=by
 intro x hx;unfold edgsAt sortE at hx;rw [sortL_mem] at hx;obtain ⟨hAf,hAu⟩:=allAt_ok hH (line:=line) (at_:=at_) hl;have h1:=wordsAll_at hH hAf hAu x hx;have h2:=priceM_bound hH (w:=x.word);have h3:=h1.few;refine ⟨h1,?_,by rw [h1.cost];omega,by rw [h1.cost];omega⟩;unfold wordsAll at hx;rw [List.mem_flatMap] at hx;obtain ⟨i,hi,hx⟩:=hx;unfold wordsEnt at hx;rw [List.mem_flatMap] at hx;obtain ⟨k,hk,hx⟩:=hx;unfold wordsOf at hx;split at hx
 ·cases hx
 unfold wordsF at hx;rw [headW_nil,List.nil_append] at hx;have:=wordsR_len _ _ _ x hx;unfold allAt at this;simp at this;omega
theorem sumL_snoc {g:List (List Edg)} {l:List Edg}:sumL (g++[l])=sumL g+l.length:=by unfold sumL;simp
theorem sumL_take {g:List (List Edg)} (i:Nat):sumL (g.take i)<=sumL g:=by
 have h1:sumL (g.take i++g.drop i)=sumL (g.take i)+sumL (g.drop i):=by unfold sumL;rw [List.map_append,List.sum_append]
 rw [List.take_append_drop] at h1;omega
theorem wordsM_fits {H:Hou} {line:List Int} {at_ most:Nat} (h:(edgsAt H line at_).length<=most):wordsM H line at_ most=edgsAt H line at_:=by unfold edgsAt sortE at h;rw [sortL_length] at h;unfold wordsM edgsAt;rw [List.take_of_length_le (by omega)]
theorem wordsM_long {H:Hou} {line:List Int} {at_ most:Nat} (h:most<(edgsAt H line at_).length):(wordsM H line at_ most).length=most+1:=by unfold edgsAt sortE at h;rw [sortL_length] at h;unfold wordsM sortE;rw [sortL_length,List.length_take];omega
def encEdgs (es:List Edg):List AV:=[.sl 7 none (es.map encEdg)]
theorem VLe.iptr {xs ys:List AV} (h:VsLe xs ys):VLe (.iptr xs) (.iptr ys):=by intro c u hu;simp only [Rep] at hu ⊢;obtain ⟨b,o,hv,hr⟩:=hu;exact ⟨b,o,hv,h.repCs hr⟩
structure LineOK (H:Hou) (line:List Int):Prop where
 hou:HouOK H
 few:line.length<=60
 signs:∀ s∈line,0<=s/\s<H.list.signs.length
theorem lineOK {H:Hou} {line:List Int} (h:lineErr H line=0):LineOK H line:=by
 unfold lineErr at h;split at h
 ·rename_i h1;exact absurd h h1
 rename_i h1;split at h
 ·cases h
 split at h
 ·cases h
 rename_i h2 h3;rw [Bool.not_eq_true,List.any_eq_false] at h3;refine ⟨houOK (by omega),by omega,fun s hs=>?_⟩;have:=h3 s hs;rw [Bool.not_eq_true,Bool.not_eq_false',wthn_iff] at this;omega
end Go.Abs.Wall
namespace Go.Abs.Wall
open Go Go.Abs Go.Proofs
def spGo (H:Hou) (s:Sp) (cl:List Int):List Int->List Use->List Prg->Bool
 | n::t,u::us,st=>(usesAt H n).any (useEq u)&&spGo H s cl t us (st.flatMap fun p=>nextM s p u)
 | _,_,st=>st.any fun p=>endsM s p&&decide (p.cl=cl)
def spOf (H:Hou) (f:Frm):Sp:=⟨H,entAt H.lex f.entry,bodyM H.lex f.entry f.ending⟩
def spellsM (H:Hou) (line:List Int) (w:Wrd):Bool:=(wthn line.length 1 12&&decide (line.length=w.uses.length))&&spGo H (spOf H w.form) w.form.clitics line w.uses [prg0]
end Go.Abs.Wall
namespace Go.Abs.Wall
open Go Go.Abs Go.Proofs
def c40:Cfg:=⟨[0,1,4],[],[],[],[],[]⟩
def c42:Cfg:=⟨[0,2],[],[],[],[],[]⟩
def c41:Cfg:=⟨[0,2],[],[],[],[],[]⟩
def c43:Cfg:=⟨[0,2],[],[],[],[],[]⟩
def c15:Cfg:=⟨[0,1,2,3,4,5,6,7,8,9,10,11,12,28,33,67,70,96,101,130,133,155,160,183,186,197],[],[4,6,8,11],[],[(24,[0,1,2,3,4,5,6,7,8,9,10,11,12,13,14,15,16,17,18,19],[]),(35,[0,1,2,3,4,5,6,7,8],[])],[]⟩
theorem refSnd (s:List UInt8) (most:Int) (hs:s.length<=LMAX):QCall Tryz.prog 40 [.str s,.int .i64 most] [] (.bool (sndOK s most)):=by
 refine fcalls (F:=Tryz.f40) c40 rfl rfl rfl mixed rfl fun X=>?_;(conv=>whnf);repeat (refine gcall (refSounds s hs) ?_;conv=>whnf)
 refine ⟨congrArg AV.bool ?_,rfl⟩;unfold sndOK;rw [Bool.and_comm (s.all letter)];rfl
theorem refName (s:List UInt8) (hs:s.length<=LMAX):QCall Tryz.prog 42 [.str s] [] (.bool (nameOK s)):=by
 refine fcalls (F:=Tryz.f42) c42 rfl rfl rfl mixed rfl fun X=>?_;(conv=>whnf);repeat (refine gcall (refSmall s hs) ?_;conv=>whnf)
 refine ⟨congrArg AV.bool ?_,rfl⟩;unfold nameOK;rw [Bool.and_comm (s.all small)]
theorem refKind (n:Int):QCall Tryz.prog 41 [.int .i64 n] [] (.bool (wthn n 1 9)):=by refine fcalls (F:=Tryz.f41) c41 rfl rfl rfl mixed rfl fun X=>?_;(conv=>whnf);skip;exact ⟨rfl,rfl⟩
theorem refWeight (n:Int):QCall Tryz.prog 43 [.int .i64 n] [] (.bool (wthn n 0 1000)):=by refine fcalls (F:=Tryz.f43) c43 rfl rfl rfl mixed rfl fun X=>?_;(conv=>whnf);skip;exact ⟨rfl,rfl⟩
def entB0 (w:Ent):Bool:=!sndOK w.root 8||!wthn w.kind 1 9||(!decide (w.cls=[])&&!nameOK w.cls)||!wthn w.weight 0 1000
def ednB0 (w:Edn):Bool:=!wthn w.kind 1 9||!sndOK w.text 4||!nameOK w.name||!wthn w.weight 0 1000
def cliB0 (w:Cli):Bool:=!sndOK w.text 4||!nameOK w.name||!wthn w.weight 0 1000
theorem Below.none {α:Type} {p:α->Bool} {l:List α} {i:Nat} (h:Below p l i):(l.take i).any p=false:=by
 rw [List.any_eq_false];intro y hy;obtain ⟨j,hj⟩:=List.mem_iff_getElem?.1 hy;rw [List.getElem?_take] at hj;split at hj
 ·rename_i h1;rw [h j y h1 hj];decide
 cases hj
theorem any_hit {α:Type} {p:α->Bool} {l:List α} {i k:Nat} {y:α} (hk:k<i) (hy:l[k]?=some y) (hp:p y=true):(l.take i).any p=true:=by rw [List.any_eq_true];exact ⟨y,List.mem_of_getElem? (i:=k) (by rw [List.getElem?_take,if_pos hk,hy]),hp⟩
set_option maxHeartbeats 2000000 in
theorem refLex (x:Lex) (hx:LexFit x):QCall Tryz.prog 15 [.agg (encLex x)] [] (.int .i64 (lexErr x)):=by
 have hx1:=hx.entries;have hx2:=hx.endings;have hx3:=hx.clitics;unfold LMAX at hx1 hx2 hx3;refine fcalls (F:=Tryz.f15) c15 rfl rfl rfl mixed rfl fun X=>?_;(conv=>whnf);skip;refine ⟨fun hc=>?_,fun hc=>?_⟩
 ·have hc:(decide (200<((x.entries.map encEnt).length:Int))||decide (40<((x.endings.map encEdn).length:Int))||decide (10<((x.clitics.map encCli).length:Int)))=true:=hc;simp [or_assoc] at hc;(conv=>whnf);exact ⟨by rw [lexErr,if_pos (by omega)],rfl⟩
 have hc:(decide (200<((x.entries.map encEnt).length:Int))||decide (40<((x.endings.map encEdn).length:Int))||decide (10<((x.clitics.map encCli).length:Int)))=false:=hc;simp at hc;have h0:lexErr x=if bads entBad x.entries=true then 45 else if bads ednBad x.endings=true then 46 else if bads cliBad x.clitics=true then 47 else 0:=(by rw [lexErr,if_neg (by omega)]);(conv=>whnf);skip;refine sloop rfl mixed [1,3] [] (fun m r h=>∃ (i:Nat),r=[(1,[],.iptr (encLex x)),(3,[],.int .i64 i)]/\h=[]/\m=x.entries.length - i/\i<=x.entries.length/\bads entBad x.entries=badGo entBad x.entries (x.entries.drop i) i) ?_ ?_
 ·(conv=>whnf);exact ⟨_,0,rfl,rfl,rfl,by omega,rfl⟩
 rintro m r h ⟨i,rfl,rfl,rfl,hi,hb⟩;(conv=>whnf);skip;refine ⟨fun he=>?_,fun he=>?_⟩<;>simp at he
 ·obtain ⟨w,hw⟩:=get_lt he;have hm:=List.mem_of_getElem? hw;rw [drop_cons hw,badGo] at hb;(conv=>whnf);repeat ((first|refine ix (by assumption) ?_|refine QCall.k0 (refSnd w.root 8 (hx.ent w hm).root) ?_|refine gcall (refKind _) ?_|refine gcall (refName w.cls (hx.ent w hm).cls) ?_|refine gcall (refWeight _) ?_|refine ⟨_,_,Rem.here _,⟨Nat.le_of_ble_eq_true rfl,rfl⟩,?_⟩|intro (nb:Nat));conv=>whnf)
  refine ⟨fun hd=>?_,fun hd=>?_⟩
  ·have hd:entB0 w=true:=hd;have hd:entBad (x.entries.take i) w=true:=by show (entB0 w||(x.entries.take i).any (entSame w))=true;rw [hd];rfl
   rw [hd,Bool.true_or] at hb;(conv=>whnf);exact ⟨by rw [h0,if_pos hb],rfl⟩
  have hd:entB0 w=false:=hd;have hd:entBad (x.entries.take i) w=(x.entries.take i).any (entSame w):=by show (entB0 w||(x.entries.take i).any (entSame w))=_;rw [hd];rfl
  rw [hd] at hb;(conv=>whnf);skip;refine sloop rfl mixed [1,3,4,5] [] (fun m r h=>∃ (k:Nat),r=[(1,[],.iptr (encLex x)),(3,[],.int .i64 i),(4,[],.iptr (encEnt w)),(5,[],.int .i64 k)]/\h=[]/\m=i - k/\k<=i/\Below (entSame w) x.entries k) ?_ ?_
  ·(conv=>whnf);exact ⟨_,0,rfl,rfl,rfl,by omega,.zero⟩
  rintro m r h ⟨k,rfl,rfl,rfl,hk,hg⟩;(conv=>whnf);refine ⟨fun hk2=>?_,fun hk2=>?_⟩<;>simp at hk2
  ·obtain ⟨v,hv⟩:=get_lt (l:=x.entries) (i:=k) (by omega);(conv=>whnf);repeat ((first|refine ix (by assumption) ?_|refine ⟨_,_,Rem.here _,⟨Nat.le_of_ble_eq_true rfl,rfl⟩,?_⟩|intro (nb:Nat));conv=>whnf)
   refine ⟨fun hq=>?_,fun hq=>?_⟩
   ·have hq:entSame w v=true:=hq;rw [any_hit hk2 hv hq,Bool.true_or] at hb;(conv=>whnf);exact ⟨by rw [h0,if_pos hb],rfl⟩
   have hq:entSame w v=false:=hq;(conv=>whnf);repeat (refine ⟨gP_of ⟨by omega,by omega⟩,?_⟩;conv=>whnf)
   exact ⟨_,by omega,k+1,rfl,rfl,rfl,by omega,hg.succ hv hq⟩
  have hki:k=i:=(by omega);subst hki;rw [hg.none,Bool.false_or] at hb;(conv=>whnf);repeat (refine ⟨gP_of ⟨by omega,by omega⟩,?_⟩;conv=>whnf)
  exact ⟨_,by omega,k+1,rfl,rfl,rfl,by omega,hb⟩
 rw [drop_nil he,badGo] at hb;have h1:lexErr x=if bads ednBad x.endings=true then 46 else if bads cliBad x.clitics=true then 47 else 0:=(by rw [h0,if_neg (by rw [hb];decide)]);(conv=>whnf);skip;refine sloop rfl mixed [1,7] [] (fun m r h=>∃ (i:Nat),r=[(1,[],.iptr (encLex x)),(7,[],.int .i64 i)]/\h=[]/\m=x.endings.length - i/\i<=x.endings.length/\bads ednBad x.endings=badGo ednBad x.endings (x.endings.drop i) i) ?_ ?_
 ·(conv=>whnf);exact ⟨_,0,rfl,rfl,rfl,by omega,rfl⟩
 rintro m r h ⟨i,rfl,rfl,rfl,hi,hb⟩;(conv=>whnf);skip;refine ⟨fun he=>?_,fun he=>?_⟩<;>simp at he
 ·obtain ⟨w,hw⟩:=get_lt he;have hm:=List.mem_of_getElem? hw;rw [drop_cons hw,badGo] at hb;(conv=>whnf);repeat ((first|refine ix (by assumption) ?_|refine gcall (refSnd w.text 4 (hx.edn w hm).text) ?_|refine QCall.k0 (refKind _) ?_|refine gcall (refName w.name (hx.edn w hm).name) ?_|refine gcall (refWeight _) ?_|refine ⟨_,_,Rem.here _,⟨Nat.le_of_ble_eq_true rfl,rfl⟩,?_⟩|intro (nb:Nat));conv=>whnf)
  refine ⟨fun hd=>?_,fun hd=>?_⟩
  ·have hd:ednB0 w=true:=hd;have hd:ednBad (x.endings.take i) w=true:=by show (ednB0 w||(x.endings.take i).any (ednSame w))=true;rw [hd];rfl
   rw [hd,Bool.true_or] at hb;(conv=>whnf);exact ⟨by rw [h1,if_pos hb],rfl⟩
  have hd:ednB0 w=false:=hd;have hd:ednBad (x.endings.take i) w=(x.endings.take i).any (ednSame w):=by show (ednB0 w||(x.endings.take i).any (ednSame w))=_;rw [hd];rfl
  rw [hd] at hb;(conv=>whnf);skip;refine sloop rfl mixed [1,7,8,9] [] (fun m r h=>∃ (k:Nat),r=[(1,[],.iptr (encLex x)),(7,[],.int .i64 i),(8,[],.iptr (encEdn w)),(9,[],.int .i64 k)]/\h=[]/\m=i - k/\k<=i/\Below (ednSame w) x.endings k) ?_ ?_
  ·(conv=>whnf);exact ⟨_,0,rfl,rfl,rfl,by omega,.zero⟩
  rintro m r h ⟨k,rfl,rfl,rfl,hk,hg⟩;(conv=>whnf);refine ⟨fun hk2=>?_,fun hk2=>?_⟩<;>simp at hk2
  ·obtain ⟨v,hv⟩:=get_lt (l:=x.endings) (i:=k) (by omega);(conv=>whnf);repeat ((first|refine ix (by assumption) ?_|refine And.intro (by show drawOK (opsAt Tryz.f15 _) _=true;decide +kernel) ?_);conv=>whnf)
   refine ⟨fun hq=>?_,fun hq=>?_⟩
   ·have hq:ednSame w v=true:=hq;rw [any_hit hk2 hv hq,Bool.true_or] at hb;(conv=>whnf);exact ⟨by rw [h1,if_pos hb],rfl⟩
   have hq:ednSame w v=false:=hq;(conv=>whnf);repeat (refine ⟨gP_of ⟨by omega,by omega⟩,?_⟩;conv=>whnf)
   exact ⟨_,by omega,k+1,rfl,rfl,rfl,by omega,hg.succ hv hq⟩
  have hki:k=i:=(by omega);subst hki;rw [hg.none,Bool.false_or] at hb;(conv=>whnf);repeat (refine ⟨gP_of ⟨by omega,by omega⟩,?_⟩;conv=>whnf)
  exact ⟨_,by omega,k+1,rfl,rfl,rfl,by omega,hb⟩
 rw [drop_nil he,badGo] at hb;have h2:lexErr x=if bads cliBad x.clitics=true then 47 else 0:=(by rw [h1,if_neg (by rw [hb];decide)]);(conv=>whnf);skip;refine sloop rfl mixed [1,10] [] (fun m r h=>∃ (i:Nat),r=[(1,[],.iptr (encLex x)),(10,[],.int .i64 i)]/\h=[]/\m=x.clitics.length - i/\i<=x.clitics.length/\bads cliBad x.clitics=badGo cliBad x.clitics (x.clitics.drop i) i) ?_ ?_
 ·(conv=>whnf);exact ⟨_,0,rfl,rfl,rfl,by omega,rfl⟩
 rintro m r h ⟨i,rfl,rfl,rfl,hi,hb⟩;(conv=>whnf);skip;refine ⟨fun he=>?_,fun he=>?_⟩<;>simp at he
 ·obtain ⟨w,hw⟩:=get_lt he;have hm:=List.mem_of_getElem? hw;rw [drop_cons hw,badGo] at hb;(conv=>whnf);repeat ((first|refine ix (by assumption) ?_|refine QCall.k0 (refSnd w.text 4 (hx.cli w hm).text) ?_|refine gcall (refName w.name (hx.cli w hm).name) ?_|refine gcall (refWeight _) ?_|refine ⟨_,_,Rem.here _,⟨Nat.le_of_ble_eq_true rfl,rfl⟩,?_⟩|intro (nb:Nat));conv=>whnf)
  refine ⟨fun hd=>?_,fun hd=>?_⟩
  ·have hd:cliB0 w=true:=hd;have hd:cliBad (x.clitics.take i) w=true:=by show (cliB0 w||(x.clitics.take i).any (cliSame w))=true;rw [hd];rfl
   rw [hd,Bool.true_or] at hb;(conv=>whnf);exact ⟨by rw [h2,if_pos hb],rfl⟩
  have hd:cliB0 w=false:=hd;have hd:cliBad (x.clitics.take i) w=(x.clitics.take i).any (cliSame w):=by show (cliB0 w||(x.clitics.take i).any (cliSame w))=_;rw [hd];rfl
  rw [hd] at hb;(conv=>whnf);skip;refine sloop rfl mixed [1,10,11,12] [] (fun m r h=>∃ (k:Nat),r=[(1,[],.iptr (encLex x)),(10,[],.int .i64 i),(11,[],.iptr (encCli w)),(12,[],.int .i64 k)]/\h=[]/\m=i - k/\k<=i/\Below (cliSame w) x.clitics k) ?_ ?_
  ·(conv=>whnf);exact ⟨_,0,rfl,rfl,rfl,by omega,.zero⟩
  rintro m r h ⟨k,rfl,rfl,rfl,hk,hg⟩;(conv=>whnf);refine ⟨fun hk2=>?_,fun hk2=>?_⟩<;>simp at hk2
  ·obtain ⟨v,hv⟩:=get_lt (l:=x.clitics) (i:=k) (by omega);(conv=>whnf);repeat ((first|refine ix (by assumption) ?_|refine And.intro (by show drawOK (opsAt Tryz.f15 _) _=true;decide +kernel) ?_);conv=>whnf)
   refine ⟨fun hq=>?_,fun hq=>?_⟩
   ·have hq:cliSame w v=true:=hq;rw [any_hit hk2 hv hq,Bool.true_or] at hb;(conv=>whnf);exact ⟨by rw [h2,if_pos hb],rfl⟩
   have hq:cliSame w v=false:=hq;(conv=>whnf);repeat (refine ⟨gP_of ⟨by omega,by omega⟩,?_⟩;conv=>whnf)
   exact ⟨_,by omega,k+1,rfl,rfl,rfl,by omega,hg.succ hv hq⟩
  have hki:k=i:=(by omega);subst hki;rw [hg.none,Bool.false_or] at hb;(conv=>whnf);repeat (refine ⟨gP_of ⟨by omega,by omega⟩,?_⟩;conv=>whnf)
  exact ⟨_,by omega,k+1,rfl,rfl,rfl,by omega,hb⟩
 rw [drop_nil he,badGo] at hb;have h3:lexErr x=0:=(by rw [h2,if_neg (by rw [hb];decide)]);(conv=>whnf);exact ⟨by rw [h3],rfl⟩
end Go.Abs.Wall
namespace Go.Abs.Wall
open Go Go.Abs Go.Proofs
end Go.Abs.Wall
namespace Go.Abs.Wall
open Go Go.Abs Go.Proofs
theorem heap3 {a b:Nat} {x x' y y':List AV} {z:Heap} (hx:x=x') (hy:y=y'):(a,Ob.vec x)::(b,Ob.vec y)::z=(a,Ob.vec x')::(b,Ob.vec y')::z:=by subst hx;subst hy;rfl
def restF (G:List (List Edg)) (a:Nat) (j:Nat):AV:=.int .i64 (if a<=j then restV G j else -1)
def c59:Cfg:=⟨[0,1,2,4,5,6,7,8,9,10,11,13,14,19,29,30,31,44,67,76,77,78,79,115],[27],[13],[],[(22,[0,1,2,3,4,5,6,7,8],[]),(23,[0,1,2,3,4,5,6,7,8,9,10,11,12,13,14,15,16,17,18,19,20,21,22,23,24,25],[]),(24,[0,1,2,3,4,5,6,7,8,9,10],[])],[]⟩
set_option maxHeartbeats 2000000 in
theorem growA (H:Hou) (line:List Int) (hfit:HouFit H) (hlen:line.length<=1048576) :
  ACalls Tryz.prog 59 [.agg (encHou H),.sl 1 none (ints line)] [] (fun v h'=>(growErr H line≠0/\v=.tup [.nilP,.int .i64 (growErr H line)])\/(growErr H line=0/\∃ fb rb ev hp,v=.tup [.optr fb 0,.int .i64 0]/\Out 1 encEdgs (graphM H line) ev hp/\h'=(fb,.vec [ev,.osl rb 0 (line.length+1) 1])::(rb,.vec (rowsF (line.length+1) (restF (graphM H line) 0)))::hp)):=by
 have hlm:line.length<=LMAX:=by unfold LMAX;omega
 refine fcalls (F:=Tryz.f59) c59 rfl rfl rfl mixed rfl fun X=>?_;(conv=>whnf);repeat (refine QCall.k0 (checkW H line hfit hlm) ?_;conv=>whnf)
 refine ⟨fun hc=>?_,fun hc=>?_⟩<;>simp at hc
 ·have hg:growErr H line=lineErr H line:=(by rw [growErr,if_pos hc]);(conv=>whnf);exact .inl ⟨by rw [hg];exact hc,by rw [hg]⟩
 have hL:=lineOK hc;have hH:=hL.hou;have hfew:=hL.few;have hg:growErr H line=if 2000<sumL (graphM H line) then 2 else 0:=(by rw [growErr,if_neg (by omega)]);obtain ⟨G,hG⟩:∃ G,G=graphM H line:=⟨_,rfl⟩;have hGl:G.length=line.length:=by rw [hG];simp [graphM]
 have hGi:∀ i,i<line.length->G[i]?=some (edgsAt H line i):=fun i hi=>by rw [hG,graphM,List.getElem?_map,List.getElem?_range hi];rfl
 rw [<- hG] at hg ⊢;(conv=>whnf);repeat ((refine ⟨gP_of ⟨by rw [ints_length];omega,by rw [ints_length];omega⟩,?_⟩);conv=>whnf)
 rw [ints_length,show ((line.length:Nat):Int)+1=((line.length+1:Nat):Int) from rfl];refine ACalls.mono ?_ (repeatW (-1) (line.length+1) (by omega) (by omega));rintro w h1 ⟨rb,rfl,rfl⟩;(conv=>whnf);intro fb;(conv=>whnf);skip;refine tloop rfl mixed [1,2,7,8,29,30] [] (fun m r h=>∃ (i:Nat) (ev:AV) (hp:Heap),r=[(1,[],.sl 1 none (ints line)),(2,[],.iptr (encHou H)),(7,[],.optr fb 0),(8,[],.int .i64 (sumL (G.take i):Nat)),(29,[],.int .i64 (ints line).length),(30,[],.int .i64 i)]/\h=(fb,.vec [ev,.osl rb 0 (line.length+1) 1])::(rb,.vec (List.replicate (line.length+1) (.int .i64 (-1))))::hp/\m=line.length - i/\i<=line.length/\sumL (G.take i)<=2000/\Out 1 encEdgs (G.take i) ev hp) ?_ ?_
 ·(conv=>whnf);exact ⟨_,_,Turn.refl _ _,_,0,_,[],by simp [sumL],rfl,rfl,by omega,by simp [sumL],.inl ⟨by simp,rfl,rfl⟩⟩
 rintro m r h' ⟨i,ev,hp,rfl,rfl,rfl,hi,hsum,ho⟩;(conv=>whnf);refine ⟨fun hi2=>?_,fun hi2=>?_⟩<;>simp at hi2
 ·have hgi:=hGi i hi2;have htk:=take_snoc hgi;have hsn:sumL (G.take (i+1))=sumL (G.take i)+(edgsAt H line i).length:=(by rw [htk,sumL_snoc]);have hst:=sumL_take (g:=G) (i+1);(conv=>whnf);repeat (refine ⟨gP_of ⟨by omega,by omega⟩,?_⟩;conv=>whnf)
  rw [show (2000:Int) - ((sumL (G.take i):Nat):Int)=((2000 - sumL (G.take i):Nat):Int) by omega];refine QCall.k0 (wordsW H line i (2000 - sumL (G.take i)) hH hfit hL.signs hlen (by omega) (by omega)) ?_;by_cases hfi:(edgsAt H line i).length<=2000 - sumL (G.take i)
  ·rw [wordsM_fits hfi];have hel:((edgsAt H line i).map encEdg).length=(edgsAt H line i).length:=List.length_map _;rcases ho with ⟨he,rfl,rfl⟩|⟨q,rfl,rfl⟩
   all_goals
    (conv=>whnf);repeat (refine ⟨gP_of ⟨by omega,by omega⟩,?_⟩;conv=>whnf)
    refine ⟨fun hz=>absurd (of_decide_eq_true hz) (by omega),fun hz=>?_⟩;(conv=>whnf);repeat ((first|refine ⟨gP_of ⟨by omega,by omega⟩,?_⟩|(refine ⟨Nat.le_of_ble_eq_true rfl,fun q'=>?_⟩)|(refine ⟨(by simp;unfold AMAX;omega),fun q'=>⟨_,.there (.there (.here _)),?_⟩⟩)|refine ⟨_,_,.head _,rfl,?_⟩|refine ⟨_,_,.here _,leOK,?_⟩|refine ⟨_,_,.there (.here _),leOK,?_⟩);conv=>whnf)
    rw [show ((sumL (G.take i):Nat):Int)+((((edgsAt H line i).map encEdg).length:Nat):Int)=((sumL (G.take (i+1)):Nat):Int) by rw [hsn,hel,Int.natCast_add]];refine ⟨_,[(fb,.vec [.sl 1 (some q') ((G.take (i+1)).map encEdgs),AV.osl rb 0 (line.length+1) 1]),(rb,.vec (List.replicate (line.length+1) (.int .i64 (-1)))),(q',.tok)],?_,_,(by omega),i+1,_,[(q',.tok)],rfl,rfl,rfl,by omega,by omega,.inr ⟨q',rfl,rfl⟩⟩
    first
     | (rw [htk,he];exact Turn.perm (List.perm_append_comm (l₁:=[_]) (l₂:=[_,_])))
     | (rw [htk,List.map_append];exact Turn.refl _ _)
  have hel:((wordsM H line i (2000 - sumL (G.take i))).map encEdg).length=(wordsM H line i (2000 - sumL (G.take i))).length:=List.length_map _;rw [wordsM_long (by omega)] at hel;(conv=>whnf);repeat (refine ⟨gP_of ⟨by omega,by omega⟩,?_⟩;conv=>whnf)
  refine ⟨fun hz=>?_,fun hz=>absurd hz (by rw [decide_eq_false_iff_not];omega)⟩;have hg2:growErr H line=2:=(by rw [hg,if_pos (by omega)]);(conv=>whnf);exact .inl ⟨by rw [hg2];decide,by rw [hg2]⟩
 rw [List.take_of_length_le (by omega)] at hsum ho;have hg0:growErr H line=0:=(by rw [hg,if_neg (by omega)]);have hrow:List.replicate (line.length+1) (AV.int .i64 (-1))=rowsF (line.length+1) (fun _=>.int .i64 (-1)):=(by rw [<- repC_F,repC_one]);rw [hrow];(conv=>whnf);repeat ((first|(refine ⟨line.length,gP_of ⟨by rw [ints_length],by omega⟩,?_⟩)|(refine stoF ?_ (.there (.here _)) ?_;(focus omega))|(refine ⟨gP_of ⟨by rw [ints_length];omega,by rw [ints_length];omega⟩,?_⟩)|refine ⟨_,_,.head _,rfl,?_⟩);conv=>whnf)
 rw [show rowsF (line.length+1) (fun j=>if j=0+line.length*1 then AV.int .i64 0 else .int .i64 (-1))=rowsF (line.length+1) (restF G line.length) from rowsF_congr fun j hj=>by
  unfold restF;by_cases h:j=line.length
  ·rw [if_pos (by omega),if_pos (by omega),h,<- hGl,restV_end]
  rw [if_neg (by omega),if_neg (by omega)]]
 refine tloop rfl mixed [7,11] [] (fun m r h=>∃ (a:Nat) (c:Int),r=[(7,[],.optr fb 0),(11,[],.int .i64 c)]/\h=(fb,.vec [ev,.osl rb 0 (line.length+1) 1])::(rb,.vec (rowsF (line.length+1) (restF G a)))::hp/\m=a/\c=(a:Int) - 1/\a<=line.length) ?_ ?_
 ·(conv=>whnf);exact ⟨_,_,Turn.refl _ _,_,line.length,_,rfl,rfl,rfl,by rw [ints_length],by omega⟩
 rintro a r h' ⟨a',c,rfl,rfl,rfl,hca,ha⟩;(conv=>whnf);refine ⟨fun hi3=>?_,fun hi3=>?_⟩<;>simp at hi3
 ·obtain ⟨b,rfl⟩:∃ b,a=b+1:=⟨a - 1,by omega⟩;have hcb:c=(b:Int):=(by omega);subst hcb;have hgb:=hGi b (by omega);obtain ⟨es,hes⟩:∃ es,es=edgsAt H line b:=⟨_,rfl⟩;rw [<- hes] at hgb;have hmem:∀ x∈es,EdgAt H b x/\b+x.word.uses.length<=line.length/\0<=x.cost/\x.cost<=18000:=fun x hx=>edgsAt_mem hH hL.signs (by omega) x (by rw [<- hes];exact hx)
  have hGc:∀ e∈G,∀ x∈e,0<=x.cost/\x.cost<=18000:=by
   intro e he x hx;obtain ⟨i,hie⟩:=List.mem_iff_getElem?.1 he;have hil:i<line.length:=by have:=(List.getElem?_eq_some_iff.1 hie).1;omega
   rw [hGi i hil] at hie;cases hie
   exact (edgsAt_mem hH hL.signs (by omega) x hx).2.2
  have hesl:es.length<=2000:=by have h1:=sumL_take (g:=G) (b+1);rw [take_snoc hgb,sumL_snoc] at h1;omega
  rcases ho with ⟨he,rfl,rfl⟩|⟨q,rfl,rfl⟩
  ·rw [he] at hGl;simp at hGl;omega
  (conv=>whnf);repeat ((first|refine ix (by assumption) ?_|refine ⟨_,_,.head _,rfl,?_⟩);conv=>whnf)
  rw [show rowsF (line.length+1) (restF G (b+1))=rowsF (line.length+1) (fun j=>if j=b then .int .i64 ((es.take 0).foldl (edgeR (restT (G.drop (b+1)))) (-1)) else restF G (b+1) j) from rowsF_congr fun j hj=>by
   by_cases h:j=b
   ·rw [if_pos h];unfold restF;rw [if_neg (by omega)];rfl
   rw [if_neg h]]
  refine tloop rfl mixed [7,11,76,77,78] [] (fun m r h=>∃ (k:Nat),r=[(7,[],.optr fb 0),(11,[],.int .i64 b),(76,[],.sl 7 none (es.map encEdg)),(77,[],.int .i64 (es.map encEdg).length),(78,[],.int .i64 k)]/\h=(fb,.vec [.sl 1 (some q) (G.map encEdgs),.osl rb 0 (line.length+1) 1])::(rb,.vec (rowsF (line.length+1) (fun j=>if j=b then .int .i64 ((es.take k).foldl (edgeR (restT (G.drop (b+1)))) (-1)) else restF G (b+1) j)))::[(q,.tok)]/\m=es.length - k/\k<=es.length) ?_ ?_
  ·(conv=>whnf);exact ⟨_,_,Turn.refl _ _,_,0,rfl,rfl,rfl,by omega⟩
  rintro m r h' ⟨k,rfl,rfl,rfl,hk⟩;(conv=>whnf);refine ⟨fun hk2=>?_,fun hk2=>?_⟩<;>simp at hk2
  ·obtain ⟨x,hx⟩:=get_lt hk2;obtain ⟨hxa,hxt,hxc⟩:=hmem x (List.mem_of_getElem? hx);have hu1:=hxa.some;have hto:=hxa.to;have htk:=take_snoc hx;obtain ⟨u,hu⟩:∃ u,u=x.word.uses.length:=⟨_,rfl⟩;rw [<- hu] at hxt hu1 hto;obtain ⟨cur,hcur⟩:∃ cur,cur=(es.take k).foldl (edgeR (restT (G.drop (b+1)))) (-1):=⟨_,rfl⟩;obtain ⟨qv,hqv⟩:∃ qv,qv=restV G (b+u):=⟨_,rfl⟩;have hqt:(restT (G.drop (b+1))).getD (x.word.uses.length - 1) 0=qv:=by have h1:=restT_get (G.drop (b+1)) (u - 1) (by rw [List.length_drop];omega);rw [restV_drop,show b+1+(u - 1)=b+u by omega,<- hqv] at h1;rw [List.getD,<- hu,h1];rfl
   have hnx:(es.take (k+1)).foldl (edgeR (restT (G.drop (b+1)))) (-1)=edgeStep qv cur x.cost:=by rw [htk,List.foldl_append,<- hcur];show edgeR _ cur x=_;unfold edgeR;rw [hqt]
   have hbt:=restT_bound (G.drop (b+1)) fun e he=>hGc e (List.mem_of_mem_drop he);have hqb:-1<=qv/\qv<=18000*60:=by have h1:=restT_get (G.drop (b+1)) (u - 1) (by rw [List.length_drop];omega);rw [restV_drop,show b+1+(u - 1)=b+u by omega,<- hqv] at h1;have:=hbt qv (List.mem_of_getElem? h1);rw [List.length_drop] at this;omega
   have hq1:(fun j=>if j=b then AV.int .i64 cur else restF G (b+1) j) (0+(b+u)*1)=.int .i64 qv:=by show (if 0+(b+u)*1=b then _ else _)=_;rw [if_neg (by omega)];unfold restF;rw [if_pos (by omega),hqv,show 0+(b+u)*1=b+u by omega]
   have hq2:(fun j=>if j=b then AV.int .i64 cur else restF G (b+1) j) (0+b*1)=.int .i64 cur:=by show (if 0+b*1=b then _ else _)=_;rw [if_pos (by omega)]
   rw [<- hcur];(conv=>whnf);repeat ((first|refine ⟨gP_of ⟨by omega,by omega⟩,?_⟩|refine ix (by assumption) ?_|(refine ⟨b+u,gP_of ⟨by rw [hto];omega,by omega⟩,?_⟩)|(refine ixo (i:=b) (by omega) ?_)|(refine ldoF (.int .i64 qv) (.tail _ (.head _)) rfl (by omega) hq1 ?_)|(refine ldoF (.int .i64 cur) (.tail _ (.head _)) rfl (by omega) hq2 ?_)|refine ⟨_,_,Rem.here _,⟨Nat.le_of_ble_eq_true rfl,rfl⟩,?_⟩|refine ⟨_,_,.head _,rfl,?_⟩|refine And.intro (by show drawOK (opsAt Tryz.f59 _) _=true;decide +kernel) ?_|intro (nb:Nat));conv=>whnf)
   refine ⟨fun hz=>?_,fun hz=>?_⟩
   ·have hn:edgeStep qv cur x.cost=x.cost+qv:=by unfold edgeStep;rw [if_pos hz]
    rw [hn] at hnx;(conv=>whnf);repeat ((first|refine ⟨gP_of ⟨by omega,by omega⟩,?_⟩|(refine ixo (i:=b) (by omega) ?_)|(refine stoF ?_ (.there (.here _)) ?_;(focus omega))|refine ⟨_,_,.head _,rfl,?_⟩|refine And.intro (by show drawOK (opsAt Tryz.f59 _) _=true;decide +kernel) ?_);conv=>whnf)
    refine ⟨_,_,Turn.refl _ _,_,(by omega),k+1,rfl,?_,rfl,by omega⟩;rw [hnx];refine heap3 rfl (rowsF_congr fun j hj=>?_);by_cases h:j=b
    ·rw [if_pos (by omega),if_pos h]
    rw [if_neg (by omega),if_neg h,if_neg h]
   have hn:edgeStep qv cur x.cost=cur:=by unfold edgeStep;rw [if_neg (by rw [hz];decide)]
   rw [hn] at hnx;(conv=>whnf);repeat (refine ⟨gP_of ⟨by omega,by omega⟩,?_⟩;conv=>whnf)
   refine ⟨_,_,Turn.refl _ _,_,(by omega),k+1,rfl,?_,rfl,by omega⟩;rw [hnx]
  rw [List.take_of_length_le hk2];have hrv:restV G b=es.foldl (edgeR (restT (G.drop (b+1)))) (-1):=by unfold restV;rw [drop_cons hgb];rfl
  rw [<- hrv,show rowsF (line.length+1) (fun j=>if j=b then AV.int .i64 (restV G b) else restF G (b+1) j)=rowsF (line.length+1) (restF G b) from rowsF_congr fun j hj=>by
   by_cases h:j=b
   ·rw [if_pos h];unfold restF;rw [if_pos (by omega),h]
   rw [if_neg h];unfold restF;by_cases h2:b<=j
   ·rw [if_pos (by omega),if_pos h2]
   rw [if_neg (by omega),if_neg h2]]
  (conv=>whnf);repeat (refine ⟨gP_of ⟨by omega,by omega⟩,?_⟩;conv=>whnf)
  exact ⟨_,_,Turn.refl _ _,_,(by omega),b,_,rfl,rfl,rfl,rfl,by omega⟩
 have:a=0:=(by omega);subst this;(conv=>whnf);skip;exact .inr ⟨hg0,fb,rb,ev,hp,rfl,ho,rfl⟩
end Go.Abs.Wall
namespace Go.Abs.Wall
open Go Go.Abs Go.Proofs
def ins {α:Type} (cmp:α->α->Int) (a:α):List α->List α
 | []=>[a]
 | b::t=>if cmp b a<0 then b::ins cmp a t else a::b::t
def isort {α:Type} (cmp:α->α->Int):List α->List α
 | []=>[]
 | a::t=>ins cmp a (isort cmp t)
theorem ins_perm {α:Type} {cmp:α->α->Int} {a:α}:∀ {l:List α},(ins cmp a l).Perm (a::l)
 | []=>.refl _
 | b::t=>by
   unfold ins;split
   ·exact (List.Perm.cons _ ins_perm).trans (.swap _ _ _)
   exact .refl _
theorem isort_perm {α:Type} {cmp:α->α->Int}:∀ {l:List α},(isort cmp l).Perm l
 | []=>.refl _
 | a::t=>ins_perm.trans (List.Perm.cons _ isort_perm)
theorem ins_sorted {α:Type} {cmp:α->α->Int} (h:OrdW cmp) {a:α}:∀ {l:List α},l.Pairwise (fun x y=>¬ cmp y x<0)->(ins cmp a l).Pairwise fun x y=>¬ cmp y x<0
 | [],_=>by simp [ins]
 | b::t,hl=>by
   rw [List.pairwise_cons] at hl;unfold ins;split
   ·rename_i hc;rw [List.pairwise_cons];refine ⟨fun x hx=>?_,ins_sorted h hl.2⟩;rcases List.mem_cons.1 (ins_perm.mem_iff.1 hx) with rfl|hx
    ·exact fun h2=>h.irr _ (h.tr _ _ _ hc h2)
    exact hl.1 x hx
   rename_i hc;rw [List.pairwise_cons,List.pairwise_cons];refine ⟨fun x hx=>?_,hl⟩;rcases List.mem_cons.1 hx with rfl|hx
   ·exact hc
   exact h.nt _ _ _ (hl.1 x hx) hc
theorem isort_sorted {α:Type} {cmp:α->α->Int} (h:OrdW cmp):∀ {l:List α},(isort cmp l).Pairwise fun x y=>¬ cmp y x<0
 | []=>.nil
 | a::t=>ins_sorted h (isort_sorted h)
theorem OrdW.isort {α:Type} {cmp:α->α->Int} (h:OrdW cmp) {l:List α} (ha:∀ x∈l,∀ y∈l,¬ cmp x y<0->¬ cmp y x<0->x=y):sortL cmp l=Wall.isort cmp l:=(h.unique ha isort_perm (isort_sorted h)).symm
theorem usesM_i (p:Int) (s:Sgn):usesM p s=isort useCmp (useGo p s.values):=zU.c.w.isort fun x _ y _=>zU.c.anti x y
end Go.Abs.Wall
namespace Go.Abs.Wall
open Go Go.Abs Go.Proofs
section
variable {α:Type} {k:Nat} {enc:α->List AV}
theorem flat_len (hk:∀ a,(enc a).length=k) (L:List α):((L.map enc).flatten).length=L.length*k:=enc_len hk
theorem flat_drop (hk:∀ a,(enc a).length=k):∀ (L:List α) (i:Nat),((L.map enc).flatten).drop (i*k)=((L.drop i).map enc).flatten
 | L,0=>by simp
 | [],i+1=>by simp
 | a::L,i+1=>by rw [List.map_cons,List.flatten_cons,List.drop_succ_cons,show (i+1)*k=(enc a).length+i*k by rw [hk,Nat.succ_mul,Nat.add_comm],List.drop_append,List.drop_eq_nil_of_le (Nat.le_add_right _ _),List.nil_append,Nat.add_sub_cancel_left];exact flat_drop hk L i
theorem flat_take (hk:∀ a,(enc a).length=k):∀ (L:List α) (i:Nat),((L.map enc).flatten).take (i*k)=((L.take i).map enc).flatten
 | L,0=>by simp
 | [],i+1=>by simp
 | a::L,i+1=>by rw [List.map_cons,List.flatten_cons,List.take_succ_cons,List.map_cons,List.flatten_cons,show (i+1)*k=(enc a).length+i*k by rw [hk,Nat.succ_mul,Nat.add_comm],List.take_append,List.take_of_length_le (Nat.le_add_right _ _),Nat.add_sub_cancel_left];rw [flat_take hk L i]
theorem ldE {P:Program} {t:TypeId} {b o i:Nat} {h:Heap} {L:List α} {x:α} {K:AV->Prop} (hk:∀ a,(enc a).length=k) (hm:(b,Ob.vec (L.map enc).flatten)∈h) (ho:o=i*k) (hx:L[i]?=some x)
  (hl:loadI P t (enc x++((L.drop (i+1)).map enc).flatten) K):∃ cs l,(b,Ob.vec cs)∈h/\dropN o cs=some l/\loadI P t l K:=by
 obtain ⟨hi,hx'⟩:=List.getElem?_eq_some_iff.1 hx;refine ⟨_,_,hm,dropN_some ?_,?_⟩
 ·rw [flat_len hk,ho];exact Nat.mul_le_mul_right k (by omega)
 rw [ho,flat_drop hk,List.drop_eq_getElem_cons hi,hx',List.map_cons,List.flatten_cons];exact hl
theorem setC_flat (hk:∀ a,(enc a).length=k) {L:List α} {i:Nat} {y:α} (hi:i<L.length):setC (L.map enc).flatten (i*k) (enc y)=((L.set i y).map enc).flatten:=by unfold setC;rw [hk,flat_take hk,show i*k+k=(i+1)*k by rw [Nat.succ_mul],flat_drop hk,List.set_eq_take_append_cons_drop,if_pos hi];simp
theorem stE {b o i:Nat} {h h':Heap} {L:List α} {l:List AV} {K:AV->Heap->Prop} (y:α) (hk0:0<k) (hk:∀ a,(enc a).length=k) (hi:i<L.length) (ho:o=i*k) (hl:l=enc y)
  (hu:Upd b (.vec (L.map enc).flatten) b (.vec ((L.set i y).map enc).flatten) h h') (hK:K .unit h') :
  ∃ cs h',Upd b (.vec cs) b (.vec (setC cs o l)) h h'/\(0<l.length/\o+l.length<=cs.length)/\K .unit h':=by
 subst ho hl;refine ⟨_,h',by rw [setC_flat hk hi];exact hu,⟨by rw [hk];exact hk0,?_⟩,hK⟩;rw [hk,flat_len hk,<- Nat.succ_mul];exact Nat.mul_le_mul_right k hi
end
end Go.Abs.Wall
namespace Go.Abs.Wall
open Go Go.Abs Go.Proofs
def inUse (p:Int) (v:Val):Bool:=wthn p v.fr v.to
end Go.Abs.Wall
namespace Go.Abs.Wall
open Go Go.Abs Go.Proofs
theorem useOf_kind (v:Val):(v.kind=1/\useOf v=[⟨1,v.text⟩,⟨3,v.text⟩])\/(v.kind=2/\useOf v=[⟨2,v.text⟩])\/(v.kind=3/\useOf v=[⟨4,v.text⟩])\/(v.kind≠1/\v.kind≠2/\v.kind≠3/\useOf v=[]):=by
 unfold useOf;by_cases h1:v.kind=1
 ·exact .inl ⟨h1,by rw [if_pos h1]⟩
 by_cases h2:v.kind=2
 ·exact .inr (.inl ⟨h2,by rw [if_neg h1,if_pos h2]⟩)
 by_cases h3:v.kind=3
 ·exact .inr (.inr (.inl ⟨h3,by rw [if_neg h1,if_neg h2,if_pos h3]⟩))
 exact .inr (.inr (.inr ⟨h1,h2,h3,by rw [if_neg h1,if_neg h2,if_neg h3]⟩))
theorem useOf_key {u:Use} {v:Val} (h:u∈useOf v):v.text=u.text/\v.kind=(if u.kind=2 then 2 else if u.kind=4 then 3 else 1):=by
 rcases useOf_kind v with ⟨hk,e⟩|⟨hk,e⟩|⟨hk,e⟩|⟨_,_,_,e⟩<;>rw [e] at h<;>simp at h
 ·rcases h with rfl|rfl<;>simp [hk]
 ·subst h;simp [hk]
 subst h;simp [hk]
theorem useOf_nodup (v:Val):(useOf v).Nodup:=by rcases useOf_kind v with ⟨hk,e⟩|⟨hk,e⟩|⟨hk,e⟩|⟨_,_,_,e⟩<;>rw [e]<;>simp
theorem useOf_fresh {p:Int} {v w:Val} (hm:meetB v w=false) (hv:inUse p v=true) (hw:inUse p w=true):∀ u∈useOf v,u ∉ useOf w:=by
 have hov:¬ (v.kind=w.kind/\v.text=w.text):=by rintro ⟨h1,h2⟩;unfold inUse at hv hw;rw [wthn_iff] at hv hw;unfold meetB at hm;rw [decide_eq_true h1,decide_eq_true h2,decide_eq_true (show v.fr<=w.to by omega),decide_eq_true (show w.fr<=v.to by omega)] at hm;cases hm
 intro u hu hu2;have h1:=useOf_key hu;have h2:=useOf_key hu2;exact hov ⟨h1.2.trans h2.2.symm,h1.1.trans h2.1.symm⟩
def Apart (p:Int):List Val->Prop
 | []=>True
 | v::t=>(∀ w∈t,inUse p v=true->inUse p w=true->meetB w v=false)/\Apart p t
theorem valErr_apart {l:Lst} {b:List Val} {v:Val} (h:valErr l b v=0):∀ w∈b,meetB v w=false:=by
 unfold valErr at h;split at h
 ·cases h
 split at h
 ·cases h
 split at h
 ·cases h
 rename_i h3;rw [Bool.not_eq_true,List.any_eq_false] at h3;exact fun w hw=>by simpa using h3 w hw
theorem valsErr_get {l:Lst} {vs:List Val}:∀ {t:List Val} {i:Nat},vs.drop i=t->valsErr l vs t i=0->∀ j v,i<=j->vs[j]?=some v->valErr l (vs.take j) v=0
 | [],i,hd,h,j,v,hj,hv=>by have:=(List.getElem?_eq_some_iff.1 hv).1;have hl:=congrArg List.length hd;rw [List.length_drop,List.length_nil] at hl;omega
 | a::t,i,hd,h,j,v,hj,hv=>by
   unfold valsErr at h;split at h
   ·rename_i h1;exact absurd h h1
   rename_i h1;by_cases hij:j=i
   ·subst hij;have:vs[j]?=some a:=by have:=congrArg (fun z=>z[0]?) hd;simpa using this
    rw [hv] at this;cases this
    exact by simpa using h1
   exact valsErr_get (t:=t) (i:=i+1) (by have:=congrArg List.tail hd;simpa [List.tail_drop] using this) h j v (by omega) hv
theorem apart_of {p:Int}:∀ {vs:List Val},(∀ (j k:Nat) v w,j<k->vs[j]?=some v->vs[k]?=some w->meetB w v=false)->Apart p vs
 | [],_=>trivial
 | a::t,h=>⟨fun w hw _ _=>by
    obtain ⟨k,hk⟩:=List.mem_iff_getElem?.1 hw;exact h 0 (k+1) a w (by omega) rfl (by simpa using hk),apart_of fun j k v w hj hv hw=>h (j+1) (k+1) v w (by omega) (by simpa using hv) (by simpa using hw)⟩
theorem sgn_apart {l:Lst} {s:Sgn} (h:sgnErr l s=0) (p:Int):Apart p s.values:=by
 unfold sgnErr at h;split at h
 ·cases h
 split at h
 ·cases h
 refine apart_of fun j k v w hj hv hw=>?_;have:=valsErr_get (i:=0) rfl h k w (by omega) hw;exact valErr_apart this v (List.mem_of_getElem? (i:=j) (by rw [List.getElem?_take,if_pos hj,hv]))
theorem useGo_nodup {p:Int}:∀ {vs:List Val},Apart p vs->(useGo p vs).Nodup
 | [],_=>.nil
 | v::t,h=>by
   unfold useGo;split
   ·rename_i hw;rw [List.nodup_append];refine ⟨useOf_nodup v,useGo_nodup h.2,fun u hu u' hu' e=>?_⟩;subst e
    have hmem:∀ {t:List Val},u∈useGo p t->∃ w∈t,inUse p w=true/\u∈useOf w:=by
     intro t;induction t with
     | nil=>intro h;cases h
     | cons a t ih=>
       intro h;unfold useGo at h;rcases List.mem_append.1 h with h|h
       ·split at h
        ·rename_i h1;exact ⟨a,by simp,h1,h⟩
        cases h
       obtain ⟨w,h1,h2⟩:=ih h;exact ⟨w,by simp [h1],h2⟩
    obtain ⟨w,h1,h2,h3⟩:=hmem hu';exact useOf_fresh (h.1 w h1 hw h2) h2 hw u h3 hu
   rw [List.nil_append];exact useGo_nodup h.2
theorem lst_sgn {l:Lst} (h:lstErr l=0):∀ s∈l.signs,sgnErr l s=0:=by
 unfold lstErr at h;split at h
 ·cases h
 split at h
 ·cases h
 have hgo:∀ {t:List Sgn} {seen:List (List UInt8)},lstGo l t seen=0->∀ s∈t,sgnErr l s=0:=by
  intro t;induction t with
  | nil=>intro seen _ s hs;cases hs
  | cons a t ih=>
    intro seen h s hs;unfold lstGo at h;split at h
    ·cases h
    split at h
    ·rename_i h1;exact absurd h h1
    rename_i h1;rcases List.mem_cons.1 hs with rfl|hs
    ·simpa using h1
    exact ih h s hs
 exact hgo h
end Go.Abs.Wall
namespace Go.Abs.Wall
open Go Go.Abs Go.Proofs
def lastPart (s:Sp) (cl:List Int):List UInt8:=match cl.getLast? with
 | some c=>(cliAt s.H.lex c).text
 | none=>s.body
def baseL (s:Sp) (cl:List Int):Nat:=(tot s cl).length - (lastPart s cl).length
theorem lastPart_snoc (s:Sp) (cl:List Int) (c:Int):lastPart s (cl++[c])=(cliAt s.H.lex c).text:=by unfold lastPart;simp
theorem tot_last (s:Sp) (cl:List Int):∃ pre,tot s cl=pre++lastPart s cl/\pre.length=baseL s cl:=by
 rcases List.eq_nil_or_concat cl with rfl|⟨l,c,hcl⟩
 ·refine ⟨[],?_,?_⟩
  ·simp [tot,cliT,lastPart]
  simp [baseL,tot,cliT,lastPart]
 rw [List.concat_eq_append] at hcl;subst hcl;refine ⟨tot s l,?_,?_⟩
 ·rw [lastPart_snoc,tot_snoc]
 unfold baseL;rw [lastPart_snoc,tot_snoc,List.length_append];omega
structure HOK (s:Sp) (p:Prg) (T:List Use):Prop where
 ok:PrgOK s p
 base:baseL s p.cl<=p.sounds.length
 new:T=[]->p.last.kind=0
 last:T≠[]->T.getLast?=some p.last/\p.last.kind≠0
 few:T.length<=12
 len:p.last.text.length<=8
theorem HOK.part {s:Sp} {p:Prg} {T:List Use} (h:HOK s p T):partM s p=(lastPart s p.cl).drop ((p.sounds.length:Int) - baseL s p.cl).toNat/\(p.sounds.length:Int) - baseL s p.cl<=(lastPart s p.cl).length:=by obtain ⟨pre,h1,h2⟩:=tot_last s p.cl;have h3:=h.base;have h4:=h.ok.sounds;rw [h1,List.length_append] at h4;refine ⟨?_,by omega⟩;unfold partM;rw [h1,List.drop_append,List.drop_eq_nil_of_le (by omega),List.nil_append];congr 1;omega
theorem hok0 (s:Sp):HOK s prg0 []:=⟨prg0_ok s,by simp [baseL,tot,cliT,lastPart,prg0],fun _=>rfl,fun h=>absurd rfl h,by simp,by simp [prg0]⟩
theorem VLe.one {k:Nat} {t:Option Nat} {x y:List AV} (h:VsLe x y):VLe (.sl k t [x]) (.sl k none [y]):=by refine fun c u hu=>VLe.sl c u (VLe.els (.cons h .nil) c u hu)
end Go.Abs.Wall
namespace Go.Abs.Wall
open Go Go.Abs Go.Proofs
end Go.Abs.Wall
namespace Go.Abs.Wall
open Go Go.Abs Go.Proofs
end Go.Abs.Wall
namespace Go.Abs.Wall
open Go Go.Abs Go.Proofs
end Go.Abs.Wall
