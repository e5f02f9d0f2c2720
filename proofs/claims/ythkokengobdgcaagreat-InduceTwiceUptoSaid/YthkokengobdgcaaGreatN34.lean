/- What is proved: small laws for the walks of this seat, and contracts of its functions. No condition but those each theorem names. -/
import Derived.Test.YthkokengobdgcaaGreatN33
import Derived.Test.YthkokengobdgcaaGreatN26
set_option maxRecDepth 100000
set_option maxHeartbeats 2000000
set_option linter.unusedVariables false
set_option linter.unusedSimpArgs false
namespace Go.Abs.Wall.Lst
open Go Go.Abs Go.Proofs Go.Abs.Wall
def c25:Cfg:=⟨[0,1,2,3,4,5,6,7,32,37,50,55,68,73,86],[],[],[],[(6,[0,1,2,3,4,5,6,7,8,9,10],[]),(11,[0,1,2,3,4,5,6,7,8,9,10],[]),(16,[0,1,2,3,4,5,6,7,8,9,10],[])],[]⟩
def c29:Cfg:=⟨[0,1,2,3,4,5,6,7,8,22,27,74,79,92],[],[6,7],[],[(12,[0,1,2,3,4,5,6,7,8,9,10],[])],[]⟩
def c27:Cfg:=⟨[0,1,2,4,5,6,10,19],[],[],[],[],[]⟩
def c28:Cfg:=⟨[0,1,2,4,5,6,10,19],[],[],[],[],[]⟩
def c6:Cfg:=⟨[0,1,2,4,5,6,7,8,10],[],[5,7],[],[],[]⟩
theorem sameLexW (x:Lex) (h1:x.entries.length≤1048576) (h2:x.endings.length≤1048576) (h3:x.clitics.length≤1048576):QCall Tryz.prog 25 [.agg (encLex x),.agg (encLex x)] [] (.bool true):=by
 refine fcalls (F:=Tryz.f25) c25 rfl rfl rfl mixed rfl fun X=>?_
 conv=>whnf
 skip
 refine cF (by simp) ?_
 conv=>whnf
 skip
 refine sloop rfl mixed [2,3,5] [] (fun m r h=>∃ (i:Nat),r=[(2,[],.iptr (encLex x)),(3,[],.iptr (encLex x)),(5,[],.int .i64 i)]∧h=[]∧m=x.entries.length - i∧i≤x.entries.length) ?_ ?_
 ·conv=>whnf
  exact ⟨_,0,rfl,rfl,rfl,by omega⟩
 ·rintro m r h ⟨i,rfl,rfl,rfl,hi⟩
  conv=>whnf
  skip
  refine ⟨fun hi2=>?_,fun hi2=>?_⟩<;>simp at hi2
  ·obtain ⟨e,he⟩:=get_lt hi2
   conv=>whnf
   repeat ((first|refine ix (by assumption) ?_|(refine And.intro (by show plainT _ _=true;decide +kernel) ?_)|refine And.intro (by show drawOK (opsAt Tryz.f25 _) _=true;decide +kernel) ?_);conv=>whnf)
   refine cF (by simp) ?_
   conv=>whnf
   repeat (refine ⟨gP_of ⟨by omega,by omega⟩,?_⟩;conv=>whnf)
   exact ⟨_,by omega,i+1,rfl,rfl,rfl,by omega⟩
  ·conv=>whnf
   skip
   refine sloop rfl mixed [2,3,6] [] (fun m r h=>∃ (i:Nat),r=[(2,[],.iptr (encLex x)),(3,[],.iptr (encLex x)),(6,[],.int .i64 i)]∧h=[]∧m=x.endings.length - i∧i≤x.endings.length) ?_ ?_
   ·conv=>whnf
    exact ⟨_,0,rfl,rfl,rfl,by omega⟩
   ·rintro m r h ⟨i,rfl,rfl,rfl,hi⟩
    conv=>whnf
    skip
    refine ⟨fun hi2=>?_,fun hi2=>?_⟩<;>simp at hi2
    ·obtain ⟨e,he⟩:=get_lt hi2
     conv=>whnf
     repeat ((first|refine ix (by assumption) ?_|(refine And.intro (by show plainT _ _=true;decide +kernel) ?_)|refine And.intro (by show drawOK (opsAt Tryz.f25 _) _=true;decide +kernel) ?_);conv=>whnf)
     refine cF (by simp) ?_
     conv=>whnf
     repeat (refine ⟨gP_of ⟨by omega,by omega⟩,?_⟩;conv=>whnf)
     exact ⟨_,by omega,i+1,rfl,rfl,rfl,by omega⟩
    ·conv=>whnf
     skip
     refine sloop rfl mixed [2,3,7] [] (fun m r h=>∃ (i:Nat),r=[(2,[],.iptr (encLex x)),(3,[],.iptr (encLex x)),(7,[],.int .i64 i)]∧h=[]∧m=x.clitics.length - i∧i≤x.clitics.length) ?_ ?_
     ·conv=>whnf
      exact ⟨_,0,rfl,rfl,rfl,by omega⟩
     ·rintro m r h ⟨i,rfl,rfl,rfl,hi⟩
      conv=>whnf
      skip
      refine ⟨fun hi2=>?_,fun hi2=>?_⟩<;>simp at hi2
      ·obtain ⟨e,he⟩:=get_lt hi2
       conv=>whnf
       repeat ((first|refine ix (by assumption) ?_|(refine And.intro (by show plainT _ _=true;decide +kernel) ?_)|refine And.intro (by show drawOK (opsAt Tryz.f25 _) _=true;decide +kernel) ?_);conv=>whnf)
       refine cF (by simp) ?_
       conv=>whnf
       repeat (refine ⟨gP_of ⟨by omega,by omega⟩,?_⟩;conv=>whnf)
       exact ⟨_,by omega,i+1,rfl,rfl,rfl,by omega⟩
      ·conv=>whnf
       skip
       exact ⟨rfl,rfl⟩
theorem sameLstW (l:Lst) (h1:l.signs.length≤1048576) (h2:∀ s∈l.signs,s.values.length≤1048576):QCall Tryz.prog 29 [.agg (encLst l),.agg (encLst l)] [] (.bool true):=by
 refine fcalls (F:=Tryz.f29) c29 rfl rfl rfl mixed rfl fun X=>?_
 conv=>whnf
 skip
 refine cF (by simp) ?_
 conv=>whnf
 skip
 refine sloop rfl mixed [2,3,5] [] (fun m r h=>∃ (i:Nat),r=[(2,[],.iptr (encLst l)),(3,[],.iptr (encLst l)),(5,[],.int .i64 i)]∧h=[]∧m=l.signs.length - i∧i≤l.signs.length) ?_ ?_
 ·conv=>whnf
  exact ⟨_,0,rfl,rfl,rfl,by omega⟩
 ·rintro m r h ⟨i,rfl,rfl,rfl,hi⟩
  conv=>whnf
  skip
  refine ⟨fun hi2=>?_,fun hi2=>?_⟩<;>simp at hi2
  ·obtain ⟨s,hs⟩:=get_lt hi2
   have hsv:=h2 s (List.mem_of_getElem? hs)
   conv=>whnf
   refine make_region rfl mixed [0,1,2,3,4,5,6,7,8,9] [10,11] [12,13] [6,7] (by show drawOK (opsAt Tryz.f29 _) _=true;decide +kernel) ?_
   conv=>whnf
   repeat (refine ix (by assumption) ?_;conv=>whnf)
   apply byKey2
   ·intro key
    refine ⟨by decide +kernel,?_,?_,trivial⟩
    all_goals
     conv=>whnf
     refine ⟨by decide +kernel,?_⟩
     conv=>whnf
     intro n1
     conv=>whnf
     refine ⟨by decide +kernel,?_,trivial⟩
     conv=>whnf
     refine ⟨by decide +kernel,?_⟩
     conv=>whnf
     intro n2
     conv=>whnf
     repeat ((first|refine ⟨_,_,Rem.here _,?_⟩|refine ⟨_,_,Rem.there (.here _),?_⟩|refine ⟨_,_,.here _,leOK,?_⟩|refine ⟨_,_,.there (.here _),leOK,?_⟩);conv=>whnf)
     exact ⟨_,_,Turn.refl _ _,key n1 n2⟩
   intro _ _
   conv=>whnf
   skip
   refine cF (by simp) ?_
   conv=>whnf
   skip
   refine sloop rfl mixed [2,3,5,6,7,8] [] (fun m r h=>∃ (k:Nat),r=[(2,[],.iptr (encLst l)),(3,[],.iptr (encLst l)),(5,[],.int .i64 i),(6,[],.iptr (encSgn s)),(7,[],.iptr (encSgn s)),(8,[],.int .i64 k)]∧h=[]∧m=s.values.length - k∧k≤s.values.length) ?_ ?_
   ·conv=>whnf
    exact ⟨_,0,rfl,rfl,rfl,by omega⟩
   ·rintro m r h ⟨k,rfl,rfl,rfl,hk⟩
    conv=>whnf
    skip
    refine ⟨fun hk2=>?_,fun hk2=>?_⟩<;>simp at hk2
    ·obtain ⟨v,hv⟩:=get_lt hk2
     conv=>whnf
     repeat ((first|refine ix (by assumption) ?_|(refine And.intro (by show plainT _ _=true;decide +kernel) ?_)|refine And.intro (by show drawOK (opsAt Tryz.f29 _) _=true;decide +kernel) ?_);conv=>whnf)
     refine cF (by simp) ?_
     conv=>whnf
     repeat (refine ⟨gP_of ⟨by omega,by omega⟩,?_⟩;conv=>whnf)
     exact ⟨_,by omega,k+1,rfl,rfl,rfl,by omega⟩
    ·conv=>whnf
     repeat (refine ⟨gP_of ⟨by omega,by omega⟩,?_⟩;conv=>whnf)
     exact ⟨_,by omega,i+1,rfl,rfl,rfl,by omega⟩
  ·conv=>whnf
   skip
   exact ⟨rfl,rfl⟩
def zeroHou:Hou:=⟨⟨0,[]⟩,⟨[],[],[]⟩,⟨0,0,0,0,0⟩,0⟩
def onlyErr (H:Hou) (keep:List Int):Int:=if houErr H≠0 then houErr H else if risM keep H.lex.entries.length=true then 0 else 1
def onlyR (H:Hou) (keep:List Int):Hou:=if onlyErr H keep=0 then onlyH H keep else zeroHou
structure OnlyFit (H:Hou) (keep:List Int):Prop where
 signs:H.list.signs.length≤1048576
 vals:∀ s∈H.list.signs,s.values.length≤1048576
 ends:H.lex.endings.length≤1048576
 clis:H.lex.clitics.length≤1048576
 inr:∀ k∈keep,0≤k∧k<H.lex.entries.length
theorem only_fit {H:Hou} {keep:List Int} (h:houErr H=0) (hk:risM keep H.lex.entries.length=true):OnlyFit H keep:=by
 have ho:=houOK h
 have hl:=lstOK ho.lst
 have hm:=ho.lex.many
 have h1:=hl.many
 exact ⟨by omega,fun s hs=>by have:=(hl.each s hs).few;omega,by omega,by omega,(risM_iff.1 hk).2⟩
theorem zeroLe:VLe (.agg ([.int .i64 0,.nilS]++([.nilS,.nilS,.nilS]++([.int .i64 0,.int .i64 0,.int .i64 0,.int .i64 0,.int .i64 0]++[.int .i64 0])))) (.agg (encHou zeroHou)):=
 VLe.agg (.cons (VLe.refl _) (.cons (VLe.nil (by decide)) (.cons (VLe.nil (by decide)) (.cons (VLe.nil (by decide)) (.cons (VLe.nil (by decide)) (VsLe.refl _))))))
theorem OnlyW (H:Hou) (keep:List Int) (hf:HouFit H) (hk:keep.length≤1048576) :
  QCall Tryz.prog 27 [.agg (encHou H),.sl 1 none (ints keep)] [] (.tup [.agg (encHou (onlyR H keep)),.int .i64 (onlyErr H keep)]):=by
 have hch:=checkHouse H hf
 have hel:=hf.lex.entries
 unfold LMAX at hel
 have hri:QCall Tryz.prog 72 [.sl 1 none (ints keep),.int .i64 ((H.lex.entries.map encEnt).length:Nat)] [] (.bool (risM keep H.lex.entries.length)):=by
  rw [List.length_map]
  exact risW keep H.lex.entries.length (by unfold LMAX;omega) (by omega)
 refine QCall.of ?_
 refine fcalls (F:=Tryz.f27) c27 rfl rfl rfl mixed rfl fun X=>?_
 conv=>whnf
 by_cases h0:houErr H=0
 ·cases h1:risM keep H.lex.entries.length with
  | true=>
    have he:onlyErr H keep=0:=by rw [onlyErr,if_neg (by omega),if_pos h1]
    have hfit:=only_fit h0 h1
    rw [onlyR,if_pos he,he]
    rw [h0] at hch
    rw [h1] at hri
    conv=>whnf
    repeat ((first|refine QCall.k0 (hch) ?_|intro (nb:Nat));conv=>whnf)
    refine cF rfl ?_
    conv=>whnf
    repeat (refine QCall.k0 (hri) ?_;conv=>whnf)
    refine cF rfl ?_
    conv=>whnf
    repeat ((first|refine QCall.k0 (onlyA H keep hf hfit.signs hfit.vals hfit.ends hfit.clis hk hfit.inr) ?_|refine ⟨_,_,.head _,rfl,?_⟩|refine ⟨_,_,.here _,leOK,?_⟩);conv=>whnf)
    exact VLe.refl _
  | false=>
    have he:onlyErr H keep=1:=by rw [onlyErr,if_neg (by omega),if_neg (by rw [h1];decide)]
    rw [onlyR,he,if_neg (by decide)]
    rw [h0] at hch
    rw [h1] at hri
    conv=>whnf
    repeat ((first|refine QCall.k0 (hch) ?_|intro (nb:Nat));conv=>whnf)
    refine cF rfl ?_
    conv=>whnf
    repeat (refine QCall.k0 (hri) ?_;conv=>whnf)
    refine cT rfl ?_
    conv=>whnf
    repeat ((first|refine ⟨_,_,.head _,rfl,?_⟩|refine ⟨_,_,.here _,leOK,?_⟩);conv=>whnf)
    exact VLe.tup (.cons zeroLe (.cons (VLe.refl _) .nil))
 ·have he:onlyErr H keep=houErr H:=by rw [onlyErr,if_pos h0]
  rw [onlyR,he,if_neg h0]
  conv=>whnf
  repeat ((first|refine QCall.k0 (hch) ?_|intro (nb:Nat));conv=>whnf)
  refine cT (by simpa using h0) ?_
  conv=>whnf
  repeat ((first|refine ⟨_,_,.head _,rfl,?_⟩|refine ⟨_,_,.here _,leOK,?_⟩);conv=>whnf)
  exact VLe.tup (.cons zeroLe (.cons (VLe.refl _) .nil))
theorem refOnlyW (H:Hou) (keep:List Int) (hf:HouFit H) (hk:keep.length≤1048576) :
  QCall Tryz.prog 28 [.agg (encHou H),.sl 1 none (ints keep)] [] (.tup [.agg (encHou (onlyR H keep)),.int .i64 (onlyErr H keep)]):=by
 have hch:=refHouse H hf
 have hel:=hf.lex.entries
 unfold LMAX at hel
 have hri:QCall Tryz.prog 74 [.sl 1 none (ints keep),.int .i64 ((H.lex.entries.map encEnt).length:Nat)] [] (.bool (risM keep H.lex.entries.length)):=by
  rw [List.length_map]
  exact refChoice keep H.lex.entries.length (by unfold LMAX;omega) (by omega)
 refine QCall.of ?_
 refine fcalls (F:=Tryz.f28) c28 rfl rfl rfl mixed rfl fun X=>?_
 conv=>whnf
 by_cases h0:houErr H=0
 ·cases h1:risM keep H.lex.entries.length with
  | true=>
    have he:onlyErr H keep=0:=by rw [onlyErr,if_neg (by omega),if_pos h1]
    have hfit:=only_fit h0 h1
    rw [onlyR,if_pos he,he]
    rw [h0] at hch
    rw [h1] at hri
    conv=>whnf
    repeat ((first|refine QCall.k0 (hch) ?_|intro (nb:Nat));conv=>whnf)
    refine cF rfl ?_
    conv=>whnf
    repeat (refine QCall.k0 (hri) ?_;conv=>whnf)
    refine cF rfl ?_
    conv=>whnf
    repeat ((first|refine QCall.k0 (refOnlyA H keep hfit.signs hfit.vals hfit.ends hfit.clis hk hfit.inr) ?_|refine ⟨_,_,.head _,rfl,?_⟩|refine ⟨_,_,.here _,leOK,?_⟩);conv=>whnf)
    exact VLe.refl _
  | false=>
    have he:onlyErr H keep=1:=by rw [onlyErr,if_neg (by omega),if_neg (by rw [h1];decide)]
    rw [onlyR,he,if_neg (by decide)]
    rw [h0] at hch
    rw [h1] at hri
    conv=>whnf
    repeat ((first|refine QCall.k0 (hch) ?_|intro (nb:Nat));conv=>whnf)
    refine cF rfl ?_
    conv=>whnf
    repeat (refine QCall.k0 (hri) ?_;conv=>whnf)
    refine cT rfl ?_
    conv=>whnf
    repeat ((first|refine ⟨_,_,.head _,rfl,?_⟩|refine ⟨_,_,.here _,leOK,?_⟩);conv=>whnf)
    exact VLe.tup (.cons zeroLe (.cons (VLe.refl _) .nil))
 ·have he:onlyErr H keep=houErr H:=by rw [onlyErr,if_pos h0]
  rw [onlyR,he,if_neg h0]
  conv=>whnf
  repeat ((first|refine QCall.k0 (hch) ?_|intro (nb:Nat));conv=>whnf)
  refine cT (by simpa using h0) ?_
  conv=>whnf
  repeat ((first|refine ⟨_,_,.head _,rfl,?_⟩|refine ⟨_,_,.here _,leOK,?_⟩);conv=>whnf)
  exact VLe.tup (.cons zeroLe (.cons (VLe.refl _) .nil))
theorem onlyR_small {H:Hou} {keep:List Int} (hk:keep.length≤1048576):(onlyR H keep).list.signs.length≤1048576∧(∀ s∈(onlyR H keep).list.signs,s.values.length≤1048576)∧(onlyR H keep).lex.entries.length≤1048576∧(onlyR H keep).lex.endings.length≤1048576∧(onlyR H keep).lex.clitics.length≤1048576:=by
 unfold onlyR
 split
 ·rename_i h
  unfold onlyErr at h
  split at h
  ·rename_i h1;exact absurd h h1
  ·rename_i h1
   split at h
   ·rename_i h2
    have hfit:=only_fit (by omega) h2
    refine ⟨hfit.signs,hfit.vals,?_,hfit.ends,hfit.clis⟩
    show (keep.map (entAt H.lex)).length≤1048576
    rw [List.length_map]
    exact hk
   ·cases h
 ·refine ⟨?_,?_,?_,?_,?_⟩<;>simp [zeroHou]
theorem induceOnlyL (H:Hou) (keep:List Int) (hf:HouFit H) (hk:keep.length≤1048576):QCall Tryz.prog 6 [.agg (encHou H),.sl 1 none (ints keep)] [] (.bool true):=by
 obtain ⟨s1,s2,s3,s4,s5⟩:=onlyR_small (H:=H) hk
 have hsl:=sameLstW (onlyR H keep).list s1 s2
 have hsx:=sameLexW (onlyR H keep).lex s3 s4 s5
 have hlg:QCall Tryz.prog 26 [.agg (encHou H),.nilS] [] (.bool (largeM H [])):=QCall.args (largeW H []) (.cons (VLe.refl _) (.cons (VLe.nil (by decide)) .nil))
 refine QCall.of' ?_
 refine fcalls (F:=Tryz.f6) c6 rfl rfl rfl mixed rfl fun X=>?_
 conv=>whnf
 repeat (refine QCall.k0 (hlg) ?_;conv=>whnf)
 refine ⟨fun hq=>?_,fun hq=>?_⟩
 ·conv=>whnf
  repeat (refine QCall.k0 (worksI) ?_;conv=>whnf)
 ·conv=>whnf
  repeat ((first|refine QCall.k0 (OnlyW H keep hf hk) ?_|refine QCall.k0 (refOnlyW H keep hf hk) ?_|refine gcall (hsl) ?_|refine gcall (hsx) ?_|refine gcall (worksI) ?_|(refine And.intro (by show plainT _ _=true;decide +kernel) ?_)|refine ⟨_,_,Rem.here _,⟨Nat.le_of_ble_eq_true rfl,rfl⟩,?_⟩|intro (nb:Nat));conv=>whnf)
  simp
end Go.Abs.Wall.Lst
namespace Go.Abs.Wall.Lst
open Go Go.Abs Go.Proofs Go.Abs.Wall
def mixL (i:Nat) (L:List Nd):List Nd:=renGo 0 (L.take i)++L.drop i
theorem ren_len:∀ (l:List Nd) (a:Nat),(renGo a l).length=l.length
 | [],_=>rfl
 | x::t,a=>by rw [renGo,List.length_cons,List.length_cons,ren_len t]
theorem mix_get {L:List Nd} {i j:Nat} (hi:i≤L.length):(mixL i L)[j]?=if j<i then (L[j]?).map fun x=>(⟨(j:Int),x.lines⟩:Nd) else L[j]?:=by
 have hl:(renGo 0 (L.take i)).length=i:=by rw [ren_len,List.length_take];omega
 unfold mixL
 rw [List.getElem?_append,hl]
 by_cases h:j<i
 ·rw [if_pos h,if_pos h,ren_get,List.getElem?_take,if_pos h,Nat.zero_add]
 ·rw [if_neg h,if_neg h,List.getElem?_drop]
  congr 1
  omega
theorem mix_len {L:List Nd} {i:Nat}:(mixL i L).length=L.length:=by
 unfold mixL
 rw [List.length_append,ren_len,List.length_take,List.length_drop]
 omega
theorem mix_end (L:List Nd):mixL L.length L=renGo 0 L:=by
 unfold mixL
 rw [List.take_length,List.drop_length,List.append_nil]
theorem mix_step {L:List Nd} {i:Nat} {x:Nd} (hx:L[i]?=some x):(mixL i L)[i]?=some x∧(mixL i L).set i ⟨(i:Int),x.lines⟩=mixL (i+1) L:=by
 have hi:=(List.getElem?_eq_some_iff.1 hx).1
 refine ⟨by rw [mix_get (by omega),if_neg (by omega)];exact hx,?_⟩
 refine List.ext_getElem? fun j=>?_
 rw [List.getElem?_set,mix_get (by omega),mix_get (by omega),mix_len]
 by_cases h:i=j
 ·subst h
  rw [if_pos rfl,if_pos hi,if_pos (by omega),hx]
  rfl
 ·rw [if_neg h]
  by_cases h2:j<i
  ·rw [if_pos h2,if_pos (by omega)]
  ·rw [if_neg h2,if_neg (by omega)]
def dicK (H:Hou) (lines:List (List Int)):List Int:=ntr (indR H lines)
def dicX (H:Hou) (lines:List (List Int)):Lex:=if indErr H lines=0 then onlyX H.lex (dicK H lines) else ⟨[],[],[]⟩
def dicL (H:Hou) (lines:List (List Int)):List Nd:=renGo 0 (indR H lines)
def DicP (H:Hou) (lines:List (List Int)):AV:=.tup [.agg (encLex (dicX H lines)),.sl 2 none ((dicL H lines).map encNd),.int .i64 (indErr H lines)]
theorem dicK_ok {H:Hou} {lines:List (List Int)}:(dicK H lines).Pairwise (·<·)∧∀ k∈dicK H lines,0≤k∧k<H.lex.entries.length:=by
 unfold dicK indR
 split
 ·have h:ntr (indL (corM H lines) H.lex.entries.length)=keepL H.lex.entries.length (indW (corM H lines) H.lex.entries.length):=ents_ind _ _
  rw [h]
  refine ⟨keepL_up,fun k hk=>?_⟩
  have:=keepL_mem.1 hk
  exact ⟨this.1,this.2.1⟩
 ·exact ⟨List.Pairwise.nil,fun k hk=>by cases hk⟩
def c23:Cfg:=⟨[0,1,2,4,5,6,7,8,9,10,18,26,27,28],[],[9],[],[(4,[0,1,2,3,4,5],[9])],[]⟩
def c24:Cfg:=⟨[0,1,2,4,5,6,7,8,9,10,18,24],[],[],[],[],[]⟩
def c4:Cfg:=⟨[0,1,2,4,5,6,7,8,9,10,13],[],[5,8],[],[],[]⟩
def c5:Cfg:=⟨[0,1,2,4,5,6,7,8,9,10,13,23],[],[5,9],[],[],[]⟩
theorem InduceR (H:Hou) (lines:List (List Int)) (hf:CorFit H lines) :
  ACalls Tryz.prog 20 [.agg (encHou H),.sl 1 none (lines.map encIs)] [] (fun v h'=>∃ x,v=.tup [x,.int .i64 (indErr H lines)]∧Row 2 encNd (indR H lines) x h'):=by
 refine ACalls.post (InduceA H lines hf) ?_
 rintro v h1 ⟨x,hp,Z,rfl,hrow,rfl⟩
 exact ⟨_,hp,⟨x,rfl,hrow⟩,VLe.refl _,fun k o hm=>List.mem_append_left _ hm,fun hn=>by unfold keys at hn ⊢;rw [List.map_append] at hn;exact (List.nodup_append.1 hn).1⟩
theorem refInduceR (H:Hou) (lines:List (List Int)) (hf:CorFit H lines) :
  ACalls Tryz.prog 21 [.agg (encHou H),.sl 1 none (lines.map encIs)] [] (fun v h'=>∃ x,v=.tup [x,.int .i64 (indErr H lines)]∧Row 2 encNd (indR H lines) x h'):=by
 refine ACalls.post (refInduceA H lines hf) ?_
 rintro v h1 ⟨x,hp,Z,rfl,hrow,rfl⟩
 exact ⟨_,hp,⟨x,rfl,hrow⟩,VLe.refl _,fun k o hm=>List.mem_append_left _ hm,fun hn=>by unfold keys at hn ⊢;rw [List.map_append] at hn;exact (List.nodup_append.1 hn).1⟩
theorem entriesO {b:Nat} {l:List Nd} {hp:Heap} (hm:(b,Ob.vec (l.map encNd).flatten)∈hp) (hl:l.length≤1048576):QCall Tryz.prog 69 [.osl b 0 l.length 2] hp (.sl 1 none (ints (ntr l))):=by
 refine ACalls.cutV ?_
 refine fcalls (F:=Tryz.f69) c69 rfl rfl rfl mixed rfl fun X=>?_
 conv=>whnf
 refine tloop rfl mixed [2,5,6,7] [] (fun m r h=>∃ (i:Nat) (ov:AV) (oh:Heap),r=[(2,[],ov),(5,[],.osl b 0 l.length 2),(6,[],.int .i64 l.length),(7,[],.int .i64 i)]∧h=oh++hp∧m=l.length - i∧i≤l.length∧Out 1 (fun n=>[AV.int .i64 n]) (ntr (l.take i)) ov oh) ?_ ?_
 ·conv=>whnf
  exact ⟨_,_,Turn.refl _ _,_,0,.nilS,[],rfl,rfl,rfl,by omega,.inl ⟨rfl,rfl,rfl⟩⟩
 ·rintro m r h' ⟨i,ov,oh,rfl,rfl,rfl,hi,ho⟩
  have hol:(ntr (l.take i)).length≤1048576:=by unfold ntr;rw [List.length_map,List.length_take];omega
  conv=>whnf
  refine ⟨fun hi2=>?_,fun hi2=>?_⟩<;>simp at hi2
  ·obtain ⟨x,hx⟩:=get_lt hi2
   have hsn:ntr (l.take (i+1))=ntr (l.take i)++[x.entry]:=by rw [take_snoc hx];unfold ntr;rw [List.map_append];rfl
   rcases ho with ⟨he,rfl,rfl⟩|⟨q,rfl,rfl⟩
   all_goals
    conv=>whnf
    repeat ((first|refine ⟨gP_of ⟨by omega,by omega⟩,?_⟩|(refine ixo (i:=i) (by omega) ?_)|(refine ldE encNd_len hm (Nat.zero_add _) hx ?_)|(refine ldE encNd_len (.tail _ hm) (Nat.zero_add _) hx ?_)|(intro (b9:Nat))|(refine ⟨Nat.le_of_ble_eq_true rfl,fun q'=>?_⟩)|(refine ⟨(by rw [List.length_append,List.length_map];simp at hol ⊢;unfold AMAX;omega),fun q'=>⟨_,.here _,?_⟩⟩)|refine ⟨_,_,Rem.here _,⟨Nat.le_of_ble_eq_true rfl,rfl⟩,?_⟩);conv=>whnf)
    refine ⟨_,_,Turn.refl _ _,_,(by omega),i+1,_,[(q',.tok)],rfl,rfl,rfl,by omega,.inr ⟨q',?_,rfl⟩⟩
    rw [hsn,List.map_append]
    first|done|rfl|(rw [he];done)|(rw [he];rfl)
  ·rw [List.take_of_length_le hi2] at ho
   conv=>whnf
   skip
   exact ⟨ho.le (by decide),_,rfl⟩
def zeroX:List AV:=[.nilS,.nilS,.nilS]
theorem zeroXLe:VLe (.agg [.nilS,.nilS,.nilS]) (.agg (encLex ⟨[],[],[]⟩)):=VLe.agg (.cons (VLe.nil (by decide)) (.cons (VLe.nil (by decide)) (.cons (VLe.nil (by decide)) .nil)))
def DicR (H:Hou) (lines:List (List Int)) (v:AV) (h':Heap):Prop:=
 VLe v (DicP H lines)∨∃ b h2,v=.tup [.agg (encLex (dicX H lines)),.osl b 0 (dicL H lines).length 2,.int .i64 (indErr H lines)]∧Rem b (.vec ((dicL H lines).map encNd).flatten) h' h2
theorem DicR.ok {H:Hou} {lines:List (List Int)} {f:FuncId} {vs:List AV} (h:ACalls Tryz.prog f vs [] (DicR H lines)):QCall Tryz.prog f vs [] (DicP H lines):=by
 refine QCall.of (ACalls.frzOr h ?_)
 rintro v h1 (hv|⟨b,h2,rfl,hr⟩)
 ·exact .inl hv
 ·exact .inr ⟨b,_,_,_,_,hr,FzH.refl _,.tup (.cons (.refl _) (.cons (fzEnc encNd_len rfl) (.cons (.refl _) .nil))),VLe.refl _⟩
theorem indR_none {H:Hou} {lines:List (List Int)} (h:indErr H lines≠0):indR H lines=[]:=by unfold indR;rw [if_neg h]
theorem mix_store {L:List Nd} {i:Nat} {x:Nd} (hx:L[i]?=some x):VsLe (setC ((mixL i L).map encNd).flatten (0+i*2+0) [.int .i64 (i:Int)]) ((mixL (i+1) L).map encNd).flatten:=by
 obtain ⟨h1,h2⟩:=mix_step hx
 have:=flat_setle encNd_len h1 (j:=0) (y:=⟨(i:Int),x.lines⟩) (v:=.int .i64 (i:Int)) (by decide) (VsLe.refl _)
 rw [h2] at this
 rw [Nat.zero_add]
 exact this
theorem DictA (H:Hou) (lines:List (List Int)) (hf:CorFit H lines) :
  QCall Tryz.prog 23 [.agg (encHou H),.sl 1 none (lines.map encIs)] [] (DicP H lines):=by
 have hl:=(indR_fit hf).1
 by_cases h0:indErr H lines=0
 ·have hc0:corErr H lines=0:=by
   unfold indErr at h0
   split at h0
   ·rename_i h1;exact absurd h0 h1
   ·rename_i h1;omega
  have hfit:=only_fit (corErr_zero hc0).1 (risM_iff.2 (dicK_ok (H:=H) (lines:=lines)))
  have hX:dicX H lines=onlyX H.lex (dicK H lines):=by unfold dicX;rw [if_pos h0]
  have hKl:(dicK H lines).length≤1048576:=by unfold dicK;rw [ntr_len];exact hl
  have hon:=onlyA H (dicK H lines) hf.hou hfit.signs hfit.vals hfit.ends hfit.clis hKl hfit.inr
  refine DicR.ok ?_
  refine fcalls (F:=Tryz.f23) c23 rfl rfl rfl mixed rfl fun X=>?_
  conv=>whnf
  repeat ((intro (tb:Nat));conv=>whnf)
  refine ACalls.mono ?_ (ACalls.frame (InduceR H lines hf) _)
  rintro v h' ⟨hp,⟨x,rfl,hrow⟩,rfl⟩
  rcases hrow with ⟨hL,rfl,rfl⟩|⟨hne,b,rfl,rfl⟩
  ·have hen:=entriesW [] (by decide)
   have hen2:QCall Tryz.prog 69 [.nilO] [] (.sl 1 none (ints (dicK H lines))):=by
    unfold dicK
    rw [hL]
    exact QCall.args hen (.cons (nilO_le (by decide)) .nil)
   conv=>whnf
   skip
   refine cF (by rw [h0];rfl) ?_
   conv=>whnf
   repeat ((first|refine gcall (hen2) ?_|refine gcall (hon) ?_|refine ⟨_,_,Rem.here _,?_⟩|refine ⟨_,_,.here _,leOK,?_⟩|refine And.intro (by show drawOK (opsAt Tryz.f23 _) _=true;decide +kernel) ?_|intro (nb:Nat));conv=>whnf)
   refine sloop rfl mixed [4,7,9,26,27] [] (fun m r h=>∃ (i:Nat),r=[(4,[],.optr tb 0),(7,[],.nilO),(9,[],.iptr (encHou (onlyH H (dicK H lines)))),(26,[],.int .i64 0),(27,[],.int .i64 0)]∧h=[(tb,.vec zeroX)]∧m=0∧i=0) ?_ ?_
   ·conv=>whnf
    exact ⟨_,0,rfl,rfl,rfl,rfl⟩
   ·rintro m r h' ⟨i,rfl,rfl,rfl,hi⟩
    conv=>whnf
    refine cF rfl ?_
    conv=>whnf
    repeat ((first|refine ⟨_,_,.head _,rfl,?_⟩|refine ⟨_,_,.here _,leOK,?_⟩);conv=>whnf)
    refine .inl ?_
    rw [DicP,hX,dicL,hL,h0]
    exact VLe.tup (.cons (VLe.refl _) (.cons (nilO_le (by decide)) (.cons (VLe.refl _) .nil)))
  ·have hen:∀ hp:Heap,(b,Ob.vec ((indR H lines).map encNd).flatten)∈hp→QCall Tryz.prog 69 [.osl b 0 (indR H lines).length 2] hp (.sl 1 none (ints (dicK H lines))):=fun hp hm=>entriesO hm hl
   conv=>whnf
   skip
   refine cF (by rw [h0];rfl) ?_
   conv=>whnf
   repeat ((first|(refine gcallH (hen _ (.head _)) ?_)|refine gcall (hon) ?_|refine ⟨_,_,Rem.here _,?_⟩|refine ⟨_,_,.here _,leOK,?_⟩|refine And.intro (by show drawOK (opsAt Tryz.f23 _) _=true;decide +kernel) ?_|intro (nb:Nat));conv=>whnf)
   refine tloop rfl mixed [4,7,9,26,27] [] (fun m r h=>∃ (i:Nat),r=[(4,[],.optr tb 0),(7,[],.osl b 0 (indR H lines).length 2),(9,[],.iptr (encHou (onlyH H (dicK H lines)))),(26,[],.int .i64 (indR H lines).length),(27,[],.int .i64 i)]∧h=[(b,.vec ((mixL i (indR H lines)).map encNd).flatten),(tb,.vec zeroX)]∧m=(indR H lines).length - i∧i≤(indR H lines).length) ?_ ?_
   ·conv=>whnf
    exact ⟨_,_,Turn.refl _ _,_,0,rfl,rfl,rfl,by omega⟩
   ·rintro m r h' ⟨i,rfl,rfl,rfl,hi⟩
    conv=>whnf
    refine ⟨fun hi2=>?_,fun hi2=>?_⟩<;>simp at hi2
    ·obtain ⟨x,hx⟩:=get_lt hi2
     have hlen:0+i*2+0+1≤((mixL i (indR H lines)).map encNd).flatten.length:=by rw [flat_len encNd_len,mix_len];omega
     conv=>whnf
     repeat ((first|refine ⟨gP_of ⟨by omega,by omega⟩,?_⟩|(refine ixo (i:=i) (by omega) ?_)|(refine ⟨_,_,.here _,⟨Nat.le_of_ble_eq_true rfl,hlen⟩,?_⟩));conv=>whnf)
     exact ⟨_,_,Turn.cells (.here _) (mix_store hx),_,(by omega),i+1,rfl,rfl,rfl,by omega⟩
    ·have hie:i=(indR H lines).length:=by omega
     subst hie
     rw [mix_end]
     conv=>whnf
     repeat ((first|(refine ⟨_,_,.there (.here _),leOK,?_⟩)|refine ⟨_,_,.tail _ (.head _),rfl,?_⟩);conv=>whnf)
     refine .inr ⟨b,_,?_,.here _⟩
     rw [hX,h0,dicL,ren_len]
     rfl
 ·have hL:=indR_none h0
  have hX:dicX H lines=⟨[],[],[]⟩:=by unfold dicX;rw [if_neg h0]
  refine DicR.ok ?_
  refine fcalls (F:=Tryz.f23) c23 rfl rfl rfl mixed rfl fun X=>?_
  conv=>whnf
  repeat ((intro (tb:Nat));conv=>whnf)
  refine ACalls.mono ?_ (ACalls.frame (InduceR H lines hf) _)
  rintro v h' ⟨hp,⟨x,rfl,hrow⟩,rfl⟩
  rcases hrow with ⟨_,rfl,rfl⟩|⟨hne,_⟩
  ·conv=>whnf
   skip
   refine cT (by simpa using h0) ?_
   conv=>whnf
   repeat ((first|refine ⟨_,_,.head _,rfl,?_⟩|refine ⟨_,_,.here _,leOK,?_⟩);conv=>whnf)
   refine .inl ?_
   rw [DicP,hX,dicL,hL]
   exact VLe.tup (.cons zeroXLe (.cons (VLe.nil (by decide)) (.cons (VLe.refl _) .nil)))
  ·exact absurd hL hne
theorem refDictA (H:Hou) (lines:List (List Int)) (hf:CorFit H lines) :
  QCall Tryz.prog 24 [.agg (encHou H),.sl 1 none (lines.map encIs)] [] (DicP H lines):=by
 have hl:=(indR_fit hf).1
 by_cases h0:indErr H lines=0
 ·have hc0:corErr H lines=0:=by
   unfold indErr at h0
   split at h0
   ·rename_i h1;exact absurd h0 h1
   ·rename_i h1;omega
  have hfit:=only_fit (corErr_zero hc0).1 (risM_iff.2 (dicK_ok (H:=H) (lines:=lines)))
  have hX:dicX H lines=onlyX H.lex (dicK H lines):=by unfold dicX;rw [if_pos h0]
  have hKl:(dicK H lines).length≤1048576:=by unfold dicK;rw [ntr_len];exact hl
  have hon:=refOnlyA H (dicK H lines) hfit.signs hfit.vals hfit.ends hfit.clis hKl hfit.inr
  refine DicR.ok ?_
  refine fcalls (F:=Tryz.f24) c24 rfl rfl rfl mixed rfl fun X=>?_
  conv=>whnf
  repeat ((intro (tb:Nat));conv=>whnf)
  refine ACalls.mono ?_ (ACalls.frame (refInduceR H lines hf) _)
  rintro v h' ⟨hp,⟨x,rfl,hrow⟩,rfl⟩
  rcases hrow with ⟨hL,rfl,rfl⟩|⟨hne,b,rfl,rfl⟩
  ·conv=>whnf
   skip
   refine cF (by rw [h0];rfl) ?_
   conv=>whnf
   skip
   refine sloop rfl mixed [2,4,7,9,10] [] (fun m r h=>∃ (i:Nat),r=[(2,[],.iptr (encHou H)),(4,[],.optr tb 0),(7,[],.nilO),(9,[],.nilS),(10,[],.int .i64 0)]∧h=[(tb,.vec zeroX)]∧m=0∧i=0) ?_ ?_
   ·conv=>whnf
    exact ⟨_,0,rfl,rfl,rfl,rfl⟩
   ·rintro m r h' ⟨i,rfl,rfl,rfl,hi⟩
    have hon2:QCall Tryz.prog 70 [.agg (encHou H),.nilS] [] (.agg (encHou (onlyH H (dicK H lines)))):=by
     refine QCall.args hon (.cons (VLe.refl _) (.cons ?_ .nil))
     rw [dicK,hL]
     exact VLe.nil (by decide)
    conv=>whnf
    skip
    refine cF rfl ?_
    conv=>whnf
    repeat ((first|refine QCall.k0 (hon2) ?_|refine ⟨_,_,.head _,rfl,?_⟩|refine ⟨_,_,.here _,leOK,?_⟩);conv=>whnf)
    refine .inl ?_
    rw [DicP,hX,dicL,hL,h0]
    exact VLe.tup (.cons (VLe.refl _) (.cons (nilO_le (by decide)) (.cons (VLe.refl _) .nil)))
  ·conv=>whnf
   skip
   refine cF (by rw [h0];rfl) ?_
   conv=>whnf
   skip
   refine tloop rfl mixed [2,4,7,9,10] [] (fun m r h=>∃ (i:Nat) (ov:AV) (oh:Heap),r=[(2,[],.iptr (encHou H)),(4,[],.optr tb 0),(7,[],.osl b 0 (indR H lines).length 2),(9,[],ov),(10,[],.int .i64 i)]∧h=(b,.vec ((mixL i (indR H lines)).map encNd).flatten)::(tb,.vec zeroX)::oh∧m=(indR H lines).length - i∧i≤(indR H lines).length∧Out 1 (fun n=>[AV.int .i64 n]) (ntr ((indR H lines).take i)) ov oh) ?_ ?_
   ·conv=>whnf
    exact ⟨_,_,Turn.refl _ _,_,0,.nilS,[],rfl,rfl,rfl,by omega,.inl ⟨rfl,rfl,rfl⟩⟩
   ·rintro m r h' ⟨i,ov,oh,rfl,rfl,rfl,hi,ho⟩
    have hol:(ntr ((indR H lines).take i)).length≤1048576:=by unfold ntr;rw [List.length_map,List.length_take];omega
    conv=>whnf
    skip
    refine ⟨fun hi2=>?_,fun hi2=>?_⟩<;>simp at hi2
    ·obtain ⟨x,hx⟩:=get_lt hi2
     have hx2:=(mix_step hx).1
     have hml:(mixL i (indR H lines)).length=(indR H lines).length:=mix_len
     have hlen:0+i*2+0+1≤((mixL i (indR H lines)).map encNd).flatten.length:=by rw [flat_len encNd_len,mix_len];omega
     have hsn:ntr ((indR H lines).take (i+1))=ntr ((indR H lines).take i)++[x.entry]:=by rw [take_snoc hx];unfold ntr;rw [List.map_append];rfl
     rcases ho with ⟨he,rfl,rfl⟩|⟨q,rfl,rfl⟩
     ·conv=>whnf
      repeat ((first|refine ⟨gP_of ⟨by omega,by omega⟩,?_⟩|(refine ixo (i:=i) (by omega) ?_)|(refine ldEd encNd_len (d:=0) (by decide) (.head _) (by show 0+i*2+0=i*2+0;omega) hx2 ?_)|(refine ⟨Nat.le_of_ble_eq_true rfl,fun q'=>?_⟩)|(refine ⟨_,_,.there (.here _),⟨Nat.le_of_ble_eq_true rfl,hlen⟩,?_⟩));conv=>whnf)
      refine ⟨_,_,Turn.trans (Turn.cells (.there (.here _)) (mix_store hx)) (Turn.sub (h':=[(b,.vec ((mixL (i+1) (indR H lines)).map encNd).flatten),(tb,.vec zeroX),(q',.tok)]) ?_ ?_),_,(by omega),i+1,.sl 1 (some q') [[.int .i64 x.entry]],[(q',.tok)],rfl,rfl,rfl,by omega,.inr ⟨q',?_,rfl⟩⟩
      ·intro k o hm
       simp only [List.mem_cons,List.not_mem_nil,or_false] at hm ⊢
       grind
      ·first|(simp [keys];done)|(simp [keys];grind)
      ·rw [hsn,he];rfl
     ·conv=>whnf
      repeat ((first|refine ⟨gP_of ⟨by omega,by omega⟩,?_⟩|(refine ixo (i:=i) (by omega) ?_)|(refine ldEd encNd_len (d:=0) (by decide) (.head _) (by show 0+i*2+0=i*2+0;omega) hx2 ?_)|(refine ⟨(by rw [List.length_append,List.length_map];simp at hol ⊢;unfold AMAX;omega),fun q'=>⟨_,.there (.there (.here _)),?_⟩⟩)|(refine ⟨_,_,.here _,⟨Nat.le_of_ble_eq_true rfl,hlen⟩,?_⟩));conv=>whnf)
      refine ⟨_,_,Turn.cells (.here _) (mix_store hx),_,(by omega),i+1,_,[(q',.tok)],rfl,rfl,rfl,by omega,.inr ⟨q',?_,rfl⟩⟩
      rw [hsn,List.map_append]
      rfl
    ·have hie:i=(indR H lines).length:=by omega
     subst hie
     rw [List.take_length] at ho
     have hon2:QCall Tryz.prog 70 [.agg (encHou H),ov] [] (.agg (encHou (onlyH H (dicK H lines)))):=QCall.args hon (.cons (VLe.refl _) (.cons (ho.le (by decide)) .nil))
     rw [mix_end]
     conv=>whnf
     repeat ((first|refine QCall.k0 (hon2) ?_|(refine ⟨_,_,.there (.here _),leOK,?_⟩)|refine ⟨_,_,.tail _ (.head _),rfl,?_⟩);conv=>whnf)
     refine .inr ⟨b,_,?_,.here _⟩
     rw [hX,h0,dicL,ren_len]
     rfl
 ·have hL:=indR_none h0
  have hX:dicX H lines=⟨[],[],[]⟩:=by unfold dicX;rw [if_neg h0]
  refine DicR.ok ?_
  refine fcalls (F:=Tryz.f24) c24 rfl rfl rfl mixed rfl fun X=>?_
  conv=>whnf
  repeat ((intro (tb:Nat));conv=>whnf)
  refine ACalls.mono ?_ (ACalls.frame (refInduceR H lines hf) _)
  rintro v h' ⟨hp,⟨x,rfl,hrow⟩,rfl⟩
  rcases hrow with ⟨_,rfl,rfl⟩|⟨hne,_⟩
  ·conv=>whnf
   skip
   refine cT (by simpa using h0) ?_
   conv=>whnf
   repeat ((first|refine ⟨_,_,.head _,rfl,?_⟩|refine ⟨_,_,.here _,leOK,?_⟩);conv=>whnf)
   refine .inl ?_
   rw [DicP,hX,dicL,hL]
   exact VLe.tup (.cons zeroXLe (.cons (VLe.nil (by decide)) (.cons (VLe.refl _) .nil)))
  ·exact absurd hL hne
end Go.Abs.Wall.Lst
namespace Go.Abs.Wall.Lst
open Go Go.Abs Go.Proofs Go.Abs.Wall
theorem ind_cor {H:Hou} {lines:List (List Int)} (h0:indErr H lines=0):corErr H lines=0:=by
 unfold indErr at h0
 split at h0
 ·rename_i h1;exact absurd h0 h1
 ·rename_i h1;omega
theorem dicX_small {H:Hou} {lines:List (List Int)} (hf:CorFit H lines):(dicX H lines).entries.length≤1048576∧(dicX H lines).endings.length≤1048576∧(dicX H lines).clitics.length≤1048576:=by
 unfold dicX
 split
 ·rename_i h0
  have hfit:=only_fit (corErr_zero (ind_cor h0)).1 (risM_iff.2 (dicK_ok (H:=H) (lines:=lines)))
  refine ⟨?_,hfit.ends,hfit.clis⟩
  show ((dicK H lines).map (entAt H.lex)).length≤1048576
  rw [List.length_map,dicK,ntr_len]
  exact (indR_fit hf).1
 ·refine ⟨?_,?_,?_⟩<;>simp
theorem dicL_fit {H:Hou} {lines:List (List Int)} (hf:CorFit H lines):(dicL H lines).length≤1048576∧∀ x∈dicL H lines,NdFit x:=by
 obtain ⟨h1,h2⟩:=indR_fit hf
 refine ⟨by rw [dicL,ren_len];exact h1,fun x hx=>?_⟩
 obtain ⟨i,hi⟩:=List.mem_iff_getElem?.1 hx
 rw [dicL,ren_get] at hi
 obtain ⟨y,hy,rfl⟩:=Option.map_eq_some_iff.1 hi
 exact ⟨(h2 y (List.mem_of_getElem? hy)).lines⟩
theorem induceDictL (H:Hou) (lines:List (List Int)) (hf:CorFit H lines):QCall Tryz.prog 4 [.agg (encHou H),.sl 1 none (lines.map encIs)] [] (.bool true):=by
 obtain ⟨s3,s4,s5⟩:=dicX_small hf
 obtain ⟨d1,d2⟩:=dicL_fit hf
 have hsx:=sameLexW (dicX H lines) s3 s4 s5
 have hsn:=sameNds (dicL H lines) (dicL H lines) d1 d1 d2 d2
 refine QCall.of' ?_
 refine fcalls (F:=Tryz.f4) c4 rfl rfl rfl mixed rfl fun X=>?_
 conv=>whnf
 repeat (refine QCall.k0 (heavyW H lines hf.lines) ?_;conv=>whnf)
 refine ⟨fun hq=>?_,fun hq=>?_⟩
 ·conv=>whnf
  repeat (refine QCall.k0 (worksI) ?_;conv=>whnf)
 ·conv=>whnf
  repeat ((first|refine QCall.k0 (DictA H lines hf) ?_|refine QCall.k0 (refDictA H lines hf) ?_|refine gcall (hsx) ?_|refine gcall (hsn) ?_|refine gcall (worksI) ?_|refine ⟨_,_,Rem.here _,⟨Nat.le_of_ble_eq_true rfl,rfl⟩,?_⟩|intro (nb:Nat));conv=>whnf)
  simp
theorem ren_ren:∀ (l:List Nd) (a:Nat),renGo a (renGo a l)=renGo a l
 | [],_=>rfl
 | x::t,a=>by rw [renGo,renGo,ren_ren t]
theorem ntr_ren (l:List Nd):ntr (renGo 0 l)=(List.range l.length).map fun i:Nat=>(i:Int):=by
 refine List.ext_getElem? fun i=>?_
 unfold ntr
 rw [List.getElem?_map,ren_get,List.getElem?_map,Nat.zero_add]
 by_cases h:i<l.length
 ·rw [List.getElem?_eq_getElem h,List.getElem?_range h];rfl
 ·rw [List.getElem?_eq_none (by omega),List.getElem?_eq_none (by simpa using h)];rfl
theorem onlyX_all (x:Lex) {n:Nat} (hn:n=x.entries.length):onlyX x ((List.range n).map fun i:Nat=>(i:Int))=x:=by
 unfold onlyX
 have:((List.range n).map fun i:Nat=>(i:Int)).map (entAt x)=x.entries:=by
  refine List.ext_getElem? fun i=>?_
  rw [List.getElem?_map,List.getElem?_map]
  by_cases h:i<n
  ·rw [List.getElem?_range h]
   have:=entAt_get (x:=x) (k:=(i:Int)) (by omega) (by omega)
   rw [Int.toNat_natCast] at this
   rw [this]
   rfl
  ·rw [List.getElem?_eq_none (by simpa using h),List.getElem?_eq_none (by omega)]
   rfl
 rw [this]
theorem dic_again {H:Hou} {lines:List (List Int)} (h:indErr H lines=0):DicP (onlyH H (dicK H lines)) lines=DicP H lines:=by
 obtain ⟨h1,h2⟩:=ind_again h
 have h1:indErr (onlyH H (dicK H lines)) lines=0:=h1
 have h2:indR (onlyH H (dicK H lines)) lines=renGo 0 (indR H lines):=h2
 have e1:dicL (onlyH H (dicK H lines)) lines=dicL H lines:=by unfold dicL;rw [h2,ren_ren]
 have e2:dicX (onlyH H (dicK H lines)) lines=dicX H lines:=by
  unfold dicX
  rw [if_pos h1,if_pos h]
  show onlyX (onlyX H.lex (dicK H lines)) (dicK (onlyH H (dicK H lines)) lines)=_
  have:dicK (onlyH H (dicK H lines)) lines=(List.range (indR H lines).length).map fun i:Nat=>(i:Int):=by
   rw [dicK,h2,ntr_ren]
  rw [this]
  refine onlyX_all _ ?_
  show _=((dicK H lines).map (entAt H.lex)).length
  rw [List.length_map,dicK,ntr_len]
 unfold DicP
 rw [e1,e2,h1,h]
theorem only_houfit {H:Hou} (hf:HouFit H) {keep:List Int} (hk:keep.length≤1048576) (hin:∀ k∈keep,0≤k∧k<H.lex.entries.length):HouFit (onlyH H keep):=by
 refine ⟨hf.list,⟨?_,hf.lex.endings,hf.lex.clitics,?_,hf.lex.edn,hf.lex.cli⟩⟩
 ·show (keep.map (entAt H.lex)).length≤LMAX
  rw [List.length_map]
  unfold LMAX
  omega
 ·intro e he
  obtain ⟨k,hkm,rfl⟩:=List.mem_map.1 he
  have hr:=hin k hkm
  exact hf.lex.ent _ (List.mem_of_getElem? (entAt_get hr.1 hr.2))
theorem induceTwiceL (H:Hou) (lines:List (List Int)) (hf:CorFit H lines):QCall Tryz.prog 5 [.agg (encHou H),.sl 1 none (lines.map encIs)] [] (.bool true):=by
 obtain ⟨s3,s4,s5⟩:=dicX_small hf
 obtain ⟨d1,d2⟩:=dicL_fit hf
 have hsx:=sameLexW (dicX H lines) s3 s4 s5
 have hsn:=sameNds (dicL H lines) (dicL H lines) d1 d1 d2 d2
 have hDA:=DictA H lines hf
 refine QCall.of' ?_
 refine fcalls (F:=Tryz.f5) c5 rfl rfl rfl mixed rfl fun X=>?_
 conv=>whnf
 repeat (refine QCall.k0 (heavyW H lines hf.lines) ?_;conv=>whnf)
 refine ⟨fun hq=>?_,fun hq=>?_⟩
 ·conv=>whnf
  repeat (refine QCall.k0 (worksI) ?_;conv=>whnf)
 by_cases h0:indErr H lines=0
 ·have hkl:(dicK H lines).length≤1048576:=by rw [dicK,ntr_len];exact (indR_fit hf).1
  have hD2:=DictA (onlyH H (dicK H lines)) lines ⟨only_houfit hf.hou hkl (dicK_ok (lines:=lines)).2,hf.line,hf.lines⟩
  rw [dic_again h0] at hD2
  have hX:dicX H lines=onlyX H.lex (dicK H lines):=by unfold dicX;rw [if_pos h0]
  rw [DicP,h0] at hDA hD2
  conv=>whnf
  repeat ((first|refine QCall.k0 (hDA) ?_|refine ⟨_,_,Rem.here _,⟨Nat.le_of_ble_eq_true rfl,rfl⟩,?_⟩|intro (nb:Nat));conv=>whnf)
  refine cF rfl ?_
  rw [hX] at hDA hD2 hsx ⊢
  conv=>whnf
  repeat ((first|refine QCall.k0 (hD2) ?_|refine gcall (hsx) ?_|refine gcall (hsn) ?_|refine gcall (worksI) ?_|refine ⟨_,_,Rem.here _,⟨Nat.le_of_ble_eq_true rfl,rfl⟩,?_⟩|refine ⟨_,_,.head _,rfl,?_⟩|refine ⟨_,_,.here _,leOK,?_⟩|intro (nb:Nat));conv=>whnf)
  simp
 ·rw [DicP] at hDA
  conv=>whnf
  repeat ((first|refine QCall.k0 (hDA) ?_|refine ⟨_,_,Rem.here _,⟨Nat.le_of_ble_eq_true rfl,rfl⟩,?_⟩|intro (nb:Nat));conv=>whnf)
  refine cT (by simpa using h0) ?_
  conv=>whnf
  repeat (refine QCall.k0 (worksI) ?_;conv=>whnf)
end Go.Abs.Wall.Lst
