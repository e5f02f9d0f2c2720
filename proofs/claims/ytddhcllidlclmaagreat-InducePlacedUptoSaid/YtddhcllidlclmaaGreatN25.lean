/- What is proved: small laws for the walks of this seat, and contracts of its functions. No condition but those each theorem names. -/
import Derived.Test.YtddhcllidlclmaaGreatN24
import Derived.Test.YtddhcllidlclmaaGreatN8
import Derived.Test.YtddhcllidlclmaaGreatN10
set_option maxRecDepth 100000
set_option maxHeartbeats 2000000
set_option linter.unusedVariables false
set_option linter.unusedSimpArgs false
namespace Go.Abs.Wall.Lst
open Go Go.Abs Go.Proofs Go.Abs.Wall Go.Proofs.YtddhcllidlclmaaGreat.Br
theorem argLines {H:Hou} (hH:HouFit H) {x:AV} (h:ArgSh Tryz.prog B20 34 x):∃ l:List (List Int),x=.sl 1 none (l.map encIs)∧CorFit H l:=by
 obtain ⟨xs,h,hx⟩:=h
 have hx:xs=[x]:=hx
 obtain ⟨l,h1,h2,h3⟩:=sh_list (enc:=encIs) (Fit:=fun l=>l.length≤B20) h rfl fun y hy=>by obtain ⟨l,rfl,hl,_⟩:=shInts hy;exact ⟨l,rfl,hl⟩
 rw [hx] at h1
 cases h1
 exact ⟨l,rfl,hH,fun a ha=>by have:=h3 a ha;unfold B20 at this;omega,by unfold B20 at h2;omega⟩
def exN:Lex:=⟨[⟨[110,102,114],1,[103,111,111,100],1⟩,⟨[110],2,[],1⟩,⟨[110,102],2,[],1⟩,⟨[114],2,[],1⟩],exH.lex.endings,exH.lex.clitics⟩
def exI:Hou:={ exH with lex:=exN }
def c18:Cfg:=⟨[0,1],[],[0],[],[],[]⟩
def c6:Cfg:=⟨[0,1,2],[],[],[],[],[]⟩
def c19:Cfg:=⟨[0,1,4],[],[],[],[],[]⟩
def c5:Cfg:=⟨[0,1,2,4,5,27,36,60],[],[],[],[(6,[0,1,2,3,4,5,6,7,8,9,10,11,12,13,14,15,16,17,18,19,20,21],[])],[]⟩
theorem exampleI:QCall Tryz.prog 18 [] [] (.agg (encHou exI)):=by
 refine QCall.of ?_
 refine fcalls (F:=Tryz.f18) c18 rfl rfl rfl mixed rfl fun X=>?_
 conv=>whnf
 repeat ((first|refine QCall.k0 (exampleW) ?_|(intro (nb:Nat))|(refine ⟨⟨Nat.le_of_ble_eq_true rfl,rfl⟩,?_⟩)|refine ⟨_,_,Rem.there (.here _),?_⟩|refine ⟨_,_,.head _,rfl,?_⟩|refine ⟨_,_,.here _,leOK,?_⟩);conv=>whnf)
 exact VLe.refl _
theorem okI:HouOK exI:=houOK (by decide +kernel)
theorem lnksI {l:List Int} (h:∀ s∈l,0≤s∧s<exI.list.signs.length):lnksM exI l=(List.range l.length).map fun a=>(isort edgCmp (wordsAll exI (allI exI l a) a)).map lnkOf:=by
 unfold lnksM graphM
 rw [List.map_map]
 refine List.map_congr_left fun a _=>?_
 show (edgsAt exI l a).map lnkOf=_
 rw [edgsAt_i okI h]
def exL:List (List Int):=[[0,2,3],[1,5],[0,2]]
def exC:Cor:=[[[⟨1,1⟩,⟨1,2⟩,⟨2,2⟩,⟨0,3⟩],[],[⟨3,3⟩]],[[⟨0,1⟩,⟨0,2⟩],[]],[[⟨1,1⟩,⟨1,2⟩,⟨2,2⟩],[]]]
theorem corI:corM exI exL=exC:=by
 unfold corM exL
 rw [List.map_cons,List.map_cons,List.map_cons,List.map_nil,lnksI (by decide +kernel),lnksI (by decide +kernel),lnksI (by decide +kernel)]
 decide +kernel
theorem growI {l:List Int} (h:∀ s∈l,0≤s∧s<exI.list.signs.length) (h0:lineErr exI l=0) (hs:(((List.range l.length).map fun a=>(isort edgCmp (wordsAll exI (allI exI l a) a)).map lnkOf).map List.length).sum≤2000):growErr exI l=0:=by
 have h1:sumL (graphM exI l)=(((lnksM exI l).map List.length).sum):=by
  unfold sumL lnksM
  rw [List.map_map]
  refine congrArg List.sum (List.map_congr_left fun a _=>?_)
  simp
 unfold growErr
 rw [if_neg (by omega),if_neg]
 rw [h1,lnksI h]
 omega
theorem cerI:corErr exI exL=0:=by
 have h1:growErr exI [0,2,3]=0:=growI (by decide +kernel) (by decide +kernel) (by decide +kernel)
 have h2:growErr exI [1,5]=0:=growI (by decide +kernel) (by decide +kernel) (by decide +kernel)
 have h3:growErr exI [0,2]=0:=growI (by decide +kernel) (by decide +kernel) (by decide +kernel)
 have h0:houErr exI=0:=by decide +kernel
 unfold corErr
 rw [if_neg (by omega),if_neg (by decide)]
 exact growsE_zero.2 fun l hl=>by
  unfold exL at hl
  simp only [List.mem_cons,List.not_mem_nil,or_false] at hl
  rcases hl with rfl|rfl|rfl
  ·exact h1
  ·exact h2
  ·exact h3
theorem indI:indErr exI exL=0∧indR exI exL=[⟨0,[0,1]⟩,⟨1,[2]⟩]:=by
 have h:indErr exI exL=0:=by
  unfold indErr
  rw [if_neg (by rw [cerI];simp),corI,if_pos (by decide +kernel)]
 refine ⟨h,?_⟩
 rw [indR,if_pos h,corI]
 decide +kernel
theorem fitI:CorFit exI exL:=by
 have h1:∀ s∈exI.list.signs,s.code.length≤LMAX∧s.values.length≤LMAX∧∀ v∈s.values,v.text.length≤LMAX:=by decide +kernel
 have h2:∀ e∈exI.lex.entries,e.root.length≤LMAX∧e.cls.length≤LMAX:=by decide +kernel
 have h3:∀ e∈exI.lex.endings,e.text.length≤LMAX∧e.name.length≤LMAX:=by decide +kernel
 have h4:∀ e∈exI.lex.clitics,e.text.length≤LMAX∧e.name.length≤LMAX:=by decide +kernel
 exact ⟨⟨⟨by decide +kernel,fun s hs=>⟨(h1 s hs).1,(h1 s hs).2.1,(h1 s hs).2.2⟩⟩,⟨by decide +kernel,by decide +kernel,by decide +kernel,fun e he=>⟨(h2 e he).1,(h2 e he).2⟩,fun e he=>⟨(h3 e he).1,(h3 e he).2⟩,fun e he=>⟨(h4 e he).1,(h4 e he).2⟩⟩⟩,by decide +kernel,by decide +kernel⟩
theorem sameInts10 (a b:List Int) (ha:a.length≤LMAX) (hb:b.length≤LMAX):QCall Tryz.prog 19 [.sl 1 none (ints a),.sl 1 none (ints b)] [] (.bool (decide (a=b))):=by
 refine fcalls (F:=Tryz.f19) c19 rfl rfl rfl mixed rfl fun X=>?_
 conv=>whnf
 repeat (refine QCall.k0 (sameInts a b ha hb) ?_;conv=>whnf)
 exact ⟨rfl,rfl⟩
theorem worksI:QCall Tryz.prog 6 [] [] (.bool true):=by
 have hi:=RowT.ok (by decide) encNd_len (InduceA exI exL fitI)
 rw [indI.1,indI.2] at hi
 have h1:=sameInts10 [0,1] [0,1] (by decide) (by decide)
 have h2:=sameInts10 [2] [2] (by decide) (by decide)
 refine fcalls (F:=Tryz.f6) c6 rfl rfl rfl mixed rfl fun X=>?_
 conv=>whnf
 repeat ((first|refine QCall.k0 (exampleI) ?_|refine QCall.k0 (hi) ?_|(refine ⟨0,_,gP_of ⟨rfl,rfl⟩,?_⟩)|(refine ⟨1,_,gP_of ⟨rfl,rfl⟩,?_⟩)|refine gcall (h1) ?_|refine gcall (h2) ?_);conv=>whnf)
 exact ⟨congrArg AV.bool (by decide),rfl⟩
def heavyGo (H:Hou):List (List Int)→Bool
 | []=>false
 | l::t=>((decide (10<(l.length:Int))&&decide ((l.length:Int)≤60))||largeM H l)||heavyGo H t
def heavyM (H:Hou) (lines:List (List Int)):Bool:=
 if ((decide (12<(H.lex.entries.length:Int))&&decide ((H.lex.entries.length:Int)≤200))||(decide (5<(lines.length:Int))&&decide ((lines.length:Int)≤40)))=true then true
 else if (decide ((lines.length:Int)≤40)&&heavyGo H lines)=true then true
 else largeM H []
theorem heavyW (H:Hou) (lines:List (List Int)) (hl:lines.length≤1048576):QCall Tryz.prog 5 [.agg (encHou H),.sl 1 none (lines.map encIs)] [] (.bool (heavyM H lines)):=by
 have hlg:QCall Tryz.prog 17 [.agg (encHou H),.nilS] [] (.bool (largeM H [])):=QCall.args (largeW H []) (.cons (VLe.refl _) (.cons (VLe.nil (by decide)) .nil))
 obtain ⟨b,hb⟩:∃ b,b=heavyM H lines:=⟨_,rfl⟩
 rw [← hb]
 unfold heavyM at hb
 refine fcalls (F:=Tryz.f5) c5 rfl rfl rfl mixed rfl fun X=>?_
 conv=>whnf
 refine ⟨fun hq=>?_,fun hq=>?_⟩
 ·rw [if_pos (by rw [← List.length_map (f:=encEnt),← List.length_map (f:=encIs)];exact hq)] at hb
  conv=>whnf
  skip
  exact ⟨by rw [hb],rfl⟩
 rw [if_neg (by rw [← List.length_map (f:=encEnt),← List.length_map (f:=encIs)];rw [show _=false from hq];decide)] at hb
 conv=>whnf
 skip
 refine sloop rfl mixed [1,2,5] [] (fun m r h=>∃ (i:Nat),r=[(1,[],.sl 1 none (lines.map encIs)),(2,[],.iptr (encHou H)),(5,[],.int .i64 i)]∧h=[]∧m=lines.length - i∧i≤lines.length∧(decide ((lines.length:Int)≤40)=true→heavyGo H lines=heavyGo H (lines.drop i))) ?_ ?_
 ·conv=>whnf
  exact ⟨_,0,rfl,rfl,rfl,by omega,fun _=>rfl⟩
 ·rintro m r h ⟨i,rfl,rfl,rfl,hi,hg⟩
  conv=>whnf
  skip
  refine ⟨fun hc=>?_,fun hc=>?_⟩
  ·have hc:(decide ((i:Int)<((lines.map encIs).length:Int))&&decide (((lines.map encIs).length:Int)≤40))=true:=hc
   rw [List.length_map,Bool.and_eq_true] at hc
   have hg:=hg hc.2
   have hi2:=of_decide_eq_true hc.1
   obtain ⟨l,hl2⟩:=get_lt (l:=lines) (i:=i) (by omega)
   rw [drop_cons hl2,heavyGo] at hg
   conv=>whnf
   repeat ((first|refine ix (by assumption) ?_|refine gcall (largeW H l) ?_|refine And.intro (by show drawOK (opsAt Tryz.f5 _) _=true;decide +kernel) ?_);conv=>whnf)
   refine ⟨fun hk=>?_,fun hk=>?_⟩
   ·have hk:((decide (10<((ints l).length:Int))&&decide (((ints l).length:Int)≤60))||largeM H l)=true:=hk
    rw [ints_length] at hk
    rw [hk,Bool.true_or] at hg
    rw [if_pos (by rw [hc.2,hg];rfl)] at hb
    conv=>whnf
    skip
    exact ⟨by rw [hb],rfl⟩
   ·have hk:((decide (10<((ints l).length:Int))&&decide (((ints l).length:Int)≤60))||largeM H l)=false:=hk
    rw [ints_length] at hk
    rw [hk,Bool.false_or] at hg
    conv=>whnf
    repeat (refine ⟨gP_of ⟨by omega,by omega⟩,?_⟩;conv=>whnf)
    exact ⟨_,by omega,i+1,rfl,rfl,rfl,by omega,fun _=>hg⟩
  ·have hc:(decide ((i:Int)<((lines.map encIs).length:Int))&&decide (((lines.map encIs).length:Int)≤40))=false:=hc
   rw [List.length_map] at hc
   have hn:(decide ((lines.length:Int)≤40)&&heavyGo H lines)=false:=by
    cases hd:decide ((lines.length:Int)≤40) with
    | false=>rfl
    | true=>
      rw [hd,Bool.and_true,decide_eq_false_iff_not] at hc
      rw [hg hd,drop_nil (by omega)]
      rfl
   rw [if_neg (by rw [hn];decide)] at hb
   conv=>whnf
   repeat (refine QCall.k0 (hlg) ?_;conv=>whnf)
   exact ⟨by rw [hb],rfl⟩
structure NdFit (x:Nd):Prop where
 lines:x.lines.length≤1048576
theorem needsM_len (C:Cor) (w:Int→Bool) (e:Int):(needsM C w e).length≤C.length:=by
 unfold needsM
 rw [List.length_map]
 exact filter_len _
theorem indR_fit {H:Hou} {lines:List (List Int)} (hf:CorFit H lines):(indR H lines).length≤1048576∧∀ x∈indR H lines,NdFit x:=by
 unfold indR
 split
 ·rename_i h
  have h0:corErr H lines=0:=by
   unfold indErr at h
   split at h
   ·rename_i h1;exact absurd h h1
   ·rename_i h1;simpa using h1
  have hN:H.lex.entries.length≤200:=(houOK (corErr_zero h0).1).lex.many.1
  unfold indL
  refine ⟨?_,fun x hx=>?_⟩
  ·rw [List.length_map]
   have:=keepL_len H.lex.entries.length (indW (corM H lines) H.lex.entries.length)
   omega
  ·obtain ⟨e,_,rfl⟩:=List.mem_map.1 hx
   refine ⟨?_⟩
   have:=needsM_len (corM H lines) (indW (corM H lines) H.lex.entries.length) e
   rw [cor_len] at this
   have:=hf.lines
   show (needsM _ _ _).length≤_
   omega
 ·simp
theorem induceW (H:Hou) (lines:List (List Int)) (hf:CorFit H lines):QCall Tryz.prog 7 [.agg (encHou H),.sl 1 none (lines.map encIs)] [] (.tup [.sl 2 none ((indR H lines).map encNd),.int .i64 (indErr H lines)]):=RowT.ok (by decide) encNd_len (InduceA H lines hf)
end Go.Abs.Wall.Lst
