/- What is proved: small laws for the walks of this seat, and contracts of its functions. No condition but those each theorem names. -/
import Derived.Test.YtmkmflcemegikaaGreatDoorN24
import Derived.Test.YtmkmflcemegikaaGreatDoorN8
import Derived.Test.YtmkmflcemegikaaGreatDoorN10
set_option maxRecDepth 100000
set_option maxHeartbeats 2000000
set_option linter.unusedVariables false
set_option linter.unusedSimpArgs false
namespace Go.Abs.Wall.Lst
open Go Go.Abs Go.Proofs Go.Abs.Wall Go.Proofs.YtmkmflcemegikaaGreatDoor.Br
def exN:Lex:=⟨[⟨[110,102,114],1,[103,111,111,100],1⟩,⟨[110],2,[],1⟩,⟨[110,102],2,[],1⟩,⟨[114],2,[],1⟩],exH.lex.endings,exH.lex.clitics⟩
def exI:Hou:={ exH with lex:=exN }
def c9:Cfg:=⟨[0,1],[],[0],[],[],[]⟩
def c5:Cfg:=⟨[0,1,2],[],[],[],[],[]⟩
def c10:Cfg:=⟨[0,1,4],[],[],[],[],[]⟩
theorem exampleI:QCall Tryz.prog 9 [] [] (.agg (encHou exI)):=by
 refine QCall.of ?_
 refine fcalls (F:=Tryz.f9) c9 rfl rfl rfl mixed rfl fun X=>?_
 conv=>whnf
 repeat ((first|refine QCall.k0 (exampleW) ?_|(intro (nb:Nat))|(refine ⟨⟨Nat.le_of_ble_eq_true rfl,rfl⟩,?_⟩)|refine ⟨_,_,Rem.there (.here _),?_⟩|refine ⟨_,_,.head _,rfl,?_⟩|refine ⟨_,_,.here _,leOK,?_⟩);conv=>whnf)
 exact VLe.refl _
theorem okI:HouOK exI:=houOK (by decide +kernel)
theorem lnksI {l:List Int} (h:∀ s∈l,0≤s∧s<exI.list.signs.length):lnksM exI l=(List.range l.length).map fun a=>(isort edgCmp (wordsAll exI (allI exI l a) a)).map lnkOf:=by
 unfold lnksM graphM
 rw [List.map_map]
 refine List.map_congr_left fun a _=>?_
 show (edgsAt exI l a).map lnkOf=_
 rw [edgsAt_i okI h]
def exL:List (List Int):=[[0,2,3],[1,5],[0,2]]
def exC:Cor:=[[[⟨1,1⟩,⟨1,2⟩,⟨2,2⟩,⟨0,3⟩],[],[⟨3,3⟩]],[[⟨0,1⟩,⟨0,2⟩],[]],[[⟨1,1⟩,⟨1,2⟩,⟨2,2⟩],[]]]
theorem corI:corM exI exL=exC:=by
 unfold corM exL
 rw [List.map_cons,List.map_cons,List.map_cons,List.map_nil,lnksI (by decide +kernel),lnksI (by decide +kernel),lnksI (by decide +kernel)]
 decide +kernel
theorem growI {l:List Int} (h:∀ s∈l,0≤s∧s<exI.list.signs.length) (h0:lineErr exI l=0) (hs:(((List.range l.length).map fun a=>(isort edgCmp (wordsAll exI (allI exI l a) a)).map lnkOf).map List.length).sum≤2000):growErr exI l=0:=by
 have h1:sumL (graphM exI l)=(((lnksM exI l).map List.length).sum):=by
  unfold sumL lnksM
  rw [List.map_map]
  refine congrArg List.sum (List.map_congr_left fun a _=>?_)
  simp
 unfold growErr
 rw [if_neg (by omega),if_neg]
 rw [h1,lnksI h]
 omega
theorem cerI:corErr exI exL=0:=by
 have h1:growErr exI [0,2,3]=0:=growI (by decide +kernel) (by decide +kernel) (by decide +kernel)
 have h2:growErr exI [1,5]=0:=growI (by decide +kernel) (by decide +kernel) (by decide +kernel)
 have h3:growErr exI [0,2]=0:=growI (by decide +kernel) (by decide +kernel) (by decide +kernel)
 have h0:houErr exI=0:=by decide +kernel
 unfold corErr
 rw [if_neg (by omega),if_neg (by decide)]
 exact growsE_zero.2 fun l hl=>by
  unfold exL at hl
  simp only [List.mem_cons,List.not_mem_nil,or_false] at hl
  rcases hl with rfl|rfl|rfl
  ·exact h1
  ·exact h2
  ·exact h3
theorem indI:indErr exI exL=0∧indR exI exL=[⟨0,[0,1]⟩,⟨1,[2]⟩]:=by
 have h:indErr exI exL=0:=by
  unfold indErr
  rw [if_neg (by rw [cerI];simp),corI,if_pos (by decide +kernel)]
 refine ⟨h,?_⟩
 rw [indR,if_pos h,corI]
 decide +kernel
theorem fitI:CorFit exI exL:=by
 have h1:∀ s∈exI.list.signs,s.code.length≤LMAX∧s.values.length≤LMAX∧∀ v∈s.values,v.text.length≤LMAX:=by decide +kernel
 have h2:∀ e∈exI.lex.entries,e.root.length≤LMAX∧e.cls.length≤LMAX:=by decide +kernel
 have h3:∀ e∈exI.lex.endings,e.text.length≤LMAX∧e.name.length≤LMAX:=by decide +kernel
 have h4:∀ e∈exI.lex.clitics,e.text.length≤LMAX∧e.name.length≤LMAX:=by decide +kernel
 exact ⟨⟨⟨by decide +kernel,fun s hs=>⟨(h1 s hs).1,(h1 s hs).2.1,(h1 s hs).2.2⟩⟩,⟨by decide +kernel,by decide +kernel,by decide +kernel,fun e he=>⟨(h2 e he).1,(h2 e he).2⟩,fun e he=>⟨(h3 e he).1,(h3 e he).2⟩,fun e he=>⟨(h4 e he).1,(h4 e he).2⟩⟩⟩,by decide +kernel,by decide +kernel⟩
theorem sameInts10 (a b:List Int) (ha:a.length≤LMAX) (hb:b.length≤LMAX):QCall Tryz.prog 10 [.sl 1 none (ints a),.sl 1 none (ints b)] [] (.bool (decide (a=b))):=by
 refine fcalls (F:=Tryz.f10) c10 rfl rfl rfl mixed rfl fun X=>?_
 conv=>whnf
 repeat (refine QCall.k0 (sameInts a b ha hb) ?_;conv=>whnf)
 exact ⟨rfl,rfl⟩
theorem worksI:QCall Tryz.prog 5 [] [] (.bool true):=by
 have hi:=RowT.ok (by decide) encNd_len (InduceA exI exL fitI)
 rw [indI.1,indI.2] at hi
 have h1:=sameInts10 [0,1] [0,1] (by decide) (by decide)
 have h2:=sameInts10 [2] [2] (by decide) (by decide)
 refine fcalls (F:=Tryz.f5) c5 rfl rfl rfl mixed rfl fun X=>?_
 conv=>whnf
 repeat ((first|refine QCall.k0 (exampleI) ?_|refine QCall.k0 (hi) ?_|(refine ⟨0,_,gP_of ⟨rfl,rfl⟩,?_⟩)|(refine ⟨1,_,gP_of ⟨rfl,rfl⟩,?_⟩)|refine gcall (h1) ?_|refine gcall (h2) ?_);conv=>whnf)
 exact ⟨congrArg AV.bool (by decide),rfl⟩
structure NdFit (x:Nd):Prop where
 lines:x.lines.length≤1048576
end Go.Abs.Wall.Lst
