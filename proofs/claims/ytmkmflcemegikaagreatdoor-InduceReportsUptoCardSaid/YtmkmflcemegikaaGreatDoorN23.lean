/- What is proved: small laws for the walks of this seat, and contracts of its functions. No condition but those each theorem names. -/
import Derived.Test.YtmkmflcemegikaaGreatDoorN21
import Derived.Test.YtmkmflcemegikaaGreatDoorN22
set_option maxRecDepth 100000
set_option maxHeartbeats 2000000
set_option linter.unusedVariables false
set_option linter.unusedSimpArgs false
namespace Go.Abs.Wall.Lst
open Go Go.Abs Go.Proofs Go.Abs.Wall
theorem growsE_zero {H:Hou}:∀ {lines:List (List Int)},growsE H lines=0↔∀ l∈lines,growErr H l=0
 | []=>by simp [growsE]
 | l::t=>by
   unfold growsE
   split
   ·rename_i h
    constructor
    ·intro h2;exact absurd h2 h
    ·intro h2;exact absurd (h2 l (List.mem_cons_self ..)) h
   ·rename_i h
    have h:growErr H l=0:=by simpa using h
    rw [growsE_zero]
    simp [h]
theorem corErr_zero {H:Hou} {lines:List (List Int)} (h:corErr H lines=0):houErr H=0∧lines.length≤40∧∀ l∈lines,growErr H l=0:=by
 unfold corErr at h
 split at h
 ·rename_i h1;exact absurd h h1
 rename_i h1
 split at h
 ·cases h
 rename_i h2
 exact ⟨by simpa using h1,by omega,growsE_zero.1 h⟩
theorem edg_in {H:Hou} {line:List Int} (h:growErr H line=0) {i:Nat} {es:List Edg} (hes:(graphM H line)[i]?=some es) {x:Edg} (hx:x∈es) :
  (i:Int)<x.to∧x.to≤(graphM H line).length∧0≤x.word.form.entry∧x.word.form.entry<H.lex.entries.length:=by
 obtain ⟨hL,_,hg⟩:=growOK h
 have h1:=hg.edge i es hes x hx
 have hlt:=(List.getElem?_eq_some_iff.1 hes).1
 rw [graphM_len] at hlt
 rw [graphM_get hlt] at hes
 cases hes
 have h2:=frmOK ((edgsAt_iff hL (line_lex (grow_line h)) (by omega)).1 hx).1.1
 exact ⟨h1.lo,h1.hi,h2.entry⟩
theorem lnk_ok {H:Hou} {line:List Int} (h:growErr H line=0):LOK (lnksM H line):=by
 intro i es hes x hx
 unfold lnksM at hes ⊢
 rw [List.getElem?_map] at hes
 obtain ⟨fs,hf,rfl⟩:=Option.map_eq_some_iff.1 hes
 obtain ⟨y,hy,rfl⟩:=List.mem_map.1 hx
 have:=edg_in h hf hy
 rw [List.length_map]
 exact ⟨this.1,this.2.1⟩
theorem cor_ok {H:Hou} {lines:List (List Int)} (h:corErr H lines=0):COK H.lex.entries.length (corM H lines):=by
 obtain ⟨_,_,h3⟩:=corErr_zero h
 refine ⟨fun g hg=>?_,fun g hg es hes x hx=>?_⟩
 ·obtain ⟨l,hl,rfl⟩:=List.mem_map.1 hg
  exact lnk_ok (h3 l hl)
 ·obtain ⟨l,hl,rfl⟩:=List.mem_map.1 hg
  unfold lnksM at hes
  obtain ⟨fs,hf,rfl⟩:=List.mem_map.1 hes
  obtain ⟨y,hy,rfl⟩:=List.mem_map.1 hx
  obtain ⟨i,hi⟩:=List.mem_iff_getElem?.1 hf
  have:=edg_in (h3 l hl) hi hy
  exact ⟨this.2.2.1,this.2.2.2⟩
end Go.Abs.Wall.Lst
namespace Go.Abs.Wall.Lst
open Go Go.Abs Go.Proofs Go.Abs.Wall
theorem risGo_iff {n:Int}:∀ {l:List Int} {last:Int},risGo l n last=true↔l.Pairwise (·<·)∧(∀ x∈l,0≤x∧x<n)∧∀ x∈l,last<x
 | [],last=>by simp [risGo]
 | x::t,last=>by
   unfold risGo
   rw [Bool.and_eq_true,Bool.and_eq_true,Bool.and_eq_true,decide_eq_true_eq,decide_eq_true_eq,decide_eq_true_eq,risGo_iff,List.pairwise_cons]
   constructor
   ·rintro ⟨⟨⟨h1,h2⟩,h3⟩,h4,h5,h6⟩
    refine ⟨⟨h6,h4⟩,fun y hy=>?_,fun y hy=>?_⟩
    ·rcases List.mem_cons.1 hy with rfl|hy
     ·omega
     ·exact h5 y hy
    ·rcases List.mem_cons.1 hy with rfl|hy
     ·exact h3
     ·have:=h6 y hy;omega
   ·rintro ⟨⟨h1,h2⟩,h3,h4⟩
    have h5:=h3 x (List.mem_cons_self ..)
    exact ⟨⟨⟨h5.1,by omega⟩,h4 x (List.mem_cons_self ..)⟩,h2,fun y hy=>h3 y (List.mem_cons_of_mem _ hy),h1⟩
theorem risM_iff {l:List Int} {n:Int}:risM l n=true↔l.Pairwise (·<·)∧∀ x∈l,0≤x∧x<n:=by
 unfold risM
 rw [risGo_iff]
 exact ⟨fun h=>⟨h.1,h.2.1⟩,fun h=>⟨h.1,h.2,fun x hx=>by have:=h.2 x hx;omega⟩⟩
theorem allB_cpt {C:Cor} (h:∀ g∈C,LOK g) (w:Int→Bool):allB (C.map fun g=>g.map cpt) w=allB C w:=by
 unfold allB
 rw [List.all_map,Bool.eq_iff_iff,List.all_eq_true,List.all_eq_true]
 constructor
 ·intro h1 g hg
  have:=h1 g hg
  simp only [Function.comp] at this
  rwa [rdM_cpt (h g hg)] at this
 ·intro h1 g hg
  simp only [Function.comp]
  rw [rdM_cpt (h g hg)]
  exact h1 g hg
theorem needsM_cpt {C:Cor} (h:∀ g∈C,LOK g) (w:Int→Bool) (e:Int):needsM (C.map fun g=>g.map cpt) w e=needsM C w e:=by
 unfold needsM
 rw [List.length_map]
 congr 1
 refine List.filter_congr fun i hi=>?_
 rw [List.mem_range] at hi
 obtain ⟨g,hg⟩:=get_lt hi
 have h1:(C.map fun g=>g.map cpt)[i]?=some (g.map cpt):=by rw [List.getElem?_map,hg];rfl
 have hl:=h g (List.mem_of_getElem? hg)
 unfold needsF
 rw [getD_of h1,getD_of hg,rdM_cpt hl,rdM_cpt hl]
theorem indGo_cpt {C:Cor} (h:∀ g∈C,LOK g):∀ (n:Nat) (w:Int→Bool),indGo (C.map fun g=>g.map cpt) n w=indGo C n w
 | 0,w=>rfl
 | n+1,w=>by
   unfold indGo
   rw [allB_cpt h,indGo_cpt h n]
theorem indL_cpt {C:Cor} (h:∀ g∈C,LOK g) (N:Nat):indL (C.map fun g=>g.map cpt) N=indL C N:=by
 unfold indL indW
 rw [indGo_cpt h]
 refine List.map_congr_left fun e he=>?_
 unfold ndOf
 rw [needsM_cpt h]
structure CorFit (H:Hou) (lines:List (List Int)):Prop where
 hou:HouFit H
 line:∀ l∈lines,l.length≤1048576
 lines:lines.length≤1048576
theorem corP_fit {H:Hou} {lines:List (List Int)} (h:corErr H lines=0):∀ g∈corP H lines,GFit g:=by
 intro g hg
 obtain ⟨_,_,h3⟩:=corErr_zero h
 unfold corP at hg
 obtain ⟨g0,hg0,rfl⟩:=List.mem_map.1 hg
 have hlk:=((cor_ok h).links g0 hg0).cpt
 obtain ⟨l,hl,rfl⟩:=List.mem_map.1 hg0
 obtain ⟨h4,h5,h6⟩:=growOK (h3 l hl)
 have h7:=h4.few
 refine ⟨hlk,?_,fun es hes=>?_⟩
 ·unfold lnksM
  rw [List.length_map,List.length_map,graphM_len]
  omega
 ·obtain ⟨fs,hfs,rfl⟩:=List.mem_map.1 hes
  unfold lnksM at hfs
  obtain ⟨ds,hds,rfl⟩:=List.mem_map.1 hfs
  obtain ⟨i,hi⟩:=List.mem_iff_getElem?.1 hds
  have h8:=h6.many i ds hi
  have h9:=cpt_len (ds.map lnkOf)
  rw [List.length_map] at h9
  omega
theorem corP_len (H:Hou) (lines:List (List Int)):(corP H lines).length=lines.length:=by simp [corP,corM]
def indErr (H:Hou) (lines:List (List Int)):Int:=if corErr H lines≠0 then corErr H lines else if allB (corM H lines) everyW=true then 0 else 52
def indR (H:Hou) (lines:List (List Int)):List Nd:=if indErr H lines=0 then indL (corM H lines) H.lex.entries.length else []
def encNd (x:Nd):List AV:=[.int .i64 x.entry,.sl 1 none (ints x.lines)]
def c8:Cfg:=⟨[0,1,2,4,5,6,7,8,9,10,18,22,31,38,44,45,46,50],[],[7],[],[],[]⟩
def c24:Cfg:=⟨[0,1,3],[],[],[],[],[]⟩
end Go.Abs.Wall.Lst
namespace Go.Abs.Wall.Lst
open Go Go.Abs Go.Proofs Go.Abs.Wall
theorem heqInt (a b:Int):eqV Tryz.prog 3 (.int .i64 a) (.int .i64 b)=some (decide (a=b)):=by
 unfold eqV
 rfl
theorem plainInt:plainT Tryz.prog 3=true:=by decide +kernel
theorem lookSet (k k':Int) (v:Int):∀ es:List (Int × Int),lookA k (setA k' v es)=if k=k' then some v else lookA k es
 | []=>by
   unfold setA lookA
   by_cases h:k=k'
   ·rw [if_pos h,if_pos h]
   ·rw [if_neg h,if_neg h];rfl
 | (x,u)::es=>by
   have ih:=lookSet k k' v es
   unfold setA
   by_cases h:k'=x
   ·rw [if_pos h]
    unfold lookA
    by_cases h2:k=k'
    ·rw [if_pos h2,if_pos h2]
    ·rw [if_neg h2,if_neg h2,if_neg (fun e=>h2 (e.trans h.symm))]
   ·rw [if_neg h]
    unfold lookA
    by_cases h2:k=x
    ·rw [if_pos h2,if_pos h2,if_neg (fun e=>h (e.symm.trans h2))]
    ·rw [if_neg h2,if_neg h2,ih]
def wOf (es:List (Int × Int)):Int→Bool:=fun e=>decide ((lookA e es).getD 0=0)
theorem wOf_set (es:List (Int × Int)) (i:Int):wOf (setA i 1 es)=but (wOf es) i:=by
 funext e
 unfold wOf but
 rw [lookSet]
 by_cases h:e=i
 ·rw [if_pos h,decide_eq_true h];rfl
 ·rw [if_neg h,decide_eq_false h];rfl
def mapI (es:List (Int × Int)):Ob:=.map (encA (AV.int .i64) (AV.int .i64) es)
theorem goneF (gb:Nat) (es:List (Int × Int)) (e:Int):QCall Tryz.prog 24 [.int .i64 e,.iptr [.omap gb]] [(gb,mapI es)] (.bool (wOf es e)):=by
 unfold mapI
 refine fcalls (F:=Tryz.f24) c24 rfl rfl rfl mixed rfl fun X=>?_
 conv=>whnf
 repeat ((refine lkI (.head _) heqInt plainInt ?_);conv=>whnf)
 exact ⟨rfl,rfl⟩
theorem encNd_len (x:Nd):(encNd x).length=2:=rfl
def RowT {α:Type} (k:Nat) (enc:α→List AV) (L:List α) (e:Int) (v:AV) (h':Heap):Prop:=∃ x hp Z,v=.tup [x,.int .i64 e]∧Row k enc L x hp∧h'=hp++Z
theorem RowT.nilT {α:Type} {k:Nat} {enc:α→List AV} {e:Int} {f:FuncId} {vs:List AV} {h:Heap} (hf:ACalls Tryz.prog f vs h (fun v _=>v=.tup [.nilS,.int .i64 e])):ACalls Tryz.prog f vs h (RowT k enc [] e):=by
 refine ACalls.post hf ?_
 rintro v h1 rfl
 exact ⟨_,[],⟨.nilO,[],[],rfl,.inl ⟨rfl,rfl,rfl⟩,rfl⟩,VLe.tup (.cons nil_le_nilO (.cons (VLe.refl _) .nil)),by simp,by simp [keys]⟩
theorem RowT.ok {α:Type} {f:FuncId} {vs:List AV} {k:Nat} {enc:α→List AV} {L:List α} {e:Int} (hk0:0<k) (hk:∀ a,(enc a).length=k)
  (h:ACalls Tryz.prog f vs [] (RowT k enc L e)):QCall Tryz.prog f vs [] (.tup [.sl k none (L.map enc),.int .i64 e]):=by
 refine QCall.of (ACalls.frzOr h ?_)
 rintro v h1 ⟨x,hp,Z,rfl,⟨rfl,rfl,rfl⟩|⟨_,b,rfl,rfl⟩,rfl⟩
 ·exact .inl (VLe.tup (.cons (nilO_le hk0) (.cons (VLe.refl _) .nil)))
 ·exact .inr ⟨b,_,Z,Z,_,.here _,FzH.refl _,.tup (.cons (fzEnc hk rfl) (.cons (.refl _) .nil)),VLe.refl _⟩
theorem keepL_snoc {C:Cor} {w:Int→Bool} (i:Nat):((List.range (i+1)).filter (keepF w)).map (fun n:Nat=>ndOf C w n)=((List.range i).filter (keepF w)).map (fun n:Nat=>ndOf C w n)++(if w i=true then [ndOf C w i] else []):=by
 rw [filter_snoc,List.map_append]
 congr 1
 unfold keepF
 split<;>rfl
theorem InduceA (H:Hou) (lines:List (List Int)) (hf:CorFit H lines) :
  ACalls Tryz.prog 8 [.agg (encHou H),.sl 1 none (lines.map encIs)] [] (RowT 2 encNd (indR H lines) (indErr H lines)):=by
 have ho:=openA H lines hf.hou hf.lines hf.line
 by_cases h0:corErr H lines=0
 ·have hcf:=corP_fit h0
  have hok:=cor_ok h0
  have hv:corV H lines=corP H lines:=by rw [corV,if_pos h0]
  rw [hv,h0] at ho
  have hall:=allA hcf (by rw [corP_len];exact hf.lines) (f:=23) (caps:=[]) (hp:=[]) (fun e=>everyA e [])
  rw [show allB (corP H lines) everyW=allB (corM H lines) everyW from allB_cpt hok.links _] at hall
  cases h1:allB (corM H lines) everyW with
  | false=>
    rw [h1] at hall
    have he:indErr H lines=52:=by rw [indErr,if_neg (by omega),if_neg (by rw [h1];decide)]
    rw [indR,he,if_neg (by decide)]
    refine RowT.nilT ?_
    refine fcalls (F:=Tryz.f8) c8 rfl rfl rfl mixed rfl fun X=>?_
    conv=>whnf
    repeat (refine QCall.k0 (ho) ?_;conv=>whnf)
    refine cF rfl ?_
    conv=>whnf
    repeat (refine QCall.k0 (hall) ?_;conv=>whnf)
    refine cT rfl ?_
    conv=>whnf
    skip
  | true=>
    rw [h1] at hall
    have he:indErr H lines=0:=by rw [indErr,if_neg (by omega),if_pos h1]
    have hr:indR H lines=indL (corP H lines) H.lex.entries.length:=by rw [indR,if_pos he,corP,indL_cpt hok.links]
    rw [he,hr]
    have hNf:H.lex.entries.length≤200:=(houOK (corErr_zero h0).1).lex.many.1
    obtain ⟨C,hC⟩:∃ C,C=corP H lines:=⟨_,rfl⟩
    obtain ⟨N,hN⟩:∃ N,N=H.lex.entries.length:=⟨_,rfl⟩
    have hNe:(H.lex.entries.map encEnt).length=N:=by rw [List.length_map,hN]
    have hCl:C.length≤1048576:=by rw [hC,corP_len];exact hf.lines
    rw [← hC,← hN]
    rw [← hC] at hcf ho hall
    rw [← hN] at hNf
    refine fcalls (F:=Tryz.f8) c8 rfl rfl rfl mixed rfl fun X=>?_
    conv=>whnf
    repeat (refine QCall.k0 (ho) ?_;conv=>whnf)
    refine cF rfl ?_
    conv=>whnf
    repeat (refine QCall.k0 (hall) ?_;conv=>whnf)
    refine cF rfl ?_
    conv=>whnf
    repeat ((first|refine ⟨gP_of ⟨by omega,by omega⟩,?_⟩|(intro (gb0:Nat))|refine ⟨_,_,Rem.here _,⟨Nat.le_of_ble_eq_true rfl,rfl⟩,?_⟩);conv=>whnf)
    rename_i gb
    refine tloop rfl mixed [2,4,6,7,8,9] [] (fun m r h=>∃ (n:Nat) (es:List (Int × Int)),r=[(2,[],.iptr (encHou H)),(4,[],.nilS),(6,[],encCor C),(7,[],.iptr [.omap gb]),(8,[],.fn 24 [.iptr [.omap gb]]),(9,[],.int .i64 ((n:Int) - 1))]∧h=[(gb,mapI es)]∧m=n∧n≤N∧indW C N=indGo C n (wOf es)) ?_ ?_
    ·conv=>whnf
     exact ⟨_,_,Turn.refl _ _,_,N,[],by rw [hNe],rfl,rfl,by omega,rfl⟩
    ·rintro n r h' ⟨_,es,rfl,rfl,rfl,hn,hw⟩
     conv=>whnf
     skip
     refine ⟨fun hi2=>?_,fun hi2=>?_⟩<;>simp only [decide_eq_true_eq,decide_eq_false_iff_not] at hi2
     ·obtain ⟨k,rfl⟩:∃ k,n=k+1:=⟨n - 1,by omega⟩
      have hk1:((k+1:Nat):Int) - 1=(k:Int):=by omega
      rw [hk1]
      have hall2:=allA hcf hCl (butF (goneF gb es) k)
      rw [indGo] at hw
      conv=>whnf
      repeat ((first|refine QCall.k0 (butA _ _ _) ?_|(refine QCall.k hall2 ?_));conv=>whnf)
      refine ⟨fun hq=>?_,fun hq=>?_⟩
      ·have hq:allB C (but (wOf es) k)=true:=hq
       rw [if_pos hq,← wOf_set] at hw
       conv=>whnf
       repeat ((first|refine ⟨gP_of ⟨by omega,by omega⟩,?_⟩|(refine upA heqInt plainInt (.here _) ?_));conv=>whnf)
       exact ⟨_,_,Turn.refl _ _,_,Nat.lt_succ_self _,k,setA (k:Int) 1 es,rfl,rfl,rfl,by omega,hw⟩
      ·have hq:allB C (but (wOf es) k)=false:=hq
       rw [if_neg (by rw [hq];decide)] at hw
       conv=>whnf
       repeat (refine ⟨gP_of ⟨by omega,by omega⟩,?_⟩;conv=>whnf)
       exact ⟨_,_,Turn.refl _ _,_,Nat.lt_succ_self _,k,es,rfl,rfl,rfl,by omega,hw⟩
     ·have hn0:n=0:=by omega
      subst hn0
      have hw:indW C N=wOf es:=hw
      have hL:indL C N=((List.range N).filter (keepF (wOf es))).map fun n:Nat=>ndOf C (wOf es) n:=by
       unfold indL keepL
       rw [hw,List.map_map]
       rfl
      rw [hL]
      conv=>whnf
      skip
      refine tloop rfl mixed [4,6,8,44,45] [] (fun m r h=>∃ (i:Nat) (ov:AV) (oh:Heap),r=[(4,[],ov),(6,[],encCor C),(8,[],.fn 24 [.iptr [.omap gb]]),(44,[],.int .i64 (H.lex.entries.map encEnt).length),(45,[],.int .i64 i)]∧h=oh++[(gb,mapI es)]∧m=N - i∧i≤N∧Row 2 encNd (((List.range i).filter (keepF (wOf es))).map fun n:Nat=>ndOf C (wOf es) n) ov oh) ?_ ?_
      ·conv=>whnf
       exact ⟨_,_,Turn.weak (.cons nil_le_nilO (RLe.refl _)),_,0,.nilO,[],rfl,rfl,rfl,by omega,.inl ⟨rfl,rfl,rfl⟩⟩
      ·rintro m r h' ⟨i,ov,oh,rfl,rfl,rfl,hi,ho⟩
       have hol:(((List.range i).filter (keepF (wOf es))).map fun n:Nat=>ndOf C (wOf es) n).length≤i:=by rw [List.length_map];exact filter_len i
       conv=>whnf
       refine ⟨fun hi2=>?_,fun hi2=>?_⟩<;>simp only [decide_eq_true_eq,decide_eq_false_iff_not] at hi2
       ·have hi3:i<N:=by omega
        have hgn:=goneF gb es i
        have hnd:=needsA hcf hCl (goneF gb es) i
        have hsn:=keepL_snoc (C:=C) (w:=wOf es) i
        rcases ho with ⟨he,rfl,rfl⟩|⟨hne,b,rfl,rfl⟩
        ·conv=>whnf
         repeat ((refine QCall.k hgn ?_);conv=>whnf)
         refine ⟨fun hq=>?_,fun hq=>?_⟩
         ·have hq:wOf es i=true:=hq
          rw [if_pos hq] at hsn
          conv=>whnf
          repeat ((first|refine ⟨gP_of ⟨by omega,by omega⟩,?_⟩|(refine QCall.k hnd ?_)|(refine ⟨⟨Nat.le_of_ble_eq_true rfl,Nat.le_of_ble_eq_true rfl⟩,fun b'=>?_⟩));conv=>whnf)
          refine ⟨_,_,Turn.refl _ _,_,(by omega),i+1,_,[(b',_)],rfl,rfl,rfl,by omega,.inr ⟨by rw [hsn];simp,b',?_,?_⟩⟩
          ·rw [hsn,he];rfl
          ·rw [hsn,he];rfl
         ·have hq:wOf es i=false:=hq
          rw [if_neg (by rw [hq];decide),List.append_nil] at hsn
          conv=>whnf
          repeat (refine ⟨gP_of ⟨by omega,by omega⟩,?_⟩;conv=>whnf)
          exact ⟨_,_,Turn.refl _ _,_,(by omega),i+1,_,[],rfl,rfl,rfl,by omega,.inl ⟨by rw [hsn];exact he,rfl,rfl⟩⟩
        ·conv=>whnf
         repeat ((refine QCall.k (QCall.more hgn) ?_);conv=>whnf)
         refine ⟨fun hq=>?_,fun hq=>?_⟩
         ·have hq:wOf es i=true:=hq
          rw [if_pos hq] at hsn
          conv=>whnf
          repeat ((first|refine ⟨gP_of ⟨by omega,by omega⟩,?_⟩|(refine QCall.k (QCall.more hnd) ?_)|(refine ⟨_,.head _,⟨enc_len encNd_len,by unfold AMAX;simp only [List.length_cons,List.length_nil];omega⟩,fun b'=>⟨_,.here _,?_⟩⟩));conv=>whnf)
          refine ⟨_,_,Turn.refl _ _,_,(by omega),i+1,_,[(b',_)],rfl,rfl,rfl,by omega,.inr ⟨by rw [hsn];simp,b',?_,?_⟩⟩
          ·rw [hsn,List.length_append];rfl
          ·rw [hsn,List.map_append,List.flatten_append];rfl
         ·have hq:wOf es i=false:=hq
          rw [if_neg (by rw [hq];decide),List.append_nil] at hsn
          conv=>whnf
          repeat (refine ⟨gP_of ⟨by omega,by omega⟩,?_⟩;conv=>whnf)
          exact ⟨_,_,Turn.refl _ _,_,(by omega),i+1,_,[(b,_)],rfl,rfl,rfl,by omega,.inr ⟨by rw [hsn];exact hne,b,by rw [hsn],by rw [hsn]⟩⟩
       ·have hi3:i=N:=by omega
        subst hi3
        conv=>whnf
        skip
        exact ⟨_,_,_,rfl,ho,rfl⟩
 ·have he:indErr H lines=corErr H lines:=by rw [indErr,if_pos h0]
  rw [indR,he,if_neg h0]
  refine RowT.nilT ?_
  refine fcalls (F:=Tryz.f8) c8 rfl rfl rfl mixed rfl fun X=>?_
  conv=>whnf
  repeat (refine QCall.k0 (ho) ?_;conv=>whnf)
  refine cT (by simp [h0]) ?_
  conv=>whnf
  skip
end Go.Abs.Wall.Lst
