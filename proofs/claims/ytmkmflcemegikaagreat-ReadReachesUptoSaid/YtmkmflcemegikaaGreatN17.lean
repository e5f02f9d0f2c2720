/- What is proved: small laws for the walks of this seat, and contracts of its functions. No condition but those each theorem names. -/
import Derived.Test.YtmkmflcemegikaaGreatN16
import Derived.Test.YtmkmflcemegikaaGreatN14
set_option maxRecDepth 100000
set_option maxHeartbeats 2000000
set_option linter.unusedVariables false
set_option linter.unusedSimpArgs false
namespace Go.Abs.Wall.Lst
open Go Go.Abs Go.Proofs Go.Abs.Wall
def tl (g:List (List Edg)) (m j:Nat):List (List Edg):=((rdV g j).take m).map (·.2)
theorem sumC_cons (x:Edg) (p:List Edg):sumC (x::p)=x.cost+sumC p:=by unfold sumC;rw [List.map_cons,List.sum_cons]
theorem rdV_sum {g:List (List Edg)} (hg:GOK g):∀ (d i:Nat),i+d=g.length→∀ p∈rdV g i,sumC p.2=p.1:=by
 intro d
 induction d using Nat.strongRecOn with
 | _ d ih=>
   intro i hi p hp
   by_cases h:i<g.length
   ·obtain ⟨es,hes⟩:=get_lt h
    have hE:=hg.edge i es hes
    rw [rdV_cons hes hE,List.mem_map] at hp
    obtain ⟨w,hw,rfl⟩:=hp
    rw [mkR_cost]
    obtain ⟨t,ht⟩:=List.mem_iff_getElem?.1 hw
    obtain ⟨_,l,h2,h3⟩:=mgW_cand ht
    unfold clsG at h2
    rw [List.getElem?_map] at h2
    cases hx:es[w.edge]? with
    | none=>rw [hx] at h2;cases h2
    | some x=>
      rw [hx] at h2
      cases h2
      have ho:=hE x (List.mem_of_getElem? hx)
      unfold extC at h3
      rw [List.getElem?_map] at h3
      cases hq:(rdV g x.to.toNat)[w.rank]? with
      | none=>rw [hq] at h3;cases h3
      | some q=>
        rw [hq] at h3
        have h3:x.cost+q.1=w.cost:=by simpa using h3
        have h5:=ho.lo;have h6:=ho.hi
        have:=ih (g.length - x.to.toNat) (by omega) x.to.toNat (by omega) q (List.mem_of_getElem? hq)
        unfold mkR
        rw [hx]
        show sumC (x::((rdV g x.to.toNat).getD w.rank (0,[])).2)=_
        rw [List.getD_eq_getElem?_getD,hq]
        show sumC (x::q.2)=_
        rw [sumC_cons,this,h3]
   ·have:i=g.length:=by omega
    subst this
    rw [rdV_end] at hp
    simp at hp
    subst hp
    rfl
end Go.Abs.Wall.Lst
namespace Go.Abs.Wall.Lst
open Go Go.Abs Go.Proofs Go.Abs.Wall
theorem rdV_fit {g:List (List Edg)} (hg:GOK g):∀ (d i:Nat),i+d=g.length→∀ p∈rdV g i,p.2.length≤d∧∀ x∈p.2,WrdFit x.word:=by
 intro d
 induction d using Nat.strongRecOn with
 | _ d ih=>
   intro i hi p hp
   by_cases h:i<g.length
   ·obtain ⟨es,hes⟩:=get_lt h
    have hE:=hg.edge i es hes
    rw [rdV_cons hes hE,List.mem_map] at hp
    obtain ⟨w,hw,rfl⟩:=hp
    unfold mkR
    cases hx:es[w.edge]? with
    | none=>exact ⟨Nat.zero_le _,fun x hx=>by cases hx⟩
    | some x=>
      have ho:=hE x (List.mem_of_getElem? hx)
      have h5:=ho.lo;have h6:=ho.hi
      show (x::((rdV g x.to.toNat).getD w.rank (0,[])).2).length≤d∧∀ y∈x::((rdV g x.to.toNat).getD w.rank (0,[])).2,WrdFit y.word
      rw [List.getD_eq_getElem?_getD]
      cases hq:(rdV g x.to.toNat)[w.rank]? with
      | none=>
        refine ⟨by simp;omega,fun y hy=>?_⟩
        rw [List.mem_singleton.1 hy]
        exact ho.fit
      | some q=>
        obtain ⟨h7,h8⟩:=ih (g.length - x.to.toNat) (by omega) x.to.toNat (by omega) q (List.mem_of_getElem? hq)
        refine ⟨by show q.2.length+1≤d;omega,fun y hy=>?_⟩
        rcases List.mem_cons.1 hy with rfl|hy
        ·exact ho.fit
        ·exact h8 y hy
   ·have:i=g.length:=by omega
    subst this
    rw [rdV_end] at hp
    simp at hp
    subst hp
    exact ⟨Nat.zero_le _,fun x hx=>by cases hx⟩
theorem tl_fit {g:List (List Edg)} (hg:GOK g) {j:Nat} (hj:j≤g.length) (m:Nat):∀ p∈tl g m j,p.length≤60∧∀ x∈p,WrdFit x.word:=by
 intro p hp
 unfold tl at hp
 obtain ⟨q,hq,rfl⟩:=List.mem_map.1 hp
 obtain ⟨h1,h2⟩:=rdV_fit hg (g.length - j) j (by omega) q (List.mem_of_mem_take hq)
 have:=hg.few
 exact ⟨by omega,h2⟩
def rdgOf (p:List Edg):Rdg:=⟨p.map (·.word),sumC p⟩
theorem rdsOf_tl {g:List (List Edg)} (hg:GOK g) (m:Nat):rdsOf g m=(tl g m 0).map rdgOf:=by
 unfold rdsOf tl
 rw [List.map_map]
 refine List.map_congr_left fun p hp=>?_
 show pthR p=rdgOf p.2
 unfold pthR rdgOf
 rw [rdV_sum hg g.length 0 (by omega) p (List.mem_of_mem_take hp)]
theorem _root_.Go.Abs.VsLe.pre {a b:List AV} (h:VsLe a b):∀ xs:List AV,VsLe (xs++a) (xs++b)
 | []=>h
 | x::xs=>.cons (VLe.refl x) (VsLe.pre h xs)
theorem VssLe.pre {a b:List (List AV)} (h:VssLe a b):∀ xs:List (List AV),VssLe (xs++a) (xs++b)
 | []=>h
 | x::xs=>.cons (VsLe.refl x) (VssLe.pre h xs)
theorem Turn.left {r:Regs} {A Z:Heap}:Turn r (A++Z) r A:=
 Turn.sub (fun k o hm=>List.mem_append_left _ hm) fun hn=>by
  unfold keys at hn ⊢
  rw [List.map_append] at hn
  exact (List.nodup_append.1 hn).1
end Go.Abs.Wall.Lst
namespace Go.Abs.Wall.Lst
open Go Go.Abs Go.Proofs Go.Abs.Wall
def zeroRdg:Rdg:=⟨[],0⟩
def bestL (H:Hou) (line:List Int):Rdg:=(listL H line 1).headD zeroRdg
theorem rdsOf_nil {g:List (List Edg)} {m:Nat} (hm:1≤m):rdsOf g m=[]↔rdV g 0=[]:=by
 unfold rdsOf
 rw [List.map_eq_nil_iff]
 cases rdV g 0 with
 | nil=>simp
 | cons p r=>cases m with
   | zero=>omega
   | succ m=>simp
def c12:Cfg:=⟨[0,1,2,4,5,6,7,15],[],[],[],[],[]⟩
theorem list_first {H:Hou} {line:List Int} (h:listErr H line 1=0):∃ r l,listL H line 1=r::l∧bestL H line=r:=by
 have hl:listL H line 1=rdsOf (graphM H line) (1:Int).toNat:=by unfold listL;rw [if_pos h]
 unfold listErr at h
 split at h
 ·rename_i h1;exact absurd h h1
 ·rw [if_pos (by decide)] at h
  split at h
  ·cases h
  ·rename_i h2
   cases hr:listL H line 1 with
   | nil=>rw [hl] at hr;exact absurd ((rdsOf_nil (by decide)).1 hr) h2
   | cons r l=>exact ⟨r,l,rfl,by unfold bestL;rw [hr];rfl⟩
theorem list_none {H:Hou} {line:List Int} (h:listErr H line 1≠0):bestL H line=zeroRdg:=by
 unfold bestL listL
 rw [if_neg h];rfl
theorem bestW (H:Hou) (line:List Int) (hf:HouFit H) (hl:line.length≤1048576) :
  QCall Tryz.prog 12 [.agg (encHou H),.sl 1 none (ints line)] [] (.tup [.agg (encRdg (bestL H line)),.int .i64 (listErr H line 1)]):=by
 refine QCall.of ?_
 refine fcalls (F:=Tryz.f12) c12 rfl rfl rfl mixed rfl fun X=>?_
 conv=>whnf
 intro rb
 conv=>whnf
 repeat (refine QCall.k0 (listW H line 1 hf hl) ?_;conv=>whnf)
 refine ⟨fun hz=>?_,fun hz=>?_⟩<;>simp at hz
 ·conv=>whnf
  repeat ((first|(refine ⟨_,_,.here _,leOK,?_⟩)|refine ⟨_,_,.head _,rfl,?_⟩);conv=>whnf)
  rw [list_none hz]
  exact VLe.tup (.cons (VLe.agg (.cons (VLe.nil (by decide)) (.cons (VLe.refl _) .nil))) (.cons (VLe.refl _) .nil))
 ·obtain ⟨r,l,h1,h2⟩:=list_first hz
  rw [h1,h2,hz]
  conv=>whnf
  repeat ((first|(refine ixn (enc:=encRdg) 0 rfl rfl ?_)|refine ⟨_,_,.head _,rfl,?_⟩|refine ⟨_,_,.here _,leOK,?_⟩);conv=>whnf)
  exact VLe.refl _
def RdgFit (r:Rdg):Prop:=r.words.length≤60∧∀ w∈r.words,WrdFit w
theorem listL_fit {H:Hou} {line:List Int} {most:Int}:∀ r∈listL H line most,RdgFit r:=by
 unfold listL
 split
 ·rename_i he
  have h0:growErr H line=0:=by
   unfold listErr at he
   split at he
   ·rename_i h1;exact absurd he h1
   ·rename_i h1;simpa using h1
  obtain ⟨hL,hsum,hg⟩:=growOK h0
  intro r hr
  rw [rdsOf_tl hg] at hr
  obtain ⟨p,hp,rfl⟩:=List.mem_map.1 hr
  obtain ⟨h1,h2⟩:=tl_fit hg (j:=0) (by omega) _ p hp
  refine ⟨by show (p.map _).length≤60;rw [List.length_map];exact h1,fun w hw=>?_⟩
  obtain ⟨x,hx,rfl⟩:=List.mem_map.1 hw
  exact h2 x hx
 ·simp
theorem bestL_fit {H:Hou} {line:List Int}:RdgFit (bestL H line):=by
 by_cases h:listErr H line 1=0
 ·obtain ⟨r,l,h1,h2⟩:=list_first h
  rw [h2]
  exact listL_fit r (by rw [h1];simp)
 ·rw [list_none h]
  exact ⟨by decide,fun w hw=>by cases hw⟩
end Go.Abs.Wall.Lst
