/- What is proved: small laws for the walks of this seat, and contracts of its functions. No condition but those each theorem names. -/
import Derived.Test.YtddhcllidlclmaaGreatN7
import Derived.Test.YtddhcllidlclmaaGreatN5
import Derived.Test.YtddhcllidlclmaaGreatN4
import Derived.Test.YtddhcllidlclmaaGreatN6
set_option maxRecDepth 100000
set_option maxHeartbeats 2000000
set_option linter.unusedVariables false
set_option linter.unusedSimpArgs false
namespace Go.Abs.Wall
open Go Go.Abs Go.Proofs
section
variable {α:Type} {k:Nat} {enc:α→List AV}
theorem flat_len (hk:∀ a,(enc a).length=k) (L:List α):((L.map enc).flatten).length=L.length*k:=enc_len hk
theorem flat_drop (hk:∀ a,(enc a).length=k):∀ (L:List α) (i:Nat),((L.map enc).flatten).drop (i*k)=((L.drop i).map enc).flatten
 | L,0=>by simp
 | [],i+1=>by simp
 | a::L,i+1=>by
   rw [List.map_cons,List.flatten_cons,List.drop_succ_cons,show (i+1)*k=(enc a).length+i*k by rw [hk,Nat.succ_mul,Nat.add_comm],List.drop_append,List.drop_eq_nil_of_le (Nat.le_add_right _ _),List.nil_append,Nat.add_sub_cancel_left]
   exact flat_drop hk L i
theorem flat_take (hk:∀ a,(enc a).length=k):∀ (L:List α) (i:Nat),((L.map enc).flatten).take (i*k)=((L.take i).map enc).flatten
 | L,0=>by simp
 | [],i+1=>by simp
 | a::L,i+1=>by
   rw [List.map_cons,List.flatten_cons,List.take_succ_cons,List.map_cons,List.flatten_cons,show (i+1)*k=(enc a).length+i*k by rw [hk,Nat.succ_mul,Nat.add_comm],List.take_append,List.take_of_length_le (Nat.le_add_right _ _),Nat.add_sub_cancel_left]
   rw [flat_take hk L i]
theorem ldE {P:Program} {t:TypeId} {b o i:Nat} {h:Heap} {L:List α} {x:α} {K:AV→Prop} (hk:∀ a,(enc a).length=k) (hm:(b,Ob.vec (L.map enc).flatten)∈h) (ho:o=i*k) (hx:L[i]?=some x)
  (hl:loadI P t (enc x++((L.drop (i+1)).map enc).flatten) K):∃ cs l,(b,Ob.vec cs)∈h∧dropN o cs=some l∧loadI P t l K:=by
 obtain ⟨hi,hx'⟩:=List.getElem?_eq_some_iff.1 hx
 refine ⟨_,_,hm,dropN_some ?_,?_⟩
 ·rw [flat_len hk,ho]
  exact Nat.mul_le_mul_right k (by omega)
 ·rw [ho,flat_drop hk,List.drop_eq_getElem_cons hi,hx',List.map_cons,List.flatten_cons]
  exact hl
theorem setC_flat (hk:∀ a,(enc a).length=k) {L:List α} {i:Nat} {y:α} (hi:i<L.length):setC (L.map enc).flatten (i*k) (enc y)=((L.set i y).map enc).flatten:=by
 unfold setC
 rw [hk,flat_take hk,show i*k+k=(i+1)*k by rw [Nat.succ_mul],flat_drop hk,List.set_eq_take_append_cons_drop,if_pos hi]
 simp
theorem stE {b o i:Nat} {h h':Heap} {L:List α} {l:List AV} {K:AV→Heap→Prop} (y:α) (hk0:0<k) (hk:∀ a,(enc a).length=k) (hi:i<L.length) (ho:o=i*k) (hl:l=enc y)
  (hu:Upd b (.vec (L.map enc).flatten) b (.vec ((L.set i y).map enc).flatten) h h') (hK:K .unit h') :
  ∃ cs h',Upd b (.vec cs) b (.vec (setC cs o l)) h h'∧(0<l.length∧o+l.length≤cs.length)∧K .unit h':=by
 subst ho hl
 refine ⟨_,h',by rw [setC_flat hk hi];exact hu,⟨by rw [hk];exact hk0,?_⟩,hK⟩
 rw [hk,flat_len hk,← Nat.succ_mul]
 exact Nat.mul_le_mul_right k hi
end
end Go.Abs.Wall
namespace Go.Abs.Wall
open Go Go.Abs Go.Proofs
theorem Below.none {α:Type} {p:α→Bool} {l:List α} {i:Nat} (h:Below p l i):(l.take i).any p=false:=by
 rw [List.any_eq_false]
 intro y hy
 obtain ⟨j,hj⟩:=List.mem_iff_getElem?.1 hy
 rw [List.getElem?_take] at hj
 split at hj
 ·rename_i h1
  rw [h j y h1 hj];decide
 ·cases hj
end Go.Abs.Wall
namespace Go.Abs.Wall
open Go Go.Abs Go.Proofs
end Go.Abs.Wall
namespace Go.Abs.Wall
open Go Go.Abs Go.Proofs
def inUse (p:Int) (v:Val):Bool:=wthn p v.fr v.to
end Go.Abs.Wall
namespace Go.Abs.Wall
open Go Go.Abs Go.Proofs
theorem useOf_kind (v:Val):(v.kind=1∧useOf v=[⟨1,v.text⟩,⟨3,v.text⟩])∨(v.kind=2∧useOf v=[⟨2,v.text⟩])∨(v.kind=3∧useOf v=[⟨4,v.text⟩])∨(v.kind≠1∧v.kind≠2∧v.kind≠3∧useOf v=[]):=by
 unfold useOf
 by_cases h1:v.kind=1
 ·exact .inl ⟨h1,by rw [if_pos h1]⟩
 by_cases h2:v.kind=2
 ·exact .inr (.inl ⟨h2,by rw [if_neg h1,if_pos h2]⟩)
 by_cases h3:v.kind=3
 ·exact .inr (.inr (.inl ⟨h3,by rw [if_neg h1,if_neg h2,if_pos h3]⟩))
 ·exact .inr (.inr (.inr ⟨h1,h2,h3,by rw [if_neg h1,if_neg h2,if_neg h3]⟩))
theorem useOf_key {u:Use} {v:Val} (h:u∈useOf v):v.text=u.text∧v.kind=(if u.kind=2 then 2 else if u.kind=4 then 3 else 1):=by
 rcases useOf_kind v with ⟨hk,e⟩|⟨hk,e⟩|⟨hk,e⟩|⟨_,_,_,e⟩<;>rw [e] at h<;>simp at h
 ·rcases h with rfl|rfl<;>simp [hk]
 ·subst h;simp [hk]
 ·subst h;simp [hk]
theorem useOf_nodup (v:Val):(useOf v).Nodup:=by
 rcases useOf_kind v with ⟨hk,e⟩|⟨hk,e⟩|⟨hk,e⟩|⟨_,_,_,e⟩<;>rw [e]<;>simp
theorem useOf_fresh {p:Int} {v w:Val} (hm:meetB v w=false) (hv:inUse p v=true) (hw:inUse p w=true):∀ u∈useOf v,u ∉ useOf w:=by
 have hov:¬ (v.kind=w.kind∧v.text=w.text):=by
  rintro ⟨h1,h2⟩
  unfold inUse at hv hw
  rw [wthn_iff] at hv hw
  unfold meetB at hm
  rw [decide_eq_true h1,decide_eq_true h2,decide_eq_true (show v.fr≤w.to by omega),decide_eq_true (show w.fr≤v.to by omega)] at hm
  cases hm
 intro u hu hu2
 have h1:=useOf_key hu
 have h2:=useOf_key hu2
 exact hov ⟨h1.2.trans h2.2.symm,h1.1.trans h2.1.symm⟩
def Apart (p:Int):List Val→Prop
 | []=>True
 | v::t=>(∀ w∈t,inUse p v=true→inUse p w=true→meetB w v=false)∧Apart p t
theorem valErr_apart {l:Lst} {b:List Val} {v:Val} (h:valErr l b v=0):∀ w∈b,meetB v w=false:=by
 unfold valErr at h
 split at h
 ·cases h
 split at h
 ·cases h
 split at h
 ·cases h
 ·rename_i h3
  rw [Bool.not_eq_true,List.any_eq_false] at h3
  exact fun w hw=>by simpa using h3 w hw
theorem valsErr_get {l:Lst} {vs:List Val}:∀ {t:List Val} {i:Nat},vs.drop i=t→valsErr l vs t i=0→∀ j v,i≤j→vs[j]?=some v→valErr l (vs.take j) v=0
 | [],i,hd,h,j,v,hj,hv=>by
   have:=(List.getElem?_eq_some_iff.1 hv).1
   have hl:=congrArg List.length hd
   rw [List.length_drop,List.length_nil] at hl
   omega
 | a::t,i,hd,h,j,v,hj,hv=>by
   unfold valsErr at h
   split at h
   ·rename_i h1;exact absurd h h1
   ·rename_i h1
    by_cases hij:j=i
    ·subst hij
     have:vs[j]?=some a:=by
      have:=congrArg (fun z=>z[0]?) hd
      simpa using this
     rw [hv] at this
     cases this
     exact by simpa using h1
    ·exact valsErr_get (t:=t) (i:=i+1) (by have:=congrArg List.tail hd;simpa [List.tail_drop] using this) h j v (by omega) hv
theorem apart_of {p:Int}:∀ {vs:List Val},(∀ (j k:Nat) v w,j<k→vs[j]?=some v→vs[k]?=some w→meetB w v=false)→Apart p vs
 | [],_=>trivial
 | a::t,h=>⟨fun w hw _ _=>by
    obtain ⟨k,hk⟩:=List.mem_iff_getElem?.1 hw
    exact h 0 (k+1) a w (by omega) rfl (by simpa using hk),apart_of fun j k v w hj hv hw=>h (j+1) (k+1) v w (by omega) (by simpa using hv) (by simpa using hw)⟩
theorem sgn_apart {l:Lst} {s:Sgn} (h:sgnErr l s=0) (p:Int):Apart p s.values:=by
 unfold sgnErr at h
 split at h
 ·cases h
 split at h
 ·cases h
 ·refine apart_of fun j k v w hj hv hw=>?_
  have:=valsErr_get (i:=0) rfl h k w (by omega) hw
  exact valErr_apart this v (List.mem_of_getElem? (i:=j) (by rw [List.getElem?_take,if_pos hj,hv]))
theorem useGo_nodup {p:Int}:∀ {vs:List Val},Apart p vs→(useGo p vs).Nodup
 | [],_=>.nil
 | v::t,h=>by
   unfold useGo
   split
   ·rename_i hw
    rw [List.nodup_append]
    refine ⟨useOf_nodup v,useGo_nodup h.2,fun u hu u' hu' e=>?_⟩
    subst e
    have hmem:∀ {t:List Val},u∈useGo p t→∃ w∈t,inUse p w=true∧u∈useOf w:=by
     intro t
     induction t with
     | nil=>intro h;cases h
     | cons a t ih=>
       intro h
       unfold useGo at h
       rcases List.mem_append.1 h with h|h
       ·split at h
        ·rename_i h1;exact ⟨a,by simp,h1,h⟩
        ·cases h
       ·obtain ⟨w,h1,h2⟩:=ih h
        exact ⟨w,by simp [h1],h2⟩
    obtain ⟨w,h1,h2,h3⟩:=hmem hu'
    exact useOf_fresh (h.1 w h1 hw h2) h2 hw u h3 hu
   ·rw [List.nil_append];exact useGo_nodup h.2
theorem lst_sgn {l:Lst} (h:lstErr l=0):∀ s∈l.signs,sgnErr l s=0:=by
 unfold lstErr at h
 split at h
 ·cases h
 split at h
 ·cases h
 ·have hgo:∀ {t:List Sgn} {seen:List (List UInt8)},lstGo l t seen=0→∀ s∈t,sgnErr l s=0:=by
   intro t
   induction t with
   | nil=>intro seen _ s hs;cases hs
   | cons a t ih=>
     intro seen h s hs
     unfold lstGo at h
     split at h
     ·cases h
     split at h
     ·rename_i h1;exact absurd h h1
     ·rename_i h1
      rcases List.mem_cons.1 hs with rfl|hs
      ·simpa using h1
      ·exact ih h s hs
  exact hgo h
end Go.Abs.Wall
namespace Go.Abs.Wall
open Go Go.Abs Go.Proofs
end Go.Abs.Wall
namespace Go.Abs.Wall
open Go Go.Abs Go.Proofs Go.Proofs.YtddhcllidlclmaaGreat.Br
def ShParts (P:Program) (B:Nat):List TypeId→List (List AV)→Prop
 | [],[]=>True
 | t::ts,p::ps=>Sh P B t p∧ShParts P B ts ps
 | _,_=>False
theorem sh_parts {P:Program} {B:Nat}:∀ {ts:List TypeId} {ps:List (List AV)},ps.length=ts.length→(∀ (i:Nat) t p,ts[i]?=some t→ps[i]?=some p→Sh P B t p)→ShParts P B ts ps
 | [],[],_,_=>trivial
 | t::ts,p::ps,hl,h=>⟨h 0 t p rfl rfl,sh_parts (by simpa using hl) fun i t' p' h1 h2=>h (i+1) t' p' (by simpa using h1) (by simpa using h2)⟩
 | [],_::_,hl,_=>by simp at hl
 | _::_,[],hl,_=>by simp at hl
theorem sh_struct {P:Program} {B:Nat} {t:TypeId} {fs:Array Field} {xs:List AV} (h:Sh P B t xs) (hu:P.underlying t=some (.struct fs)):∃ ps,xs=ps.flatten∧ShParts P B (fs.toList.map (·.type)) ps:=by
 cases h with
 | bool h1=>rw [hu] at h1;cases h1
 | int h1 _=>rw [hu] at h1;cases h1
 | str h1 _=>rw [hu] at h1;cases h1
 | slice h1 _ _=>rw [hu] at h1;cases h1
 | @struct _ fs' ps h1 hl hp=>
   rw [hu] at h1;cases h1
   refine ⟨ps,rfl,sh_parts (by simpa using hl) fun i t p h1 h2=>?_⟩
   rw [List.getElem?_map] at h1
   cases hf:fs.toList[i]? with
   | none=>rw [hf] at h1;cases h1
   | some f=>rw [hf] at h1;cases h1;exact hp i f p hf h2
 | array h1 hl hp=>rw [hu] at h1;cases h1
theorem sh_int {P:Program} {B:Nat} {t:TypeId} {k:IntKind} {xs:List AV} (h:Sh P B t xs) (hu:P.underlying t=some (.int k)):∃ n:Int,xs=[.int k n]∧k.has n:=by
 cases h with
 | bool h1=>rw [hu] at h1;cases h1
 | int h1 h2=>rw [hu] at h1;cases h1;exact ⟨_,rfl,wf_has h2⟩
 | str h1 _=>rw [hu] at h1;cases h1
 | slice h1 _ _=>rw [hu] at h1;cases h1
 | struct h1 hl hp=>rw [hu] at h1;cases h1
 | array h1 hl hp=>rw [hu] at h1;cases h1
theorem sh_bool {P:Program} {B:Nat} {t:TypeId} {xs:List AV} (h:Sh P B t xs) (hu:P.underlying t=some .bool):∃ b:Bool,xs=[.bool b]:=by
 cases h with
 | bool h1=>exact ⟨_,rfl⟩
 | int h1 h2=>rw [hu] at h1;cases h1
 | str h1 _=>rw [hu] at h1;cases h1
 | slice h1 _ _=>rw [hu] at h1;cases h1
 | struct h1 hl hp=>rw [hu] at h1;cases h1
 | array h1 hl hp=>rw [hu] at h1;cases h1
theorem sh_str {P:Program} {B:Nat} {t:TypeId} {xs:List AV} (h:Sh P B t xs) (hu:P.underlying t=some .string):∃ s,xs=[.str s]∧s.length≤B:=by
 cases h with
 | bool h1=>rw [hu] at h1;cases h1
 | int h1 h2=>rw [hu] at h1;cases h1
 | str h1 h2=>exact ⟨_,rfl,h2⟩
 | slice h1 _ _=>rw [hu] at h1;cases h1
 | struct h1 hl hp=>rw [hu] at h1;cases h1
 | array h1 hl hp=>rw [hu] at h1;cases h1
theorem sh_list {P:Program} {B:Nat} {t e:TypeId} {xs:List AV} {α:Type} {enc:α→List AV} {Fit:α→Prop} (h:Sh P B t xs) (hu:P.underlying t=some (.slice e)) (he:∀ y,Sh P B e y→∃ a,y=enc a∧Fit a) :
  ∃ l:List α,xs=[.sl (P.cellsOf e) none (l.map enc)]∧l.length≤B∧∀ a∈l,Fit a:=by
 cases h with
 | bool h1=>rw [hu] at h1;cases h1
 | int h1 h2=>rw [hu] at h1;cases h1
 | str h1 _=>rw [hu] at h1;cases h1
 | @slice _ e' ys h1 h2 h3=>
   rw [hu] at h1;cases h1
   suffices hk:∃ l:List α,ys=l.map enc∧∀ a∈l,Fit a by
    obtain ⟨l,rfl,hf⟩:=hk
    exact ⟨l,rfl,by simpa using h2,hf⟩
   clear h2
   induction ys with
   | nil=>exact ⟨[],rfl,by simp⟩
   | cons y ys ih=>
     obtain ⟨l,rfl,hf⟩:=ih fun z hz=>h3 z (by simp [hz])
     obtain ⟨a,rfl,ha⟩:=he y (h3 y (by simp))
     exact ⟨a::l,rfl,fun b hb=>by rcases List.mem_cons.1 hb with rfl|hb;exact ha;exact hf b hb⟩
 | struct h1 hl hp=>rw [hu] at h1;cases h1
 | array h1 hl hp=>rw [hu] at h1;cases h1
theorem sh2 {P:Program} {B:Nat} {a b:TypeId} {ps:List (List AV)} (h:ShParts P B [a,b] ps):∃ x y,ps=[x,y]∧Sh P B a x∧Sh P B b y:=by
 match ps,h with
 | [x,y],⟨h1,h2,_⟩=>exact ⟨x,y,rfl,h1,h2⟩
theorem sh3 {P:Program} {B:Nat} {a b c:TypeId} {ps:List (List AV)} (h:ShParts P B [a,b,c] ps):∃ x y z,ps=[x,y,z]∧Sh P B a x∧Sh P B b y∧Sh P B c z:=by
 match ps,h with
 | [x,y,z],⟨h1,h2,h3,_⟩=>exact ⟨x,y,z,rfl,h1,h2,h3⟩
theorem sh4 {P:Program} {B:Nat} {a b c d:TypeId} {ps:List (List AV)} (h:ShParts P B [a,b,c,d] ps):∃ x y z u,ps=[x,y,z,u]∧Sh P B a x∧Sh P B b y∧Sh P B c z∧Sh P B d u:=by
 match ps,h with
 | [x,y,z,u],⟨h1,h2,h3,h4,_⟩=>exact ⟨x,y,z,u,rfl,h1,h2,h3,h4⟩
theorem sh5 {P:Program} {B:Nat} {a b c d e:TypeId} {ps:List (List AV)} (h:ShParts P B [a,b,c,d,e] ps):∃ x y z u v,ps=[x,y,z,u,v]∧Sh P B a x∧Sh P B b y∧Sh P B c z∧Sh P B d u∧Sh P B e v:=by
 match ps,h with
 | [x,y,z,u,v],⟨h1,h2,h3,h4,h5,_⟩=>exact ⟨x,y,z,u,v,rfl,h1,h2,h3,h4,h5⟩
abbrev B20:Nat:=1048576
theorem b20 {n:Nat} (h:n≤B20):n≤LMAX:=by unfold LMAX;unfold B20 at h;omega
theorem shInt {xs:List AV} (h:Sh Tryz.prog B20 3 xs):∃ n:Int,xs=[.int .i64 n]∧IntKind.i64.has n:=sh_int h rfl
theorem shInts {xs:List AV} (h:Sh Tryz.prog B20 41 xs):∃ l:List Int,xs=[.sl 1 none (ints l)]∧l.length≤B20∧∀ a∈l,IntKind.i64.has a:=
 sh_list (enc:=fun x=>[AV.int .i64 x]) h rfl fun y hy=>shInt hy
theorem shVal {xs:List AV} (h:Sh Tryz.prog B20 95 xs):∃ v:Val,xs=encVal v∧v.text.length≤B20:=by
 obtain ⟨ps,rfl,hp⟩:=sh_struct h rfl
 obtain ⟨x,y,z,u,rfl,h1,h2,h3,h4⟩:=sh4 hp
 obtain ⟨a,rfl,_⟩:=shInt h1
 obtain ⟨b,rfl,hb⟩:=sh_str h2 rfl
 obtain ⟨c,rfl,_⟩:=shInt h3
 obtain ⟨d,rfl,_⟩:=shInt h4
 exact ⟨⟨a,b,c,d⟩,rfl,hb⟩
theorem shSgn {xs:List AV} (h:Sh Tryz.prog B20 98 xs):∃ s:Sgn,xs=encSgn s∧SgnFit s:=by
 obtain ⟨ps,rfl,hp⟩:=sh_struct h rfl
 obtain ⟨x,y,z,u,v,rfl,h1,h2,h3,h4,h5⟩:=sh5 hp
 obtain ⟨a,rfl,ha⟩:=sh_str h1 rfl
 obtain ⟨b,rfl,hb⟩:=shInt h2
 obtain ⟨c,rfl,_⟩:=shInt h3
 obtain ⟨d,rfl⟩:=sh_bool h4 rfl
 obtain ⟨e,rfl,he,hf⟩:=sh_list (enc:=encVal) h5 rfl fun y hy=>shVal hy
 exact ⟨⟨a,b,c,d,e⟩,rfl,b20 ha,b20 he,fun v hv=>b20 (hf v hv)⟩
theorem shLst {xs:List AV} (h:Sh Tryz.prog B20 24 xs):∃ l:Lst,xs=encLst l∧LstFit l:=by
 obtain ⟨ps,rfl,hp⟩:=sh_struct h rfl
 obtain ⟨y,z,rfl,h1,h2⟩:=sh2 hp
 obtain ⟨a,rfl,_⟩:=shInt h1
 obtain ⟨b,rfl,hb,hf⟩:=sh_list (enc:=encSgn) h2 rfl fun y hy=>shSgn hy
 exact ⟨⟨a,b⟩,rfl,b20 hb,hf⟩
theorem shEnt {xs:List AV} (h:Sh Tryz.prog B20 100 xs):∃ e:Ent,xs=encEnt e∧EntFit e:=by
 obtain ⟨ps,rfl,hp⟩:=sh_struct h rfl
 obtain ⟨x,y,z,u,rfl,h1,h2,h3,h4⟩:=sh4 hp
 obtain ⟨a,rfl,ha⟩:=sh_str h1 rfl
 obtain ⟨b,rfl,hb⟩:=shInt h2
 obtain ⟨c,rfl,hc⟩:=sh_str h3 rfl
 obtain ⟨d,rfl,_⟩:=shInt h4
 exact ⟨⟨a,b,c,d⟩,rfl,b20 ha,b20 hc⟩
theorem shEdn {xs:List AV} (h:Sh Tryz.prog B20 129 xs):∃ e:Edn,xs=encEdn e∧EdnFit e:=by
 obtain ⟨ps,rfl,hp⟩:=sh_struct h rfl
 obtain ⟨x,y,z,u,rfl,h1,h2,h3,h4⟩:=sh4 hp
 obtain ⟨a,rfl,ha⟩:=shInt h1
 obtain ⟨b,rfl,hb⟩:=sh_str h2 rfl
 obtain ⟨c,rfl,hc⟩:=sh_str h3 rfl
 obtain ⟨d,rfl,_⟩:=shInt h4
 exact ⟨⟨a,b,c,d⟩,rfl,b20 hb,b20 hc⟩
theorem shCli {xs:List AV} (h:Sh Tryz.prog B20 132 xs):∃ e:Cli,xs=encCli e∧CliFit e:=by
 obtain ⟨ps,rfl,hp⟩:=sh_struct h rfl
 obtain ⟨x,y,z,rfl,h1,h2,h3⟩:=sh3 hp
 obtain ⟨a,rfl,ha⟩:=sh_str h1 rfl
 obtain ⟨b,rfl,hb⟩:=sh_str h2 rfl
 obtain ⟨c,rfl,hc⟩:=shInt h3
 exact ⟨⟨a,b,c⟩,rfl,b20 ha,b20 hb⟩
theorem shLex {xs:List AV} (h:Sh Tryz.prog B20 29 xs):∃ l:Lex,xs=encLex l∧LexFit l:=by
 obtain ⟨ps,rfl,hp⟩:=sh_struct h rfl
 obtain ⟨x,y,z,rfl,h1,h2,h3⟩:=sh3 hp
 obtain ⟨a,rfl,ha,fa⟩:=sh_list (enc:=encEnt) h1 rfl fun y hy=>shEnt hy
 obtain ⟨b,rfl,hb,fb⟩:=sh_list (enc:=encEdn) h2 rfl fun y hy=>shEdn hy
 obtain ⟨c,rfl,hc,fc⟩:=sh_list (enc:=encCli) h3 rfl fun y hy=>shCli hy
 exact ⟨⟨a,b,c⟩,rfl,b20 ha,b20 hb,b20 hc,fa,fb,fc⟩
theorem shCos {xs:List AV} (h:Sh Tryz.prog B20 31 xs):∃ c:Cos,xs=encCos c:=by
 obtain ⟨ps,rfl,hp⟩:=sh_struct h rfl
 obtain ⟨x,y,z,u,v,rfl,h1,h2,h3,h4,h5⟩:=sh5 hp
 obtain ⟨a,rfl,ha⟩:=shInt h1
 obtain ⟨b,rfl,hb⟩:=shInt h2
 obtain ⟨c,rfl,hc⟩:=shInt h3
 obtain ⟨d,rfl,hd⟩:=shInt h4
 obtain ⟨e,rfl,he⟩:=shInt h5
 exact ⟨⟨a,b,c,d,e⟩,rfl⟩
theorem shHou {xs:List AV} (h:Sh Tryz.prog B20 33 xs):∃ H:Hou,xs=encHou H∧HouFit H:=by
 obtain ⟨ps,rfl,hp⟩:=sh_struct h rfl
 obtain ⟨x,y,z,u,rfl,h1,h2,h3,h4⟩:=sh4 hp
 obtain ⟨a,rfl,ha⟩:=shLst h1
 obtain ⟨b,rfl,hb⟩:=shLex h2
 obtain ⟨c,rfl⟩:=shCos h3
 obtain ⟨d,rfl,hd⟩:=shInt h4
 exact ⟨⟨a,b,c,d⟩,rfl,⟨ha,hb⟩⟩
theorem argHou {x:AV} (h:ArgSh Tryz.prog B20 33 x):∃ H:Hou,x=.agg (encHou H)∧HouFit H:=by
 obtain ⟨xs,h,hx⟩:=h
 have hx:x=.agg xs:=hx
 subst hx
 obtain ⟨H,rfl,hf⟩:=shHou h
 exact ⟨H,rfl,hf⟩
theorem args2 {ts:List TypeId} {a b:TypeId} {xs:List AV} (ht:ts=[a,b]) (h:ArgShs Tryz.prog B20 ts xs):∃ x y,xs=[x,y]∧ArgSh Tryz.prog B20 a x∧ArgSh Tryz.prog B20 b y:=by
 subst ht
 match xs,h with
 | [x,y],⟨h1,h2,_⟩=>exact ⟨x,y,rfl,h1,h2⟩
end Go.Abs.Wall
