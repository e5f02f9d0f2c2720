/- What is proved: small laws for the walks of this seat, and contracts of its functions. No condition but those each theorem names. -/
import Derived.Test.YtddhcllidlclmaaGreatN25
set_option maxRecDepth 100000
set_option maxHeartbeats 2000000
set_option linter.unusedVariables false
set_option linter.unusedSimpArgs false
namespace Go.Abs.Wall.Lst
open Go Go.Abs Go.Proofs Go.Abs.Wall Go.Proofs.YtddhcllidlclmaaGreat.Br
def ntr (l:List Nd):List Int:=l.map (·.entry)
def c8:Cfg:=⟨[0,2,3,4,8],[],[],[],[],[]⟩
theorem lentriesW (l:List Nd) (hl:l.length≤1048576):QCall Tryz.prog 8 [.sl 2 none (l.map encNd)] [] (.sl 1 none (ints (ntr l))):=by
 refine QCall.of ?_
 refine fcalls (F:=Tryz.f8) c8 rfl rfl rfl mixed rfl fun X=>?_
 conv=>whnf
 skip
 refine tloop rfl mixed [0,3,4] [] (fun m r h=>∃ (i:Nat) (ov:AV) (oh:Heap),r=[(0,[],.sl 2 none (l.map encNd)),(3,[],ov),(4,[],.int .i64 i)]∧h=oh∧m=l.length - i∧i≤l.length∧Out 1 (fun n=>[AV.int .i64 n]) (ntr (l.take i)) ov oh) ?_ ?_
 ·conv=>whnf
  exact ⟨_,_,Turn.refl _ _,_,0,.nilS,[],rfl,rfl,rfl,by omega,.inl ⟨rfl,rfl,rfl⟩⟩
 ·rintro m r h' ⟨i,ov,oh,rfl,rfl,rfl,hi,ho⟩
  have hol:(ntr (l.take i)).length≤1048576:=by unfold ntr;rw [List.length_map,List.length_take];omega
  conv=>whnf
  skip
  refine ⟨fun hi2=>?_,fun hi2=>?_⟩<;>simp at hi2
  ·obtain ⟨x,hx⟩:=get_lt hi2
   have hsn:ntr (l.take (i+1))=ntr (l.take i)++[x.entry]:=by rw [take_snoc hx];unfold ntr;rw [List.map_append];rfl
   rcases ho with ⟨he,rfl,rfl⟩|⟨q,rfl,rfl⟩
   all_goals
    conv=>whnf
    repeat ((first|refine ⟨gP_of ⟨by omega,by omega⟩,?_⟩|refine ix (by assumption) ?_|(refine ⟨Nat.le_of_ble_eq_true rfl,fun q'=>?_⟩)|(refine ⟨(by rw [List.length_append,List.length_map];simp at hol ⊢;unfold AMAX;omega),fun q'=>⟨_,.here _,?_⟩⟩));conv=>whnf)
    refine ⟨_,_,Turn.refl _ _,_,(by omega),i+1,_,[(q',.tok)],rfl,rfl,rfl,by omega,.inr ⟨q',?_,rfl⟩⟩
    rw [hsn,List.map_append]
    first|done|rfl|(rw [he];done)|(rw [he];rfl)
  ·rw [List.take_of_length_le hi2] at ho
   conv=>whnf
   skip
   exact ho.le (by decide)
theorem ntr_len (l:List Nd):(ntr l).length=l.length:=by unfold ntr;rw [List.length_map]
end Go.Abs.Wall.Lst
namespace Go.Abs.Wall.Lst
open Go Go.Abs Go.Proofs Go.Abs.Wall Go.Proofs.YtddhcllidlclmaaGreat.Br
def keptW (H:Hou) (lines:List (List Int)):Int→Bool:=indW (corM H lines) H.lex.entries.length
def keptL (H:Hou) (lines:List (List Int)):List Int:=keepL H.lex.entries.length (keptW H lines)
theorem ntr_ind {H:Hou} {lines:List (List Int)} (h:indErr H lines=0):ntr (indR H lines)=keptL H lines:=by
 rw [indR,if_pos h]
 unfold indL ntr keptL keptW
 rw [List.map_map]
 exact (List.map_congr_left fun _ _=>rfl).trans (List.map_id _)
theorem getNd {H:Hou} {lines:List (List Int)} (h:indErr H lines=0) {i:Nat} {x:Nd} (hx:(indR H lines)[i]?=some x) :
  (keptL H lines)[i]?=some x.entry∧x.lines=needsM (corM H lines) (keptW H lines) x.entry:=by
 rw [indR,if_pos h,indL,List.getElem?_map,Option.map_eq_some_iff] at hx
 obtain ⟨e,he,rfl⟩:=hx
 exact ⟨he,rfl⟩
end Go.Abs.Wall.Lst
