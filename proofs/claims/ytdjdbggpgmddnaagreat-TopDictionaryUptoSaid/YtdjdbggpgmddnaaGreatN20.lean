/- Small laws for the walks and contracts of functions; each theorem names its conditions. -/
import Derived.Test.YtdjdbggpgmddnaaGreatN19
import Derived.Test.YtdjdbggpgmddnaaGreatN18
import Derived.Test.YtdjdbggpgmddnaaGreatN15
import Derived.Test.YtdjdbggpgmddnaaGreatN14
import Derived.Test.YtdjdbggpgmddnaaGreatN16
import Derived.Test.YtdjdbggpgmddnaaGreatN10
set_option maxRecDepth 100000
set_option maxHeartbeats 2000000
set_option linter.unusedVariables false
set_option linter.unusedSimpArgs false
namespace Go.Abs.Wall.Lst
open Go Go.Abs Go.Proofs Go.Abs.Wall Go.Proofs.YtdjdbggpgmddnaaGreat.Br
def chkOK (C:Cor) (keep:List Int) (l:List Nd):Bool:=l.all fun x=>!decide (needsM C (memW keep) x.entry=[])&&decide (needsM C (memW keep) x.entry=x.lines)
def ntr (l:List Nd):List Int:=l.map (·.entry)
def chkErr (H:Hou) (lines:List (List Int)) (l:List Nd):Int:=
 if begErr H lines (ntr l)≠0 then begErr H lines (ntr l) else if allB (corM H lines) (memW (ntr l))=true then (if chkOK (corM H lines) (ntr l) l=true then 0 else 90) else 90
structure NdsFit (l:List Nd):Prop where
 many:l.length<=1048576
 each:∀ x∈l,NdFit x
def c26:Cfg:=⟨[0,2,4,5,6,7,8],[],[4],[],[],[]⟩
def c13:Cfg:=⟨[0,1,2,3,6,7,8,9,10,12,13,24,31,32,33,34,35,52],[],[12],[],[],[]⟩
theorem entriesW (l:List Nd) (hl:l.length<=1048576):QCall Tryz.prog 26 [.sl 2 none (l.map encNd)] [] (.sl 1 none (ints (ntr l))):=by
 refine QCall.of ?_;refine fcalls (F:=Tryz.f26) c26 rfl rfl rfl mixed rfl fun X=>?_;(conv=>whnf);refine tloop rfl mixed [2,5,6,7] [] (fun m r h=>∃ (i:Nat) (ov:AV) (oh:Heap),r=[(2,[],ov),(5,[],.sl 2 none (l.map encNd)),(6,[],.int .i64 (l.map encNd).length),(7,[],.int .i64 i)]/\h=oh/\m=l.length - i/\i<=l.length/\Out 1 (fun n=>[AV.int .i64 n]) (ntr (l.take i)) ov oh) ?_ ?_
 ·(conv=>whnf);exact ⟨_,_,Turn.refl _ _,_,0,.nilS,[],rfl,rfl,rfl,by omega,.inl ⟨rfl,rfl,rfl⟩⟩
 rintro m r h' ⟨i,ov,oh,rfl,rfl,rfl,hi,ho⟩;have hol:(ntr (l.take i)).length<=1048576:=by unfold ntr;rw [List.length_map,List.length_take];omega
 (conv=>whnf);refine ⟨fun hi2=>?_,fun hi2=>?_⟩<;>simp at hi2
 ·obtain ⟨x,hx⟩:=get_lt hi2;have hsn:ntr (l.take (i+1))=ntr (l.take i)++[x.entry]:=by rw [take_snoc hx];unfold ntr;rw [List.map_append];rfl
  rcases ho with ⟨he,rfl,rfl⟩|⟨q,rfl,rfl⟩
  all_goals
   (conv=>whnf);repeat ((first|refine ⟨gP_of ⟨by omega,by omega⟩,?_⟩|refine ix (by assumption) ?_|(intro (b9:Nat))|(refine ⟨Nat.le_of_ble_eq_true rfl,fun q'=>?_⟩)|(refine ⟨(by rw [List.length_append,List.length_map];simp at hol ⊢;unfold AMAX;omega),fun q'=>⟨_,.here _,?_⟩⟩)|refine ⟨_,_,Rem.here _,⟨Nat.le_of_ble_eq_true rfl,rfl⟩,?_⟩);conv=>whnf)
   refine ⟨_,_,Turn.refl _ _,_,(by omega),i+1,_,[(q',.tok)],rfl,rfl,rfl,by omega,.inr ⟨q',?_,rfl⟩⟩;rw [hsn,List.map_append];first|done|rfl|(rw [he];done)|(rw [he];rfl)
 rw [List.take_of_length_le hi2] at ho;(conv=>whnf);skip;exact ho.le (by decide)
theorem ntr_len (l:List Nd):(ntr l).length=l.length:=by unfold ntr;rw [List.length_map]
theorem CheckW (H:Hou) (lines:List (List Int)) (l:List Nd) (hf:CorFit H lines) (hl:NdsFit l):QCall Tryz.prog 13 [.agg (encHou H),.sl 1 none (lines.map encIs),.sl 2 none (l.map encNd)] [] (.int .i64 (chkErr H lines l)):=by
 have hll:=hl.many;obtain ⟨keep,hkeep⟩:∃ k,k=ntr l:=⟨_,rfl⟩;have hkl:keep.length<=1048576:=by rw [hkeep,ntr_len];exact hll
 have hen:=entriesW l hll;rw [<- hkeep] at hen;have hb:=beginCor H lines keep hf hkl;obtain ⟨er,her⟩:∃ e,e=chkErr H lines l:=⟨_,rfl⟩;rw [<- her];unfold chkErr at her;rw [<- hkeep] at her;refine fcalls (F:=Tryz.f13) c13 rfl rfl rfl mixed rfl fun X=>?_;(conv=>whnf);repeat ((first|refine QCall.k0 (hen) ?_|refine QCall.k0 (hb) ?_);conv=>whnf)
 refine ⟨fun h0=>?_,fun h0=>?_⟩<;>simp at h0
 ·rw [if_pos h0] at her;(conv=>whnf);skip;exact ⟨by rw [her],rfl⟩
 rw [if_neg (by omega)] at her;obtain ⟨h1,h2⟩:=begErr_zero h0;have hv:begV H lines keep=corP H lines:=(by rw [begV,if_pos h0]);have hcp:=corP_fit h1;have hok:=cor_ok h1;have hcl:(corP H lines).length<=1048576:=by rw [corP_len];exact hf.lines
 have hall:=allA hcp hcl (chosenF keep (by unfold LMAX;omega));rw [show allB (corP H lines) (memW keep)=allB (corM H lines) (memW keep) from allB_cpt hok.links _] at hall;have hnd:∀ e,QCall Tryz.prog 35 [encCor (corP H lines),.fn 70 [.iptr [.sl 1 none (ints keep)]],.int .i64 e] [] (.sl 1 none (ints (needsM (corM H lines) (memW keep) e))):=by intro e;have:=needsA hcp hcl (chosenF keep (by unfold LMAX;omega)) e;rwa [show needsM (corP H lines) (memW keep) e=needsM (corM H lines) (memW keep) e from needsM_cpt hok.links _ _] at this
 obtain ⟨C,hC⟩:∃ C,C=corM H lines:=⟨_,rfl⟩;obtain ⟨P,hP⟩:∃ P,P=corP H lines:=⟨_,rfl⟩;have hCl:C.length<=1048576:=by rw [hC,cor_len];exact hf.lines
 rw [<- hC,<- hP] at hall;rw [<- hP,<- hC] at hnd;rw [<- hC] at her;rw [hv,<- hP];(conv=>whnf);repeat ((first|refine QCall.k0 (chosenA keep) ?_|refine QCall.k0 (hall) ?_);conv=>whnf)
 refine ⟨fun h3=>?_,fun h3=>?_⟩
 ·have h3:(!allB C (memW keep))=true:=h3;rw [Bool.not_eq_true'] at h3;rw [if_neg (by rw [h3];decide)] at her;(conv=>whnf);skip;exact ⟨by rw [her],rfl⟩
 have h3:(!allB C (memW keep))=false:=h3;rw [Bool.not_eq_false'] at h3;rw [if_pos h3] at her;(conv=>whnf);skip;refine sloop rfl mixed [8,10,32,33,34] [] (fun m r h=>∃ (i:Nat),r=[(8,[],encCor P),(10,[],.fn 70 [.iptr [.sl 1 none (ints keep)]]),(32,[],.sl 2 none (l.map encNd)),(33,[],.int .i64 (l.map encNd).length),(34,[],.int .i64 i)]/\h=[]/\m=l.length - i/\i<=l.length/\chkOK C keep l=chkOK C keep (l.drop i)) ?_ ?_
 ·(conv=>whnf);exact ⟨_,0,rfl,rfl,rfl,by omega,rfl⟩
 rintro m r h ⟨i,rfl,rfl,rfl,hi,hg⟩;(conv=>whnf);refine ⟨fun hi2=>?_,fun hi2=>?_⟩<;>simp at hi2
 ·obtain ⟨x,hx⟩:=get_lt hi2;have hxf:=(hl.each x (List.mem_of_getElem? hx)).lines;have hne:=hnd x.entry;obtain ⟨L,hL⟩:∃ L,L=needsM C (memW keep) x.entry:=⟨_,rfl⟩;have hLl:L.length<=1048576:=by rw [hL];have:=needsM_len C (memW keep) x.entry;omega
  rw [drop_cons hx] at hg;have hg:chkOK C keep l=((!decide (L=[])&&decide (L=x.lines))&&chkOK C keep (l.drop (i+1))):=by rw [hg,hL];rfl
  rw [<- hL] at hne
  have hcond:(decide (((ints L).length:Int)=0)||!decide (L=x.lines))=!(!decide (L=[])&&decide (L=x.lines)):=by
   have:decide (((ints L).length:Int)=0)=decide (L=[]):=by rw [ints_length,decide_eq_decide];cases L<;>simp;omega
   rw [this,Bool.not_and,Bool.not_not]
  (conv=>whnf);repeat ((first|refine ix (by assumption) ?_|(intro (b9:Nat))|refine QCall.k0 (hne) ?_|refine gcall (equalI L x.lines (by unfold LMAX;omega) (by unfold LMAX;omega)) ?_|refine ⟨_,_,Rem.here _,⟨Nat.le_of_ble_eq_true rfl,rfl⟩,?_⟩);conv=>whnf)
  refine ⟨fun hq=>?_,fun hq=>?_⟩
  ·have hq:=hcond.symm.trans hq;rw [Bool.not_eq_true'] at hq;rw [hq,Bool.false_and] at hg;rw [if_neg (by rw [hg];decide)] at her;(conv=>whnf);skip;exact ⟨by rw [her],rfl⟩
  have hq:=hcond.symm.trans hq;rw [Bool.not_eq_false'] at hq;rw [hq,Bool.true_and] at hg;(conv=>whnf);repeat (refine ⟨gP_of ⟨by omega,by omega⟩,?_⟩;conv=>whnf)
  exact ⟨_,by omega,i+1,rfl,rfl,rfl,by omega,hg⟩
 rw [drop_nil hi2] at hg;rw [if_pos (by rw [hg];rfl)] at her;(conv=>whnf);skip;exact ⟨by rw [her],rfl⟩
end Go.Abs.Wall.Lst
namespace Go.Abs.Wall.Lst
open Go Go.Abs Go.Proofs Go.Abs.Wall Go.Proofs.YtdjdbggpgmddnaaGreat.Br
theorem indErr_zero {H:Hou} {lines:List (List Int)} (h:indErr H lines=0):corErr H lines=0/\allB (corM H lines) everyW=true:=by
 unfold indErr at h;split at h
 ·rename_i h1;exact absurd h h1
 rename_i h1;split at h
 ·rename_i h2;exact ⟨by simpa using h1,h2⟩
 cases h
def keptW (H:Hou) (lines:List (List Int)):Int->Bool:=indW (corM H lines) H.lex.entries.length
def keptL (H:Hou) (lines:List (List Int)):List Int:=keepL H.lex.entries.length (keptW H lines)
theorem ntr_ind {H:Hou} {lines:List (List Int)} (h:indErr H lines=0):ntr (indR H lines)=keptL H lines:=by rw [indR,if_pos h];unfold indL ntr keptL keptW;rw [List.map_map];exact (List.map_congr_left fun _ _=>rfl).trans (List.map_id _)
theorem beg_keep {H:Hou} {lines:List (List Int)} (h:corErr H lines=0) (w:Int->Bool):begErr H lines (keepL H.lex.entries.length w)=0:=by unfold begErr;rw [if_neg (by omega),if_pos];exact risM_iff.2 ⟨keepL_up,fun x hx=>by have:=keepL_mem.1 hx;exact ⟨this.1,this.2.1⟩⟩
theorem kept_all {H:Hou} {lines:List (List Int)} (h:indErr H lines=0):allB (corM H lines) (keptW H lines)=true:=indGo_all _ _ (indErr_zero h).2
theorem kept_need {H:Hou} {lines:List (List Int)} (h:indErr H lines=0) {e:Int} (he:e∈keptL H lines):needsM (corM H lines) (keptW H lines) e≠[]:=
 indL_need (cor_ok (indErr_zero h).1) (indErr_zero h).2 (ndOf (corM H lines) (keptW H lines) e) (List.mem_map_of_mem he)
theorem check_ind {H:Hou} {lines:List (List Int)} (h:indErr H lines=0):chkErr H lines (indR H lines)=0:=by have h0:=(indErr_zero h).1;unfold chkErr;rw [ntr_ind h];unfold keptL;rw [if_neg (by rw [beg_keep h0];simp),allB_mem (cor_ok h0),if_pos (kept_all h),if_pos];unfold chkOK;rw [List.all_eq_true];intro x hx;rw [indR,if_pos h] at hx;obtain ⟨e,he,rfl⟩:=List.mem_map.1 hx;have h1:needsM (corM H lines) (memW (keepL H.lex.entries.length (keptW H lines))) e=needsM (corM H lines) (keptW H lines) e:=needsM_mem (cor_ok h0) _ _;show (!decide (needsM (corM H lines) (memW (keepL H.lex.entries.length (keptW H lines))) e=[])&&decide (needsM (corM H lines) (memW (keepL H.lex.entries.length (keptW H lines))) e=needsM (corM H lines) (keptW H lines) e))=true;rw [h1,decide_eq_false (kept_need h he),decide_eq_true rfl];rfl
theorem up_erase {l:List Int} (h:l.Pairwise (·<·)):∀ {i:Nat} {e:Int},l[i]?=some e->l.eraseIdx i=l.filter fun x=>!decide (x=e):=by
 induction l with
 | nil=>intro i e h;simp at h
 | cons a t ih=>
   intro i e hi;rw [List.pairwise_cons] at h;cases i with
   | zero=>
     simp at hi;subst hi;rw [List.eraseIdx_cons_zero,List.filter_cons,if_neg (by simp)];symm;rw [List.filter_eq_self];intro x hx;have:=h.1 x hx;simp;omega
   | succ i=>
     simp only [List.getElem?_cons_succ] at hi;have hlt:=h.1 e (List.mem_of_getElem? hi);rw [List.eraseIdx_cons_succ,List.filter_cons,if_pos (by simp;omega),ih h.2 hi]
theorem keep_but {N:Nat} {w:Int->Bool} {e:Int}:((keepL N w).filter fun x=>!decide (x=e))=keepL N (but w e):=by
 refine up_unique (keepL_up.filter _) keepL_up fun x=>?_;rw [List.mem_filter,keepL_mem,keepL_mem];unfold but;simp only [Bool.and_eq_true];constructor
 ·rintro ⟨⟨a,b,c⟩,d⟩;exact ⟨a,b,d,c⟩
 rintro ⟨a,b,d,c⟩;exact ⟨⟨a,b,c⟩,d⟩
theorem getNd {H:Hou} {lines:List (List Int)} (h:indErr H lines=0) {i:Nat} {x:Nd} (hx:(indR H lines)[i]?=some x) :
  (keptL H lines)[i]?=some x.entry/\x.lines=needsM (corM H lines) (keptW H lines) x.entry:=by
 rw [indR,if_pos h,indL,List.getElem?_map,Option.map_eq_some_iff] at hx;obtain ⟨e,he,rfl⟩:=hx;exact ⟨he,rfl⟩
end Go.Abs.Wall.Lst
namespace Go.Abs.Wall.Lst
open Go Go.Abs Go.Proofs Go.Abs.Wall
def c11:Cfg:=⟨[0,1,2,4,5,6,10,19],[],[],[],[],[]⟩
def zeroHou:Hou:=⟨⟨0,[]⟩,⟨[],[],[]⟩,⟨0,0,0,0,0⟩,0⟩
def onlyErr (H:Hou) (keep:List Int):Int:=if houErr H≠0 then houErr H else if risM keep H.lex.entries.length=true then 0 else 1
def onlyR (H:Hou) (keep:List Int):Hou:=if onlyErr H keep=0 then onlyH H keep else zeroHou
structure OnlyFit (H:Hou) (keep:List Int):Prop where
 signs:H.list.signs.length<=1048576
 vals:∀ s∈H.list.signs,s.values.length<=1048576
 ends:H.lex.endings.length<=1048576
 clis:H.lex.clitics.length<=1048576
 inr:∀ k∈keep,0<=k/\k<H.lex.entries.length
theorem only_fit {H:Hou} {keep:List Int} (h:houErr H=0) (hk:risM keep H.lex.entries.length=true):OnlyFit H keep:=by have ho:=houOK h;have hl:=lstOK ho.lst;have hm:=ho.lex.many;have h1:=hl.many;exact ⟨by omega,fun s hs=>by have:=(hl.each s hs).few;omega,by omega,by omega,(risM_iff.1 hk).2⟩
theorem zeroLe:VLe (.agg ([.int .i64 0,.nilS]++([.nilS,.nilS,.nilS]++([.int .i64 0,.int .i64 0,.int .i64 0,.int .i64 0,.int .i64 0]++[.int .i64 0])))) (.agg (encHou zeroHou)):=
 VLe.agg (.cons (VLe.refl _) (.cons (VLe.nil (by decide)) (.cons (VLe.nil (by decide)) (.cons (VLe.nil (by decide)) (.cons (VLe.nil (by decide)) (VsLe.refl _))))))
theorem OnlyW (H:Hou) (keep:List Int) (hf:HouFit H) (hk:keep.length<=1048576) :
  QCall Tryz.prog 11 [.agg (encHou H),.sl 1 none (ints keep)] [] (.tup [.agg (encHou (onlyR H keep)),.int .i64 (onlyErr H keep)]):=by
 have hch:=checkHouse H hf;have hel:=hf.lex.entries;unfold LMAX at hel;have hri:QCall Tryz.prog 29 [.sl 1 none (ints keep),.int .i64 ((H.lex.entries.map encEnt).length:Nat)] [] (.bool (risM keep H.lex.entries.length)):=by rw [List.length_map];exact risW keep H.lex.entries.length (by unfold LMAX;omega) (by omega)
 refine QCall.of ?_;refine fcalls (F:=Tryz.f11) c11 rfl rfl rfl mixed rfl fun X=>?_;(conv=>whnf);by_cases h0:houErr H=0
 ·cases h1:risM keep H.lex.entries.length with
  | true=>
    have he:onlyErr H keep=0:=(by rw [onlyErr,if_neg (by omega),if_pos h1]);have hfit:=only_fit h0 h1;rw [onlyR,if_pos he,he];rw [h0] at hch;rw [h1] at hri;(conv=>whnf);repeat ((first|refine QCall.k0 (hch) ?_|intro (nb:Nat));conv=>whnf)
    refine cF rfl ?_;(conv=>whnf);repeat (refine QCall.k0 (hri) ?_;conv=>whnf)
    refine cF rfl ?_;(conv=>whnf);repeat ((first|refine QCall.k0 (onlyA H keep hf hfit.signs hfit.vals hfit.ends hfit.clis hk hfit.inr) ?_|refine ⟨_,_,.head _,rfl,?_⟩|refine ⟨_,_,.here _,leOK,?_⟩);conv=>whnf)
    exact VLe.refl _
  | false=>
    have he:onlyErr H keep=1:=(by rw [onlyErr,if_neg (by omega),if_neg (by rw [h1];decide)]);rw [onlyR,he,if_neg (by decide)];rw [h0] at hch;rw [h1] at hri;(conv=>whnf);repeat ((first|refine QCall.k0 (hch) ?_|intro (nb:Nat));conv=>whnf)
    refine cF rfl ?_;(conv=>whnf);repeat (refine QCall.k0 (hri) ?_;conv=>whnf)
    refine cT rfl ?_;(conv=>whnf);repeat ((first|refine ⟨_,_,.head _,rfl,?_⟩|refine ⟨_,_,.here _,leOK,?_⟩);conv=>whnf)
    exact VLe.tup (.cons zeroLe (.cons (VLe.refl _) .nil))
 have he:onlyErr H keep=houErr H:=(by rw [onlyErr,if_pos h0]);rw [onlyR,he,if_neg h0];(conv=>whnf);repeat ((first|refine QCall.k0 (hch) ?_|intro (nb:Nat));conv=>whnf)
 refine cT (by simpa using h0) ?_;(conv=>whnf);repeat ((first|refine ⟨_,_,.head _,rfl,?_⟩|refine ⟨_,_,.here _,leOK,?_⟩);conv=>whnf)
 exact VLe.tup (.cons zeroLe (.cons (VLe.refl _) .nil))
end Go.Abs.Wall.Lst
namespace Go.Abs.Wall.Lst
open Go Go.Abs Go.Proofs Go.Abs.Wall
def mixL (i:Nat) (L:List Nd):List Nd:=renGo 0 (L.take i)++L.drop i
theorem ren_len:∀ (l:List Nd) (a:Nat),(renGo a l).length=l.length
 | [],_=>rfl
 | x::t,a=>by rw [renGo,List.length_cons,List.length_cons,ren_len t]
theorem mix_get {L:List Nd} {i j:Nat} (hi:i<=L.length):(mixL i L)[j]?=if j<i then (L[j]?).map fun x=>(⟨(j:Int),x.lines⟩:Nd) else L[j]?:=by
 have hl:(renGo 0 (L.take i)).length=i:=by rw [ren_len,List.length_take];omega
 unfold mixL;rw [List.getElem?_append,hl];by_cases h:j<i
 ·rw [if_pos h,if_pos h,ren_get,List.getElem?_take,if_pos h,Nat.zero_add]
 rw [if_neg h,if_neg h,List.getElem?_drop];congr 1;omega
theorem mix_len {L:List Nd} {i:Nat}:(mixL i L).length=L.length:=by unfold mixL;rw [List.length_append,ren_len,List.length_take,List.length_drop];omega
theorem mix_end (L:List Nd):mixL L.length L=renGo 0 L:=by unfold mixL;rw [List.take_length,List.drop_length,List.append_nil]
theorem mix_step {L:List Nd} {i:Nat} {x:Nd} (hx:L[i]?=some x):(mixL i L)[i]?=some x/\(mixL i L).set i ⟨(i:Int),x.lines⟩=mixL (i+1) L:=by
 have hi:=(List.getElem?_eq_some_iff.1 hx).1;refine ⟨by rw [mix_get (by omega),if_neg (by omega)];exact hx,?_⟩;refine List.ext_getElem? fun j=>?_;rw [List.getElem?_set,mix_get (by omega),mix_get (by omega),mix_len];by_cases h:i=j
 ·subst h;rw [if_pos rfl,if_pos hi,if_pos (by omega),hx];rfl
 rw [if_neg h];by_cases h2:j<i
 ·rw [if_pos h2,if_pos (by omega)]
 rw [if_neg h2,if_neg (by omega)]
def dicK (H:Hou) (lines:List (List Int)):List Int:=ntr (indR H lines)
def dicX (H:Hou) (lines:List (List Int)):Lex:=if indErr H lines=0 then onlyX H.lex (dicK H lines) else ⟨[],[],[]⟩
def dicL (H:Hou) (lines:List (List Int)):List Nd:=renGo 0 (indR H lines)
def DicP (H:Hou) (lines:List (List Int)):AV:=.tup [.agg (encLex (dicX H lines)),.sl 2 none ((dicL H lines).map encNd),.int .i64 (indErr H lines)]
theorem dicK_ok {H:Hou} {lines:List (List Int)}:(dicK H lines).Pairwise (·<·)/\∀ k∈dicK H lines,0<=k/\k<H.lex.entries.length:=by
 unfold dicK indR;split
 ·have h:ntr (indL (corM H lines) H.lex.entries.length)=keepL H.lex.entries.length (indW (corM H lines) H.lex.entries.length):=ents_ind _ _;rw [h];refine ⟨keepL_up,fun k hk=>?_⟩;have:=keepL_mem.1 hk;exact ⟨this.1,this.2.1⟩
 exact ⟨List.Pairwise.nil,fun k hk=>by cases hk⟩
def c9:Cfg:=⟨[0,1,2,4,5,6,7,8,9,10,18,26,27,28],[],[9],[],[(4,[0,1,2,3,4,5],[9])],[]⟩
theorem InduceR (H:Hou) (lines:List (List Int)) (hf:CorFit H lines) :
  ACalls Tryz.prog 12 [.agg (encHou H),.sl 1 none (lines.map encIs)] [] (fun v h'=>∃ x,v=.tup [x,.int .i64 (indErr H lines)]/\Row 2 encNd (indR H lines) x h'):=by
 refine ACalls.post (InduceA H lines hf) ?_;rintro v h1 ⟨x,hp,Z,rfl,hrow,rfl⟩;exact ⟨_,hp,⟨x,rfl,hrow⟩,VLe.refl _,fun k o hm=>List.mem_append_left _ hm,fun hn=>by unfold keys at hn ⊢;rw [List.map_append] at hn;exact (List.nodup_append.1 hn).1⟩
theorem entriesO {b:Nat} {l:List Nd} {hp:Heap} (hm:(b,Ob.vec (l.map encNd).flatten)∈hp) (hl:l.length<=1048576):QCall Tryz.prog 26 [.osl b 0 l.length 2] hp (.sl 1 none (ints (ntr l))):=by
 refine ACalls.cutV ?_;refine fcalls (F:=Tryz.f26) c26 rfl rfl rfl mixed rfl fun X=>?_;(conv=>whnf);refine tloop rfl mixed [2,5,6,7] [] (fun m r h=>∃ (i:Nat) (ov:AV) (oh:Heap),r=[(2,[],ov),(5,[],.osl b 0 l.length 2),(6,[],.int .i64 l.length),(7,[],.int .i64 i)]/\h=oh++hp/\m=l.length - i/\i<=l.length/\Out 1 (fun n=>[AV.int .i64 n]) (ntr (l.take i)) ov oh) ?_ ?_
 ·(conv=>whnf);exact ⟨_,_,Turn.refl _ _,_,0,.nilS,[],rfl,rfl,rfl,by omega,.inl ⟨rfl,rfl,rfl⟩⟩
 rintro m r h' ⟨i,ov,oh,rfl,rfl,rfl,hi,ho⟩;have hol:(ntr (l.take i)).length<=1048576:=by unfold ntr;rw [List.length_map,List.length_take];omega
 (conv=>whnf);refine ⟨fun hi2=>?_,fun hi2=>?_⟩<;>simp at hi2
 ·obtain ⟨x,hx⟩:=get_lt hi2;have hsn:ntr (l.take (i+1))=ntr (l.take i)++[x.entry]:=by rw [take_snoc hx];unfold ntr;rw [List.map_append];rfl
  rcases ho with ⟨he,rfl,rfl⟩|⟨q,rfl,rfl⟩
  all_goals
   (conv=>whnf);repeat ((first|refine ⟨gP_of ⟨by omega,by omega⟩,?_⟩|(refine ixo (i:=i) (by omega) ?_)|(refine ldE encNd_len hm (Nat.zero_add _) hx ?_)|(refine ldE encNd_len (.tail _ hm) (Nat.zero_add _) hx ?_)|(intro (b9:Nat))|(refine ⟨Nat.le_of_ble_eq_true rfl,fun q'=>?_⟩)|(refine ⟨(by rw [List.length_append,List.length_map];simp at hol ⊢;unfold AMAX;omega),fun q'=>⟨_,.here _,?_⟩⟩)|refine ⟨_,_,Rem.here _,⟨Nat.le_of_ble_eq_true rfl,rfl⟩,?_⟩);conv=>whnf)
   refine ⟨_,_,Turn.refl _ _,_,(by omega),i+1,_,[(q',.tok)],rfl,rfl,rfl,by omega,.inr ⟨q',?_,rfl⟩⟩;rw [hsn,List.map_append];first|done|rfl|(rw [he];done)|(rw [he];rfl)
 rw [List.take_of_length_le hi2] at ho;(conv=>whnf);skip;exact ⟨ho.le (by decide),_,rfl⟩
def zeroX:List AV:=[.nilS,.nilS,.nilS]
theorem zeroXLe:VLe (.agg [.nilS,.nilS,.nilS]) (.agg (encLex ⟨[],[],[]⟩)):=VLe.agg (.cons (VLe.nil (by decide)) (.cons (VLe.nil (by decide)) (.cons (VLe.nil (by decide)) .nil)))
def DicR (H:Hou) (lines:List (List Int)) (v:AV) (h':Heap):Prop:=
 VLe v (DicP H lines)\/∃ b h2,v=.tup [.agg (encLex (dicX H lines)),.osl b 0 (dicL H lines).length 2,.int .i64 (indErr H lines)]/\Rem b (.vec ((dicL H lines).map encNd).flatten) h' h2
theorem DicR.ok {H:Hou} {lines:List (List Int)} {f:FuncId} {vs:List AV} (h:ACalls Tryz.prog f vs [] (DicR H lines)):QCall Tryz.prog f vs [] (DicP H lines):=by
 refine QCall.of (ACalls.frzOr h ?_);rintro v h1 (hv|⟨b,h2,rfl,hr⟩)
 ·exact .inl hv
 exact .inr ⟨b,_,_,_,_,hr,FzH.refl _,.tup (.cons (.refl _) (.cons (fzEnc encNd_len rfl) (.cons (.refl _) .nil))),VLe.refl _⟩
theorem indR_none {H:Hou} {lines:List (List Int)} (h:indErr H lines≠0):indR H lines=[]:=by unfold indR;rw [if_neg h]
theorem mix_store {L:List Nd} {i:Nat} {x:Nd} (hx:L[i]?=some x):VsLe (setC ((mixL i L).map encNd).flatten (0+i*2+0) [.int .i64 (i:Int)]) ((mixL (i+1) L).map encNd).flatten:=by obtain ⟨h1,h2⟩:=mix_step hx;have:=flat_setle encNd_len h1 (j:=0) (y:=⟨(i:Int),x.lines⟩) (v:=.int .i64 (i:Int)) (by decide) (VsLe.refl _);rw [h2] at this;rw [Nat.zero_add];exact this
theorem DictA (H:Hou) (lines:List (List Int)) (hf:CorFit H lines) :
  QCall Tryz.prog 9 [.agg (encHou H),.sl 1 none (lines.map encIs)] [] (DicP H lines):=by
 have hl:=(indR_fit hf).1;by_cases h0:indErr H lines=0
 ·have hc0:corErr H lines=0:=by
   unfold indErr at h0;split at h0
   ·rename_i h1;exact absurd h0 h1
   rename_i h1;omega
  have hfit:=only_fit (corErr_zero hc0).1 (risM_iff.2 (dicK_ok (H:=H) (lines:=lines)));have hX:dicX H lines=onlyX H.lex (dicK H lines):=by unfold dicX;rw [if_pos h0]
  have hKl:(dicK H lines).length<=1048576:=by unfold dicK;rw [ntr_len];exact hl
  have hon:=onlyA H (dicK H lines) hf.hou hfit.signs hfit.vals hfit.ends hfit.clis hKl hfit.inr;refine DicR.ok ?_;refine fcalls (F:=Tryz.f9) c9 rfl rfl rfl mixed rfl fun X=>?_;(conv=>whnf);repeat ((intro (tb:Nat));conv=>whnf)
  refine ACalls.mono ?_ (ACalls.frame (InduceR H lines hf) _);rintro v h' ⟨hp,⟨x,rfl,hrow⟩,rfl⟩;rcases hrow with ⟨hL,rfl,rfl⟩|⟨hne,b,rfl,rfl⟩
  ·have hen:=entriesW [] (by decide);have hen2:QCall Tryz.prog 26 [.nilO] [] (.sl 1 none (ints (dicK H lines))):=by unfold dicK;rw [hL];exact QCall.args hen (.cons (nilO_le (by decide)) .nil)
   (conv=>whnf);skip;refine cF (by rw [h0];rfl) ?_;(conv=>whnf);repeat ((first|refine gcall (hen2) ?_|refine gcall (hon) ?_|refine ⟨_,_,Rem.here _,?_⟩|refine ⟨_,_,.here _,leOK,?_⟩|refine And.intro (by show drawOK (opsAt Tryz.f9 _) _=true;decide +kernel) ?_|intro (nb:Nat));conv=>whnf)
   refine sloop rfl mixed [4,7,9,26,27] [] (fun m r h=>∃ (i:Nat),r=[(4,[],.optr tb 0),(7,[],.nilO),(9,[],.iptr (encHou (onlyH H (dicK H lines)))),(26,[],.int .i64 0),(27,[],.int .i64 0)]/\h=[(tb,.vec zeroX)]/\m=0/\i=0) ?_ ?_
   ·(conv=>whnf);exact ⟨_,0,rfl,rfl,rfl,rfl⟩
   rintro m r h' ⟨i,rfl,rfl,rfl,hi⟩;(conv=>whnf);refine cF rfl ?_;(conv=>whnf);repeat ((first|refine ⟨_,_,.head _,rfl,?_⟩|refine ⟨_,_,.here _,leOK,?_⟩);conv=>whnf)
   refine .inl ?_;rw [DicP,hX,dicL,hL,h0];exact VLe.tup (.cons (VLe.refl _) (.cons (nilO_le (by decide)) (.cons (VLe.refl _) .nil)))
  have hen:∀ hp:Heap,(b,Ob.vec ((indR H lines).map encNd).flatten)∈hp->QCall Tryz.prog 26 [.osl b 0 (indR H lines).length 2] hp (.sl 1 none (ints (dicK H lines))):=fun hp hm=>entriesO hm hl;(conv=>whnf);skip;refine cF (by rw [h0];rfl) ?_;(conv=>whnf);repeat ((first|(refine gcallH (hen _ (.head _)) ?_)|refine gcall (hon) ?_|refine ⟨_,_,Rem.here _,?_⟩|refine ⟨_,_,.here _,leOK,?_⟩|refine And.intro (by show drawOK (opsAt Tryz.f9 _) _=true;decide +kernel) ?_|intro (nb:Nat));conv=>whnf)
  refine tloop rfl mixed [4,7,9,26,27] [] (fun m r h=>∃ (i:Nat),r=[(4,[],.optr tb 0),(7,[],.osl b 0 (indR H lines).length 2),(9,[],.iptr (encHou (onlyH H (dicK H lines)))),(26,[],.int .i64 (indR H lines).length),(27,[],.int .i64 i)]/\h=[(b,.vec ((mixL i (indR H lines)).map encNd).flatten),(tb,.vec zeroX)]/\m=(indR H lines).length - i/\i<=(indR H lines).length) ?_ ?_
  ·(conv=>whnf);exact ⟨_,_,Turn.refl _ _,_,0,rfl,rfl,rfl,by omega⟩
  rintro m r h' ⟨i,rfl,rfl,rfl,hi⟩;(conv=>whnf);refine ⟨fun hi2=>?_,fun hi2=>?_⟩<;>simp at hi2
  ·obtain ⟨x,hx⟩:=get_lt hi2;have hlen:0+i*2+0+1<=((mixL i (indR H lines)).map encNd).flatten.length:=by rw [flat_len encNd_len,mix_len];omega
   (conv=>whnf);repeat ((first|refine ⟨gP_of ⟨by omega,by omega⟩,?_⟩|(refine ixo (i:=i) (by omega) ?_)|(refine ⟨_,_,.here _,⟨Nat.le_of_ble_eq_true rfl,hlen⟩,?_⟩));conv=>whnf)
   exact ⟨_,_,Turn.cells (.here _) (mix_store hx),_,(by omega),i+1,rfl,rfl,rfl,by omega⟩
  have hie:i=(indR H lines).length:=(by omega);subst hie;rw [mix_end];(conv=>whnf);repeat ((first|(refine ⟨_,_,.there (.here _),leOK,?_⟩)|refine ⟨_,_,.tail _ (.head _),rfl,?_⟩);conv=>whnf)
  refine .inr ⟨b,_,?_,.here _⟩;rw [hX,h0,dicL,ren_len];rfl
 have hL:=indR_none h0;have hX:dicX H lines=⟨[],[],[]⟩:=by unfold dicX;rw [if_neg h0]
 refine DicR.ok ?_;refine fcalls (F:=Tryz.f9) c9 rfl rfl rfl mixed rfl fun X=>?_;(conv=>whnf);repeat ((intro (tb:Nat));conv=>whnf)
 refine ACalls.mono ?_ (ACalls.frame (InduceR H lines hf) _);rintro v h' ⟨hp,⟨x,rfl,hrow⟩,rfl⟩;rcases hrow with ⟨_,rfl,rfl⟩|⟨hne,_⟩
 ·(conv=>whnf);skip;refine cT (by simpa using h0) ?_;(conv=>whnf);repeat ((first|refine ⟨_,_,.head _,rfl,?_⟩|refine ⟨_,_,.here _,leOK,?_⟩);conv=>whnf)
  refine .inl ?_;rw [DicP,hX,dicL,hL];exact VLe.tup (.cons zeroXLe (.cons (VLe.nil (by decide)) (.cons (VLe.refl _) .nil)))
 exact absurd hL hne
end Go.Abs.Wall.Lst
namespace Go.Abs.Wall.Lst
open Go Go.Abs Go.Proofs Go.Abs.Wall
theorem only_houfit {H:Hou} (hf:HouFit H) {keep:List Int} (hk:keep.length<=1048576) (hin:∀ k∈keep,0<=k/\k<H.lex.entries.length):HouFit (onlyH H keep):=by
 refine ⟨hf.list,⟨?_,hf.lex.endings,hf.lex.clitics,?_,hf.lex.edn,hf.lex.cli⟩⟩
 ·show (keep.map (entAt H.lex)).length<=LMAX;rw [List.length_map];unfold LMAX;omega
 intro e he;obtain ⟨k,hkm,rfl⟩:=List.mem_map.1 he;have hr:=hin k hkm;exact hf.lex.ent _ (List.mem_of_getElem? (entAt_get hr.1 hr.2))
end Go.Abs.Wall.Lst
namespace Go.Abs.Wall.Lst
open Go Go.Abs Go.Proofs Go.Abs.Wall
theorem lnks_len2 (g:List (List Edg)):(lnks g).length=g.length:=by unfold lnks;rw [List.length_map]
theorem lnks_get2 {g:List (List Edg)} {i:Nat} {es:List Edg} (h:g[i]?=some es):(lnks g)[i]?=some (es.map lnkOf):=by unfold lnks;rw [List.getElem?_map,h];rfl
theorem path_of_toe {g:List (List Edg)} {i:Nat} (h:Toe (lnks g) i):∃ l,PathG g i l:=by
 induction h with
 | fin=>exact ⟨[],lnks_len2 g⟩
 | step h1 h2 h3 ih=>
   obtain ⟨l,hl⟩:=ih;unfold lnks at h1;rw [List.getElem?_map] at h1;obtain ⟨fs,hf,rfl⟩:=Option.map_eq_some_iff.1 h1;obtain ⟨e,he,rfl⟩:=List.mem_map.1 h2;exact ⟨e::l,fs,hf,he,hl⟩
theorem toe_of_rch {g:List (List Lnk)} {w:Int->Bool} {j:Nat} (hr:Rch g w j) (ht:Toe g j):Toe g 0:=by
 induction hr with
 | zero=>exact ht
 | step h1 h2 h3 h4 ih=>exact ih (.step h2 h3 ht)
theorem path_rch {g:List (List Edg)} {w:Int->Bool}:∀ (l:List Edg) (i:Nat),PathG g i l->(∀ x∈l,w x.word.form.entry=true)->Rch (lnks g) w i->Rch (lnks g) w (lnks g).length
 | [],i,h,_,hr=>by have:i=g.length:=h;subst this;rw [lnks_len2];exact hr
 | x::l,i,⟨es,h1,h2,h3⟩,hw,hr=>
   path_rch l _ h3 (fun y hy=>hw y (List.mem_cons_of_mem _ hy)) (.step hr (lnks_get2 h1) (List.mem_map.2 ⟨x,h2,rfl⟩) (hw x (List.mem_cons_self ..)))
theorem rd_path {g:List (List Edg)} (hl:LOK (lnks g)):rdM everyW (lnks g)=true↔∃ l,PathG g 0 l:=by rw [rdM_iff hl];exact ⟨fun h=>path_of_toe (toe_of_rch h .fin),fun ⟨l,h⟩=>path_rch l 0 h (fun _ _=>rfl) .zero⟩
theorem rdV_none {g:List (List Edg)} (hg:GOK g) (hl:LOK (lnks g)):rdV g 0=[]↔rdM everyW (lnks g)=false:=by
 have hp:=rdV_path hg g.length 0 (by omega);constructor
 ·intro h;cases hr:rdM everyW (lnks g) with
  | false=>rfl
  | true=>
    obtain ⟨l,hpl⟩:=(rd_path hl).1 hr;have:=(hp (sumC l,l)).2 ⟨hpl,rfl⟩;rw [h] at this;cases this
 intro h;cases hr:rdV g 0 with
 | nil=>rfl
 | cons p t=>
   have:=(hp p).1 (by rw [hr];exact List.mem_cons_self ..);rw [(rd_path hl).2 ⟨_,this.1⟩] at h;cases h
theorem best_read {H:Hou} {keep:List Int} (hk:KeepOK H keep) {l:List Int} (h:growErr H l=0):listErr (onlyH H keep) l 1=if rdM (memW keep) (lnksM H l)=true then 0 else 52:=by
 have h':=grow_keep hk h;obtain ⟨_,_,hg⟩:=growOK h';have hl:=lnk_ok h';have h1:=rd_only hk h (w:=everyW) (w':=everyW) (fun _ _ _=>rfl);rw [and_every] at h1;unfold listErr;rw [if_neg (by omega),if_pos (by omega),<- h1];have h2:=rdV_none hg hl;show (if rdV (graphM (onlyH H keep) l) 0=[] then (52:Int) else 0)=if rdM everyW (lnks (graphM (onlyH H keep) l))=true then 0 else 52;by_cases hr:rdV (graphM (onlyH H keep) l) 0=[]
 ·rw [if_pos hr,if_neg (by rw [h2.1 hr];decide)]
 rw [if_neg hr,if_pos (by cases hx:rdM everyW (lnks (graphM (onlyH H keep) l)) with|true=>rfl|false=>exact absurd (h2.2 hx) hr)]
theorem best_all {H:Hou} {keep:List Int} (hk:KeepOK H keep) {lines:List (List Int)} (h:∀ l∈lines,growErr H l=0) :
  allB (corM H lines) (memW keep)=true↔∀ l∈lines,listErr (onlyH H keep) l 1=0:=by
 unfold allB corM;rw [List.all_map,List.all_eq_true];refine ⟨fun h1 l hl=>?_,fun h1 l hl=>?_⟩
 ·have h2:rdM (memW keep) (lnksM H l)=true:=h1 l hl;rw [best_read hk (h l hl),if_pos h2]
 have:=h1 l hl;rw [best_read hk (h l hl)] at this;split at this
 ·assumption
 cases this
end Go.Abs.Wall.Lst
namespace Go.Abs.Wall.Lst
open Go Go.Abs Go.Proofs Go.Abs.Wall
def allBut (n i:Nat):List Int:=((List.range n).filter fun k=>decide (k≠i)).map fun k:Nat=>(k:Int)
theorem range_but {n i:Nat} (hi:i<n):(List.range n).filter (fun k=>decide (k≠i))=List.range' 0 i++List.range' (i+1) (n - (i+1)):=by
 have h1:List.range n=List.range' 0 i++(i::List.range' (i+1) (n - (i+1))):=by rw [List.range_eq_range',<- List.range'_succ];have:=List.range'_append_1 (s:=0) (m:=i) (n:=n - (i+1)+1);rw [Nat.zero_add] at this;rw [this];congr 1;omega
 rw [h1,List.filter_append,List.filter_cons];have e1:(List.range' 0 i).filter (fun k=>decide (k≠i))=List.range' 0 i:=by rw [List.filter_eq_self];intro k hk;rw [List.mem_range'_1] at hk;exact decide_eq_true (by omega)
 have e2:(List.range' (i+1) (n - (i+1))).filter (fun k=>decide (k≠i))=List.range' (i+1) (n - (i+1)):=by rw [List.filter_eq_self];intro k hk;rw [List.mem_range'_1] at hk;exact decide_eq_true (by omega)
 rw [e1,e2,if_neg (by simp)]
theorem range_get {K:List Int}:∀ (m a:Nat),a+m<=K.length->(List.range' a m).map (fun k=>K.getD k 0)=(K.drop a).take m
 | 0,a,h=>by simp
 | m+1,a,h=>by obtain ⟨x,hx⟩:=get_lt (l:=K) (i:=a) (by omega);rw [List.range'_succ,List.map_cons,range_get m (a+1) (by omega),drop_cons hx,List.take_succ_cons,getD_of hx]
theorem but_get {K:List Int} {i:Nat} (hi:i<K.length):((List.range K.length).filter (fun k=>decide (k≠i))).map (fun k=>K.getD k 0)=K.eraseIdx i:=by rw [range_but hi,List.map_append,range_get i 0 (by omega),range_get _ (i+1) (by omega),List.eraseIdx_eq_take_drop_succ,List.drop_zero];congr 1;exact List.take_of_length_le (by rw [List.length_drop];omega)
theorem onlyX_but {x:Lex} {K:List Int} {i:Nat} (hi:i<K.length):onlyX (onlyX x K) (allBut K.length i)=onlyX x (K.eraseIdx i):=by
 have:(allBut K.length i).map (entAt (onlyX x K))=(K.eraseIdx i).map (entAt x):=by rw [<- but_get hi];unfold allBut;rw [List.map_map,List.map_map];refine List.map_congr_left fun k hk=>?_;rw [List.mem_filter,List.mem_range] at hk;show entAt (onlyX x K) (k:Int)=entAt x (K.getD k 0);rw [only_ent (by omega) (by omega),Int.toNat_natCast]
 unfold onlyX at this ⊢;rw [this]
theorem allBut_up {n i:Nat}:(allBut n i).Pairwise (·<·)/\∀ k∈allBut n i,0<=k/\k<n:=by
 constructor
 ·unfold allBut;rw [List.pairwise_map];refine List.Pairwise.imp (fun h=>Int.ofNat_lt.2 h) (List.Pairwise.filter _ List.pairwise_lt_range)
 intro k hk;unfold allBut at hk;obtain ⟨j,hj,rfl⟩:=List.mem_map.1 hk;rw [List.mem_filter,List.mem_range] at hj;omega
theorem dicK_eq {H:Hou} {lines:List (List Int)} (h:indErr H lines=0):dicK H lines=keptL H lines:=ntr_ind h
theorem dic_all {H:Hou} {lines:List (List Int)} (h:indErr H lines=0) {l:List Int} (hl:l∈lines):listErr (onlyH H (dicK H lines)) l 1=0:=by have hc:=(indErr_zero h).1;refine (best_all (keep:=dicK H lines) ⟨dicK_ok.1,dicK_ok.2⟩ (corErr_zero hc).2.2).1 ?_ l hl;rw [dicK_eq h];unfold keptL;rw [allB_mem (cor_ok hc)];exact kept_all h
theorem dic_less {H:Hou} {lines:List (List Int)} (h:indErr H lines=0) {i:Nat} {x:Nd} (hx:(indR H lines)[i]?=some x) {n:Int} (hn:n∈x.lines):∃ (m:Nat) (l:List Int),n=m/\lines[m]?=some l/\listErr (onlyH H ((dicK H lines).eraseIdx i)) l 1=52:=by
 have hc:=(indErr_zero h).1;obtain ⟨he,hxl⟩:=getNd h hx;rw [hxl] at hn;unfold needsM at hn;obtain ⟨m,hm,rfl⟩:=List.mem_map.1 hn;rw [List.mem_filter,List.mem_range] at hm;obtain ⟨hml,hmn⟩:=hm;have hml2:m<lines.length:=by unfold corM at hml;rw [List.length_map] at hml;exact hml
 obtain ⟨l,hl⟩:=get_lt (l:=lines) (i:=m) hml2;have hg:(corM H lines)[m]?=some (lnksM H l):=by unfold corM;rw [List.getElem?_map,hl];rfl
 unfold needsF at hmn;rw [getD_of hg,Bool.and_eq_true,Bool.not_eq_true'] at hmn;refine ⟨m,l,rfl,hl,?_⟩;have h1:(dicK H lines).eraseIdx i=keepL H.lex.entries.length (but (keptW H lines) x.entry):=by rw [dicK_eq h,up_erase (l:=keptL H lines) keepL_up he];exact keep_but
 have hk:KeepOK H (keepL H.lex.entries.length (but (keptW H lines) x.entry)):=⟨keepL_up,fun k hk=>⟨(keepL_mem.1 hk).1,(keepL_mem.1 hk).2.1⟩⟩;rw [h1,best_read hk ((corErr_zero hc).2.2 l (List.mem_of_getElem? hl)),rdM_mem (cor_ok hc) (List.mem_of_getElem? hg),hmn.2];rfl
theorem dic_named {H:Hou} {lines:List (List Int)} (h:indErr H lines=0) {i:Nat} {x:Nd} (hx:(indR H lines)[i]?=some x):x.lines≠[]:=by obtain ⟨he,hxl⟩:=getNd h hx;rw [hxl];exact kept_need h (List.mem_of_getElem? he)
theorem dic_only {H:Hou} {lines:List (List Int)} (h:indErr H lines=0) {i:Nat} (hi:i<(dicK H lines).length):onlyErr (onlyH H (dicK H lines)) (allBut (dicK H lines).length i)=0/\onlyR (onlyH H (dicK H lines)) (allBut (dicK H lines).length i)=onlyH H ((dicK H lines).eraseIdx i):=by
 have hc:=(indErr_zero h).1;have hlen:(onlyH H (dicK H lines)).lex.entries.length=(dicK H lines).length:=List.length_map _;have h0:onlyErr (onlyH H (dicK H lines)) (allBut (dicK H lines).length i)=0:=by unfold onlyErr;rw [if_neg (by rw [hou_only ⟨dicK_ok.1,dicK_ok.2⟩ (corErr_zero hc).1];simp),hlen,if_pos (risM_iff.2 allBut_up)]
 refine ⟨h0,?_⟩;unfold onlyR;rw [if_pos h0];unfold onlyH;show ({ { H with lex:=onlyX H.lex (dicK H lines) } with lex:=onlyX (onlyX H.lex (dicK H lines)) (allBut (dicK H lines).length i) }:Hou)=_;rw [onlyX_but hi]
end Go.Abs.Wall.Lst
namespace Go.Abs.Wall.Lst
open Go Go.Abs Go.Proofs Go.Abs.Wall
def oneV (v:Val):Val:=⟨v.kind,v.text,1,1⟩
def resV (p:Int) (vs:List Val):List Val:=(vs.filter (inUse p)).map oneV
end Go.Abs.Wall.Lst
namespace Go.Abs.Wall.Lst
open Go Go.Abs Go.Proofs Go.Abs.Wall
def c14:Cfg:=⟨[0,1,2],[],[],[],[],[]⟩
def c4:Cfg:=⟨[0,1,2],[],[],[],[],[]⟩
def c16:Cfg:=⟨[0,1,2,3,4,5,13],[21],[2],[],[],[]⟩
def c17:Cfg:=⟨[0,1,2],[3,7,11],[2],[],[],[]⟩
def c6:Cfg:=⟨[0,1,2],[1],[2],[],[],[]⟩
theorem topSmall (l:Lst) (hl:LstFit l):QCall Tryz.prog 14 [.agg (encLst l)] [] (.bool (decide ((l.signs.length:Int)<=12)&&decide (lstErr l=0))):=by
 refine fcalls (F:=Tryz.f14) c14 rfl rfl rfl mixed rfl fun X=>?_;(conv=>whnf);repeat (refine gcall (refCheck l hl) ?_;conv=>whnf)
 refine ⟨congrArg AV.bool ?_,rfl⟩;rw [List.length_map]
def homeM (H:Hou):Bool:=((((decide ((H.list.signs.length:Int)<=12)&&decide (lstErr H.list=0))&&decide ((H.lex.entries.length:Int)<=12))&&decide ((H.lex.endings.length:Int)<=4))&&decide ((H.lex.clitics.length:Int)<=4))&&decide (lexErr H.lex=0)
theorem topHomely (H:Hou) (hf:HouFit H):QCall Tryz.prog 4 [.agg (encHou H)] [] (.bool (homeM H)):=by
 refine fcalls (F:=Tryz.f4) c4 rfl rfl rfl mixed rfl fun X=>?_;(conv=>whnf);repeat ((first|refine QCall.k0 (topSmall H.list hf.list) ?_|refine gcall (refLex H.lex hf.lex) ?_);conv=>whnf)
 refine ⟨congrArg AV.bool ?_,rfl⟩;unfold homeM;rw [List.length_map,List.length_map,List.length_map]
theorem topCopyL (l:Lst) (h0:lstErr l=0):QCall Tryz.prog 16 [.agg (encLst l)] [] (.agg (encLst l)):=by
 have hmany:=(lstOK h0).many;refine QCall.of ?_;refine fcalls (F:=Tryz.f16) c16 rfl rfl rfl mixed rfl fun X=>?_;(conv=>whnf);intro b2;(conv=>whnf);repeat ((first|refine ⟨_,_,.here _,leOK,?_⟩|intro (nb:Nat));conv=>whnf)
 refine tloop rfl mixed [1,2,3,4] [] (fun m r h=>∃ (i:Nat) (mb:Nat) (v:AV) (hp:Heap),r=[(1,[],.iptr (encLst l)),(2,[],.optr b2 0),(3,[],.optr mb 0),(4,[],.int .i64 i)]/\h=(mb,.vec [.int .i64 l.periods,v])::(b2,.vec [.int .i64 0,.nilS])::hp/\m=l.signs.length - i/\i<=l.signs.length/\Out 5 encSgn (l.signs.take i) v hp) ?_ ?_
 ·(conv=>whnf);exact ⟨_,_,Turn.refl _ _,_,0,nb,.nilS,[],rfl,rfl,rfl,by omega,.inl ⟨rfl,rfl,rfl⟩⟩
 rintro m r h' ⟨i,mb,v,hp,rfl,rfl,rfl,hi,ho⟩;(conv=>whnf);skip;refine ⟨fun hz=>?_,fun hz=>?_⟩<;>simp at hz
 ·obtain ⟨s,hs⟩:=get_lt hz;have hsf:=(lstOK h0).each s (List.mem_of_getElem? hs);have hfew:=hsf.few;have hsn:l.signs.take (i+1)=l.signs.take i++[s]:=take_snoc hs;have hse:∀ q2:Nat,VsLe [.str s.code,.int .i64 s.wide,.int .i64 s.high,.bool s.even,.sl 4 (some q2) (s.values.map encVal)] (encSgn s):=fun q2=>.cons (VLe.refl _) (.cons (VLe.refl _) (.cons (VLe.refl _) (.cons (VLe.refl _) (.cons VLe.sl .nil))));rcases ho with ⟨hLn,rfl,rfl⟩|⟨q,rfl,rfl⟩
  ·(conv=>whnf);repeat ((first|refine ⟨gP_of ⟨by omega,by omega⟩,?_⟩|refine ix (by assumption) ?_|(refine ⟨by rw [List.nil_append,List.length_map];unfold AMAX;omega,fun q2=>⟨_,.here _,?_⟩⟩)|(refine ⟨Nat.le_of_ble_eq_true rfl,fun q3=>?_⟩)|(refine ⟨_,_,.tail _ (.tail _ (.head _)),rfl,?_⟩)|(refine ⟨_,_,.tail _ (.head _),rfl,?_⟩)|(refine ⟨_,_,.there (.here _),leOK,?_⟩)|(refine ⟨_,_,.there (.there (.there (.here _))),leOK,?_⟩)|refine ⟨_,_,.here _,leOK,?_⟩|intro (nb:Nat));conv=>whnf)
   refine ⟨_,_,Turn.trans (Turn.cells (ys:=[.int .i64 l.periods,.sl 5 (some q3) [encSgn s]]) (.there (.there (.there (.here _)))) (.cons (VLe.refl _) (.cons (VLe.els (.cons (hse q2) .nil)) .nil))) (Turn.trans (Turn.sublist (.cons_cons _ (.cons _ (.cons _ (.cons_cons _ (.cons_cons _ .slnil)))))) (Turn.perm (List.perm_append_comm (l₁:=[_]) (l₂:=[_,_])))),_,(by omega),i+1,mb,_,[(q3,.tok)],rfl,rfl,rfl,by omega,.inr ⟨q3,by rw [hsn,hLn];rfl,rfl⟩⟩
  (conv=>whnf);repeat ((first|refine ⟨gP_of ⟨by omega,by omega⟩,?_⟩|refine ix (by assumption) ?_|(refine ⟨by rw [List.nil_append,List.length_map];unfold AMAX;omega,fun q2=>⟨_,.here _,?_⟩⟩)|(refine ⟨by rw [List.length_append,List.length_singleton,List.length_map,List.length_take];unfold AMAX;omega,fun q3=>⟨_,.there (.there (.there (.there (.here _)))),?_⟩⟩)|(refine ⟨_,_,.tail _ (.tail _ (.head _)),rfl,?_⟩)|(refine ⟨_,_,.tail _ (.head _),rfl,?_⟩)|(refine ⟨_,_,.there (.there (.here _)),leOK,?_⟩)|(refine ⟨_,_,.there (.here _),leOK,?_⟩)|refine ⟨_,_,.here _,leOK,?_⟩|intro (nb:Nat));conv=>whnf)
  refine ⟨_,_,Turn.trans (Turn.cells (ys:=[.int .i64 l.periods,.sl 5 (some q3) ((l.signs.take i).map encSgn++[encSgn s])]) (.there (.there (.here _))) (.cons (VLe.refl _) (.cons (VLe.els (VssLe.snoc (hse q2))) .nil))) (Turn.sublist (.cons _ (.cons _ (.cons_cons _ (.cons_cons _ (.cons_cons _ .slnil)))))),_,(by omega),i+1,mb,_,[(q3,.tok)],rfl,rfl,rfl,by omega,.inr ⟨q3,by rw [hsn,List.map_append];rfl,rfl⟩⟩
 rw [List.take_of_length_le (by omega)] at ho;(conv=>whnf);repeat ((first|(refine ⟨_,_,.head _,rfl,?_⟩)|(refine ⟨_,_,.there (.here _),⟨Nat.le_of_ble_eq_true rfl,rfl⟩,?_⟩));conv=>whnf)
 exact VLe.agg (.cons (VLe.refl _) (.cons (ho.le (by decide)) .nil))
theorem topCopyX (x:Lex) (h0:lexErr x=0):QCall Tryz.prog 17 [.agg (encLex x)] [] (.agg (encLex x)):=by
 refine QCall.of ?_;refine fcalls (F:=Tryz.f17) c17 rfl rfl rfl mixed rfl fun X=>?_;(conv=>whnf);have hl1:=(lexOK h0).many;intro b2;(conv=>whnf);refine make_region rfl mixed [1,2,5,6,9,10] [0,4,8] [3,7,11,12,13] [] (by show drawOK (opsAt Tryz.f17 _) _=true;decide +kernel) ?_;(conv=>whnf);skip;have hb1:(x.entries.map encEnt).length<=AMAX:=by rw [List.length_map];unfold AMAX;omega
 have hb2:(x.endings.map encEdn).length<=AMAX:=by rw [List.length_map];unfold AMAX;omega
 have hb3:(x.clitics.map encCli).length<=AMAX:=by rw [List.length_map];unfold AMAX;omega
 iterate 6
  all_goals
   first
    | (refine ⟨by first|exact hb1|exact hb2|exact hb3,fun q=>⟨_,.here _,?_⟩⟩;conv=>whnf)
    | (refine ⟨by first|exact hb1|exact hb2|exact hb3,fun q=>⟨_,.there (.here _),?_⟩⟩;conv=>whnf)
    | (refine ⟨by first|exact hb1|exact hb2|exact hb3,fun q=>⟨_,.there (.there (.here _)),?_⟩⟩;conv=>whnf)
    | (refine ⟨by first|exact hb1|exact hb2|exact hb3,fun q=>⟨_,.there (.there (.there (.here _))),?_⟩⟩;conv=>whnf)
    | ((first
        | refine ⟨by decide +kernel,?_,?_,?_,trivial⟩
        | refine ⟨by decide +kernel,?_,?_,trivial⟩
        | refine ⟨by decide +kernel,?_,trivial⟩)<;>((conv=>whnf);refine ⟨by first|decide +kernel|rfl,?_⟩;(conv=>whnf);first
        | (intro (q:Nat);conv=>whnf)
        | (refine ⟨by first|exact hb1|exact hb2|exact hb3,fun q=>⟨_,.here _,?_⟩⟩;conv=>whnf)
        | (refine ⟨by first|exact hb1|exact hb2|exact hb3,fun q=>⟨_,.there (.here _),?_⟩⟩;conv=>whnf)
        | (refine ⟨by first|exact hb1|exact hb2|exact hb3,fun q=>⟨_,.there (.there (.here _)),?_⟩⟩;conv=>whnf)
        | (refine ⟨by first|exact hb1|exact hb2|exact hb3,fun q=>⟨_,.there (.there (.there (.here _))),?_⟩⟩;conv=>whnf)))
 all_goals
  refine ⟨_,_,.there (.there (.there (.here _))),⟨Nat.le_of_ble_eq_true rfl,Nat.le_of_ble_eq_true rfl⟩,?_⟩;refine ⟨_,_,Turn.refl _ _,?_⟩;(conv=>whnf);repeat ((refine ⟨_,_,.tail _ (.tail _ (.tail _ (.head _))),rfl,?_⟩);conv=>whnf)
  exact VLe.agg (.cons VLe.sl (.cons VLe.sl (.cons VLe.sl .nil)))
theorem topCopied (H:Hou) (h1:lstErr H.list=0) (h2:lexErr H.lex=0):QCall Tryz.prog 6 [.agg (encHou H)] [] (.agg (encHou H)):=by
 refine QCall.of ?_;refine fcalls (F:=Tryz.f6) c6 rfl rfl rfl mixed rfl fun X=>?_;(conv=>whnf);intro b1;(conv=>whnf);repeat ((first|refine QCall.k0 (topCopyL H.list h1) ?_|refine QCall.k0 (topCopyX H.lex h2) ?_|refine ⟨_,_,Rem.here _,⟨Nat.le_of_ble_eq_true rfl,rfl⟩,?_⟩|refine ⟨_,_,.tail _ (.head _),rfl,?_⟩|refine ⟨_,_,.there (.here _),leOK,?_⟩|intro (nb:Nat));conv=>whnf)
 exact fun c u hr=>hr
end Go.Abs.Wall.Lst
namespace Go.Abs.Wall.Lst
open Go Go.Abs Go.Proofs Go.Abs.Wall
def exT:Hou:=⟨⟨1,[⟨[65,49],1,1,false,[⟨1,[110],1,1⟩]⟩]⟩,⟨[⟨[110],1,[],3⟩],[],[]⟩,⟨0,0,0,0,0⟩,1⟩
def exW:Wrd:=⟨⟨0,-1,[]⟩,[⟨1,[110]⟩]⟩
def exD:Edg:=⟨0,1,3,exW⟩
theorem exUses:usesAt exT 0=[⟨1,[110]⟩,⟨3,[110]⟩]:=by unfold usesAt;rw [usesM_i];decide +kernel
theorem exEdgs:edgsAt exT [0] 0=[exD]:=by unfold edgsAt allAt;have h1:(([0]:List Int).drop 0).take 12=[0]:=rfl;rw [h1,List.map_cons,List.map_nil,exUses];have h2:wordsAll exT [[⟨1,[110]⟩,⟨3,[110]⟩]] 0=[exD]:=(by decide +kernel);rw [h2];unfold sortE sortL;exact List.mergeSort_singleton _
theorem exGraph:graphM exT [0]=[[exD]]:=by show [edgsAt exT [0] 0]=_;rw [exEdgs]
theorem exGrow:growErr exT [0]=0:=by unfold growErr;have h1:lineErr exT [0]=0:=(by decide +kernel);rw [if_neg (by omega),exGraph];decide
theorem exRd:rdV [[exD]] 0=[(3,[exD])]:=by decide +kernel
theorem exBest:listErr exT [0] 1=0/\bestL exT [0]=⟨[exW],3⟩:=by
 have h1:listErr exT [0] 1=0:=by unfold listErr;rw [exGrow,exGraph,exRd];decide
 refine ⟨h1,?_⟩;unfold bestL listL;rw [if_pos h1];unfold rdsOf;rw [exGraph,exRd];rfl
def c5:Cfg:=⟨[0,1,2,3],[],[2],[],[],[]⟩
theorem exTFit:HouFit exT:=by have h1:∀ s∈exT.list.signs,s.code.length<=LMAX/\s.values.length<=LMAX/\∀ v∈s.values,v.text.length<=LMAX:=(by decide +kernel);have h2:∀ e∈exT.lex.entries,e.root.length<=LMAX/\e.cls.length<=LMAX:=(by decide +kernel);have h3:∀ e∈exT.lex.endings,e.text.length<=LMAX/\e.name.length<=LMAX:=(by decide +kernel);have h4:∀ e∈exT.lex.clitics,e.text.length<=LMAX/\e.name.length<=LMAX:=(by decide +kernel);exact ⟨⟨by decide +kernel,fun s hs=>⟨(h1 s hs).1,(h1 s hs).2.1,(h1 s hs).2.2⟩⟩,⟨by decide +kernel,by decide +kernel,by decide +kernel,fun e he=>⟨(h2 e he).1,(h2 e he).2⟩,fun e he=>⟨(h3 e he).1,(h3 e he).2⟩,fun e he=>⟨(h4 e he).1,(h4 e he).2⟩⟩⟩
theorem topReads:QCall Tryz.prog 5 [] [] (.bool true):=by
 have hb:=bestW exT [0] exTFit (by decide);rw [exBest.1,exBest.2] at hb
 have hb2:QCall Tryz.prog 10 [.agg [.int .i64 1,.sl 5 none [[.str [65,49],.int .i64 1,.int .i64 1,.bool false,.sl 4 none [[.int .i64 1,.str [110],.int .i64 1,.int .i64 1]]]],.sl 4 none [[.str [110],.int .i64 1,.str [],.int .i64 3]],.nilS,.nilS,.int .i64 0,.int .i64 0,.int .i64 0,.int .i64 0,.int .i64 0,.int .i64 1],.sl 1 none [[.int .i64 0]]] [] (.tup [.agg (encRdg ⟨[exW],3⟩),.int .i64 0]):=
  QCall.args hb (.cons (VLe.agg (.cons (VLe.refl _) (.cons (VLe.refl _) (.cons (VLe.refl _) (.cons (VLe.nil (by decide)) (.cons (VLe.nil (by decide)) (VsLe.refl _))))))) (.cons (VLe.refl _) .nil))
 refine QCall.of ?_;refine fcalls (F:=Tryz.f5) c5 rfl rfl rfl mixed rfl fun X=>?_;(conv=>whnf);intro b1;(conv=>whnf);repeat ((first|refine QCall.k0 (hb2) ?_|refine ⟨_,_,Rem.here _,⟨Nat.le_of_ble_eq_true rfl,rfl⟩,?_⟩|refine ⟨_,_,.head _,rfl,?_⟩|refine ⟨_,_,.here _,leOK,?_⟩|intro (nb:Nat));conv=>whnf)
 exact VLe.refl _
end Go.Abs.Wall.Lst
/-
 The abstract layer,part Pn: calls that may end in a panic of the program's own;functions and regions in which they stand.
-/
namespace Go.Abs
open Go
structure PCalls (P:Program) (f:FuncId) (args:List AV) (h:Heap) (R:AV->Heap->Prop) (S:Value->Heap->Prop):Prop where
 call:Callable P f
 calls:∀ (X:Nat->Prop) (g:Gh) (w:World) (us:Array Value),CW X g h w->RepVs ⟨g,live X h,w⟩ args us.toList ->
  Calls P f us w fun e w'=>(∃ v u g' h',e=.returned u/\R v h'/\CW X g' h' w'/\Rep ⟨g',live X h',w'⟩ v u/\Step X g h w g' h' w') \/
   (∃ v g' h',e=.panicked [{ v:=v,recovered:=false }]/\S v h'/\CW X g' h' w'/\Step X g h w g' h' w')
theorem PCalls.mono {P:Program} {f:FuncId} {args:List AV} {h:Heap} {R R':AV->Heap->Prop} {S S':Value->Heap->Prop} (hk:∀ v h',R v h'->R' v h') (hs:∀ v h',S v h'->S' v h') (hf:PCalls P f args h R S):PCalls P f args h R' S':=by
 refine ⟨hf.call,fun X g w us hc hr=>(hf.calls X g w us hc hr).mono fun e w' he=>?_⟩;rcases he with ⟨v,u,g',h',a1,a2,a3⟩|⟨v,g',h',a1,a2,a3⟩
 ·exact .inl ⟨v,u,g',h',a1,hk _ _ a2,a3⟩
 exact .inr ⟨v,g',h',a1,hs _ _ a2,a3⟩
theorem PCalls.args {P:Program} {f:FuncId} {args args':List AV} {h:Heap} {R:AV->Heap->Prop} {S:Value->Heap->Prop} (hf:PCalls P f args' h R S) (hl:VsLe args args'):PCalls P f args h R S:=
 ⟨hf.call,fun X g w us hc hr=>hf.calls X g w us hc (hl.rep hr)⟩
theorem PCalls.post {P:Program} {f:FuncId} {args:List AV} {h:Heap} {R R':AV->Heap->Prop} {S S':Value->Heap->Prop} (hf:PCalls P f args h R S)
  (hp:∀ v h1,R v h1->∃ v' h',R' v' h'/\VLe v v'/\(∀ k o,(k,o)∈h'->(k,o)∈h1)/\((keys h1).Nodup->(keys h').Nodup))
  (hs:∀ v h1,S v h1->∃ h',S' v h'/\(∀ k o,(k,o)∈h'->(k,o)∈h1)/\((keys h1).Nodup->(keys h').Nodup)):PCalls P f args h R' S':=by
 refine ⟨hf.call,fun X g w us hc hr=>(hf.calls X g w us hc hr).mono fun e w' he=>?_⟩;rcases he with ⟨v,u,g',h1,rfl,hR,hc1,hu,hst⟩|⟨v,g',h1,rfl,hS,hc1,hst⟩
 ·obtain ⟨v',h',k1,k2,k3,k4⟩:=hp v h1 hR;obtain ⟨d1,d2⟩:=hc1.sub k3 (k4 hc1.nodup);exact .inl ⟨v',u,g',h',rfl,k1,d1,Rep.mono (Step.le d2) _ _ (k2 _ _ hu),hst.trans hc.own d2⟩
 obtain ⟨h',k1,k3,k4⟩:=hs v h1 hS;obtain ⟨d1,d2⟩:=hc1.sub k3 (k4 hc1.nodup);exact .inr ⟨v,g',h',rfl,k1,d1,hst.trans hc.own d2⟩
theorem frame_in {X:Nat->Prop} {g:Gh} {h h2:Heap} {w:World} (hc:CW X g (h++h2) w):CW (fun k=>X k\/k∈keys h2) g h w:=by
 have hnd:=hc.nodup;rw [keys_append,List.nodup_append] at hnd;obtain ⟨nd1,nd2,nd3⟩:=hnd;have hlv:=live_shift (X:=X) h h2;refine ⟨hc.own,?_,nd1,?_,?_⟩
 ·obtain ⟨N,hN⟩:=hc.bound;refine ⟨N,fun k hk=>hN k ?_⟩;rw [keys_append,List.mem_append];rcases hk with (h|h)|h|h
  ·exact .inl h
  ·exact .inr (.inl (.inr h))
  ·exact .inr (.inl (.inl h))
  exact .inr (.inr h)
 ·rintro k hk (hx|hk2)
  ·exact hc.sep k (by rw [keys_append,List.mem_append];exact .inl hk) hx
  exact nd3 k hk k hk2 rfl
 intro k o hm;rw [hlv];exact hc.obj k o (List.mem_append.2 (.inl hm))
theorem frame_out {X:Nat->Prop} {g g':Gh} {h h1 h2:Heap} {w w':World} (hc:CW X g (h++h2) w) (hc1:CW (fun k=>X k\/k∈keys h2) g' h1 w') (hs:Step (fun k=>X k\/k∈keys h2) g h w g' h1 w') :
  CW X g' (h1++h2) w'/\Step X g (h++h2) w g' (h1++h2) w':=by
 have hnd:=hc.nodup;rw [keys_append,List.nodup_append] at hnd;obtain ⟨nd1,nd2,nd3⟩:=hnd;have hlv:=live_shift (X:=X) h h2;have hlv1:=live_shift (X:=X) h1 h2
 have hst:Step X g (h++h2) w g' (h1++h2) w':=by
  refine ⟨hs.os,hs.say,hs.output,hs.size,hs.pl,fun b k s e x=>hs.xow b k s e (.inl x),fun b k s e x=>hs.xow' b k s e (.inl x),fun k x e=>hs.xpl k (.inl x) e,?_,?_,?_⟩
  ·intro b hb hno;obtain ⟨e1,e2⟩:=hs.old b hb (fun k s e hk=>hno k s e (by rw [keys_append,List.mem_append];exact .inl hk));refine ⟨e1,fun k s e hk=>?_⟩;rw [keys_append,List.mem_append] at hk;rcases hk with hk|hk
   ·exact e2 k s e hk
   exact hno k s (hs.xow' b k s e (.inr hk)) (by rw [keys_append,List.mem_append];exact .inr hk)
  ·intro b k s e hk cc t f hcc;rw [keys_append,List.mem_append] at hk;rcases hk with hk|hk
   ·exact hs.mine b k s e hk cc t f hcc
   obtain ⟨e1,_⟩:=hs.old b (hc.own _ _ _ e) (fun k' s' e' hk'=>by rw [e] at e';cases e';exact nd3 k hk' k hk rfl);exact ⟨cc,e1.trans hcc,rfl,fun _ _=>rfl⟩
  intro b k s e hk k' s' e' hl;rw [keys_append,List.mem_append] at hk;rcases hk with hk|hk
  ·exact hs.minefree b k s e hk k' s' e' (by rw [hlv1];exact hl)
  have:=hs.xow b k s e (.inr hk);rw [this] at e';cases e';exact Nat.le_refl _
 have hc2:CW X g' (h1++h2) w':=by
  refine ⟨hc1.own,?_,?_,?_,?_⟩
  ·obtain ⟨N,hN⟩:=hc1.bound;refine ⟨N,fun k hk=>hN k ?_⟩;rw [keys_append,List.mem_append] at hk;rcases hk with h|(h|h)|h
   ·exact .inl (.inl h)
   ·exact .inr (.inl h)
   ·exact .inl (.inr h)
   exact .inr (.inr h)
  ·rw [keys_append,List.nodup_append];exact ⟨hc1.nodup,nd2,fun x hx y hy e=>hc1.sep x hx (.inr (e ▸ hy))⟩
  ·intro k hk hx;rw [keys_append,List.mem_append] at hk;rcases hk with hk|hk
   ·exact hc1.sep k hk (.inl hx)
   exact hc.sep k (by rw [keys_append,List.mem_append];exact .inr hk) hx
  intro k o hm;rcases List.mem_append.1 hm with hm|hm
  ·have:=hc1.obj k o hm;rw [hlv1] at this;exact this
  have hk:=keys_of_mem hm;refine ObjRep.keep (c:=⟨g,live X (h++h2),w⟩) (Step.le hst) (hc.obj k o (List.mem_append.2 (.inr hm))) ?_ (fun e=>hs.xpl k (.inr hk) e);intro p hp ⟨s,ho⟩;obtain ⟨e1,_⟩:=hs.old p.block (hc.own _ _ _ ho) (fun k' s' e' hk'=>by simp only at ho;rw [ho] at e';cases e';exact nd3 k hk' k hk rfl);exact ⟨e1,(hs.xow _ _ _ ho (.inr hk)).trans ho.symm⟩
 exact ⟨hc2,hst⟩
theorem PCalls.frame {P:Program} {f:FuncId} {args:List AV} {h:Heap} {R:AV->Heap->Prop} {S:Value->Heap->Prop} (hf:PCalls P f args h R S) (h2:Heap) :
  PCalls P f args (h++h2) (fun v h'=>∃ h1,R v h1/\h'=h1++h2) (fun v h'=>∃ h1,S v h1/\h'=h1++h2):=by
 refine ⟨hf.call,fun X g w us hc hr=>?_⟩;have hlv:=live_shift (X:=X) h h2;refine (hf.calls _ g w us (frame_in hc) (by rw [hlv];exact hr)).mono fun e w' he=>?_;rcases he with ⟨v,u,g',h1,rfl,hR,hc1,hu,hs⟩|⟨v,g',h1,rfl,hS,hc1,hs⟩
 ·obtain ⟨hc2,hst⟩:=frame_out hc hc1 hs;have hlv1:=live_shift (X:=X) h1 h2;exact .inl ⟨v,u,g',h1++h2,rfl,⟨h1,hR,rfl⟩,hc2,by rw [<- hlv1];exact hu,hst⟩
 obtain ⟨hc2,hst⟩:=frame_out hc hc1 hs;exact .inr ⟨v,g',h1++h2,rfl,⟨h1,hS,rfl⟩,hc2,hst⟩
def endPP (P:Program) (fn:Func) (R:AV->Heap->Prop) (S:Value->Heap->Prop):Ex->Regs->Heap->Prop
 | .normal,r,h=>resP P fn r h R
 | .ret,r,h=>resP P fn r h R
 | .exit _,_,_=>False
 | .pan v,_,h=>S v h
theorem fpcalls {P:Program} {f:FuncId} {F:Func} (c:Cfg) {args:List AV} {R:AV->Heap->Prop} {S:Value->Heap->Prop} {h:Heap} (hf:P.funcs[f]?=some F) (hb:F.body.isSome=true) (hname:(F.name == "runtime.NumGoroutine")=false)
  (hm:P.follows .mixedOrders=true) (hn:Nat.ble args.length F.ntmps=true) (hst:∀ X,run P c F ⟨F.ntmps,X,endPP P F R S⟩ 4000 (.go []) [] (argRegs 0 args) h):PCalls P f args h R S:=by
 obtain ⟨code,hb'⟩:=Option.isSome_iff_exists.1 hb;have hcode:bodyOf F=code:=by unfold bodyOf;rw [hb']
 refine ⟨⟨F,code,hf,hb',hname⟩,fun X g w us hc hr=>?_⟩;have hlen:=hr.length;simp at hlen;have hn:=Nat.le_of_ble_eq_true hn;have hH:Holds P F.ntmps X code (endPP P F R S) (argRegs 0 args) h:=by have:=run_ok (c:=c) (F:=F) (E:=⟨F.ntmps,X,endPP P F R S⟩) hm 4000 [] [] (hst X);simp only [cat,hcode] at this;refine holds_mono (fun e r h hq=>?_) this;have hq:run P c F ⟨F.ntmps,X,endPP P F R S⟩ 4000 (.ex e) [] r h:=hq;unfold run at hq;exact hq
 refine calls_of_wp hf hb' (wp_mono (hH.holds g _ w ⟨hc,?_,rfl,by simp;omega⟩) ?_)
 ·intro t gg v hl;obtain ⟨rfl,_,hx⟩:=argRegs_look hl;obtain ⟨u,hu,hrep⟩:=hr.get t v (by simpa using hx);refine ⟨fun _=>⟨by simp,u,?_,hrep⟩,fun hh=>absurd (fun e he=>by cases he) hh⟩;have hu':us[t]?=some u:=(by simpa using hu);have:=(Array.getElem?_eq_some_iff.1 hu').1;rw [Array.getElem?_append_left this];exact hu'
 rintro e a' w' ⟨ex,g',r',h',rfl,hQ,hc',hst⟩;cases ex with
 | normal=>
   obtain ⟨v,u,h1,h2,h3⟩:=resP_ok (P:=P) hc' hQ;exact ⟨hc'.defers,u,h2,.inl ⟨v,u,g',h',rfl,h1,hc'.cw,h3,hst⟩⟩
 | ret=>
   obtain ⟨v,u,h1,h2,h3⟩:=resP_ok (P:=P) hc' hQ;exact ⟨hc'.defers,u,h2,.inl ⟨v,u,g',h',rfl,h1,hc'.cw,h3,hst⟩⟩
 | pan v=>exact ⟨hc'.defers,.inr ⟨v,g',h',rfl,hQ,hc'.cw,hst⟩⟩
 | exit i=>exact hQ.elim
theorem wp_pcall {P:Program} {X:Nat->Prop} {g0:Gh} {h:Heap} {w:World} {a:Act} {f:FuncId} {vs:List AV} {R:AV->Heap->Prop} {S:Value->Heap->Prop} {o:Oper} {us:Array Value} {next:Act->World->Prop} {Q:Exit->Act->World->Prop}
  (hq:PCalls P f vs h R S) (hc:CW X g0 h w) (hv:RepVs ⟨g0,live X h,w⟩ vs us.toList)
  (hrun:(execOp a.eval o).run P w=(callFunc f us).run P w)
  (hn:∀ v h' g' u w',R v h'->CW X g' h' w'->Rep ⟨g',live X h',w'⟩ v u->Step X g0 h w g' h' w'->next (a.put o.dst u) w')
  (hp:∀ v h' g' w',S v h'->CW X g' h' w'->Step X g0 h w g' h' w'->Q (.panic [{ v:=v,recovered:=false }]) a w'):o.wp P a w next Q:=by
 rw [run_call hq.call] at hrun;simp only [Oper.wp,hrun,Oper.upon];refine (hq.calls X g0 w us hc hv).mono fun e w' he=>?_;rcases he with ⟨v,u,g',h',rfl,h1,h2,h3,h4⟩|⟨v,g',h',rfl,h1,h2,h3⟩
 ·exact hn v h' g' u w' h1 h2 h3 h4
 exact hp v h' g' w' h1 h2 h3
theorem region_pcall {P:Program} {c1 c2 c:Cfg} {F:Func} {E:En} {p:List Bool} {S:List Fr} {k id:Nat} {ops:Array Oper} {r:Regs} {h:Heap} (hcat:cat F p=.region id ops false)
  (i:Nat) {o:Oper} {cl:Call} {f:FuncId} (hoi:ops.toList[i]?=some o) (hop:o.op=.call cl) (hcl:cl.callee=.value (.func f)) (hgd:o.guard=none)
  (h1:regP P c1 E.n ops.toList (fun r1 h1=>∃ vs,opnds r1 [] cl.args.toList=some vs /\
    PCalls P f vs h1 (fun v h2=>setP E.n o.dst [] v r1 fun r2=>regP P c2 E.n ops.toList (run P c F E k (.ex .normal) S) (ops.toList.drop (i+1)) r2 h2) (fun v h2=>run P c F E k (.ex (.pan v)) S [] h2)) (ops.toList.take i) r h) :
  Holds P E.n E.X (cat F p) (fun e r h=>run P c F E k (.ex e) S r h) r h:=by
 rw [hcat];refine ⟨fun g a w hc=>?_⟩;refine wp_region ?_;have hlt:i<ops.toList.length:=(List.getElem?_eq_some_iff.1 hoi).1;have hlen:ops.toList.length=ops.size:=(by simp);have hsplit:List.range ops.size=List.range' 0 (ops.toList.take i).length++(i::List.range' (i+1) (ops.toList.drop (i+1)).length):=by rw [List.length_take,List.length_drop,Nat.min_eq_left (by omega),List.range_eq_range',hlen,<- List.range'_succ];have:=List.range'_append_1 (s:=0) (m:=i) (n:=ops.size - (i+1)+1);rw [Nat.zero_add] at this;rw [this];congr 1;omega
 rw [hsplit];have hops:ops.toList.toArray=ops:=(by simp);have hg0:holdsC a []:=fun e he=>by cases he
 have:=regP_pre (Q:=fun e a' w'=>∃ ex g' r' h',e=Ex.toExit ex/\run P c F E k (.ex ex) S r' h'/\Conc E.n E.X g' r' h' a' w'/\Step E.X g h w g' h' w') (i::List.range' (i+1) (ops.toList.drop (i+1)).length) (ops.toList.take i) 0 r h g a w
  (fun j x hx=>by rw [List.getElem?_take] at hx;split at hx;· rw [Nat.zero_add];exact hx
                  cases hx) h1 hc ?_
 ·rw [hops] at this;exact this
 rintro r1 h1' g1 a1 w1 ⟨vs,hvs,hP⟩ hc1 hst1;have hio:ops.toList.toArray[i]?=some o:=by rw [hops];simpa using hoi
 simp only [wpOps,hio];rw [if_pos (wanted_none hgd)];left;have hg1:holdsC a1 []:=fun e he=>by cases he
 have hr1:=hc1.opnds hg1 hvs;obtain ⟨dst,op,ty,pos,aft,gd⟩:=o;simp only at hop hgd hP;subst hop
 have hrun:(execOp a1.eval ⟨dst,.call cl,ty,pos,aft,gd⟩).run P w1=(callFunc f (cl.args.map a1.eval++#[])).run P w1:=
  run_callF rfl ⟨_,hcl,rfl⟩
 refine wp_pcall (us:=cl.args.map a1.eval) hP hc1.cw (by simpa using hr1) (by simpa using hrun) ?_ ?_
 ·intro v h2 g2 u w2 hK hcw hrep hst2;obtain ⟨r2,hK,hc2⟩:=setP_ok (u:=u) hc1 hcw hst2 hK (fun _=>⟨by simp,hrep⟩) (fun hh=>absurd hg1 hh)
  have hfin:=regP_pre (Q:=fun e a' w'=>∃ ex g' r' h',e=Ex.toExit ex/\run P c F E k (.ex ex) S r' h'/\Conc E.n E.X g' r' h' a' w'/\Step E.X g h w g' h' w') [] (ops.toList.drop (i+1)) (i+1) r2 h2 g2 _ w2
   (fun j x hx=>by rw [List.getElem?_drop] at hx;exact hx) hK hc2 (fun r' h' g' a' w' hR hc' hst=>⟨.normal,g',r',h',rfl,hR,hc',hst1.trans hc.cw.own (hst2.trans hc1.cw.own hst)⟩)
  rw [List.append_nil] at hfin;exact hfin
 intro v h2 g2 w2 hS hcw hst2;have hc3:Conc E.n E.X g2 [] h2 a1 w2:=(hc1.step hcw hst2).less fun t gg x hl=>(by cases hl);exact ⟨.pan v,g2,[],h2,rfl,hS,hc3,hst1.trans hc.cw.own hst2⟩
end Go.Abs
/-
 The abstract layer,part Pm: a region that ends in a panic with a struct of one number.
-/
namespace Go.Abs
open Go
theorem region_panic {P:Program} {c1 c:Cfg} {F:Func} {E:En} {p:List Bool} {S:List Fr} {k id:Nat} {ops:Array Oper} {r:Regs} {h:Heap} (hcat:cat F p=.region id ops false)
  (i:Nat) {o o2:Oper} {T:TypeId} {x:Operand} {d:Nat} {fs:Array Field} (hoi:ops.toList[i]?=some o) (ho2:ops.toList[i+1]?=some o2) (hlen:ops.toList.length=i+2) (hop:o.op=.makeInterface T x) (hop2:o2.op=.panic (.tmp d)) (hd:o.dst=some d) (hdn:d<E.n) (hgd:o.guard=none) (hgd2:o2.guard=none)
  (hT:P.underlying T=some (.struct fs))
  (h1:regP P c1 E.n ops.toList (fun r1 h1=>∃ n,opnd r1 [] x=some (.agg [.int .i64 n])/\run P c F E k (.ex (.pan (.iface T (.agg #[.int .i64 n])))) S [] h1) (ops.toList.take i) r h) :
  Holds P E.n E.X (cat F p) (fun e r h=>run P c F E k (.ex e) S r h) r h:=by
 rw [hcat];refine ⟨fun g a w hc=>?_⟩;refine wp_region ?_;have hops:ops.toList.toArray=ops:=(by simp);have hsz:ops.size=i+2:=(by simpa using hlen);have hsplit:List.range ops.size=List.range' 0 (ops.toList.take i).length++[i,i+1]:=by rw [List.length_take,hlen,Nat.min_eq_left (by omega),hsz,List.range_eq_range'];have:=List.range'_append_1 (s:=0) (m:=i) (n:=2);rw [Nat.zero_add] at this;rw [<- this];rfl
 rw [hsplit]
 have:=regP_pre (Q:=fun e a' w'=>∃ ex g' r' h',e=Ex.toExit ex/\run P c F E k (.ex ex) S r' h'/\Conc E.n E.X g' r' h' a' w'/\Step E.X g h w g' h' w') [i,i+1] (ops.toList.take i) 0 r h g a w
  (fun j x hx=>by rw [List.getElem?_take] at hx;split at hx;· rw [Nat.zero_add];exact hx
                  cases hx) h1 hc ?_
 ·rw [hops] at this;exact this
 rintro r1 h1' g1 a1 w1 ⟨n,hx,hK⟩ hc1 hst1;have hio:ops.toList.toArray[i]?=some o:=by rw [hops];simpa using hoi
 have hio2:ops.toList.toArray[i+1]?=some o2:=by rw [hops];simpa using ho2
 simp only [wpOps,hio,hio2];rw [if_pos (wanted_none hgd)];left;have hg1:holdsC a1 []:=fun e he=>by cases he
 have hr:=hc1.opnd hg1 hx;simp only [Rep,RepVs] at hr;obtain ⟨us,hv,_,u,rr,hus,⟨rfl,_⟩,rfl⟩:=hr;have hus':us=#[.int .i64 n]:=(by rw [<- Array.toList_inj,hus]);subst hus';obtain ⟨dst,op,ty,pos,aft,gd⟩:=o;simp only at hop hgd hd;subst hop hd;refine wp_value (u:=.iface T (.agg #[.int .i64 n])) (w':=w1) ?_ ?_
 ·simp [execOp,Instr.makeInterface,hv,run_und hT]
 rw [if_pos (wanted_none hgd2)];left;obtain ⟨dst2,op2,ty2,pos2,aft2,gd2⟩:=o2;simp only at hop2;subst hop2;have hev:(a1.put (some d) (Value.iface T (.agg #[.int .i64 n]))).eval (.tmp d)=.iface T (.agg #[.int .i64 n]):=by have:=hc1.size;simp [Act.put,Act.eval,this,hdn]
 have hrun:(execOp (a1.put (some d) (Value.iface T (.agg #[.int .i64 n]))).eval ⟨dst2,.panic (.tmp d),ty2,pos2,aft2,gd2⟩).run P w1=.halt (.panic (.iface T (.agg #[.int .i64 n]))) w1:=by simp only [execOp,hev];rfl
 simp only [Oper.wp,hrun,Oper.upon];have hc2:Conc E.n E.X g1 [] h1' (a1.put (some d) (Value.iface T (.agg #[.int .i64 n]))) w1:=⟨hc1.cw,fun t gg v hl=>(by cases hl),hc1.defers,by simpa [Act.put] using hc1.size⟩;exact ⟨.pan _,g1,[],h1',rfl,hK,hc2,hst1⟩
def HandOp (P:Program) (n:Nat) (X:Nat->Prop) (o:Oper) (r:Regs) (h:Heap) (K:AV->Heap->Prop):Prop:=
 ∀ g a w,Conc n X g r h a w->∀ (next:Act->World->Prop) (Q:Exit->Act->World->Prop),
  (∀ v h2 g2 u w2,K v h2->CW X g2 h2 w2->Rep ⟨g2,live X h2,w2⟩ v u->Step X g h w g2 h2 w2->next (a.put o.dst u) w2)->o.wp P a w next Q
theorem region_hand {P:Program} {c1 c2 c:Cfg} {F:Func} {E:En} {p:List Bool} {S:List Fr} {k id:Nat} {ops:Array Oper} {r:Regs} {h:Heap} (hcat:cat F p=.region id ops false)
  (i:Nat) {o:Oper} (hoi:ops.toList[i]?=some o) (hgd:o.guard=none) (h1:regP P c1 E.n ops.toList (fun r1 h1=>∃ K:AV->Heap->Prop,HandOp P E.n E.X o r1 h1 K /\
    ∀ v h2,K v h2->setP E.n o.dst [] v r1 fun r2=>regP P c2 E.n ops.toList (run P c F E k (.ex .normal) S) (ops.toList.drop (i+1)) r2 h2) (ops.toList.take i) r h) :
  Holds P E.n E.X (cat F p) (fun e r h=>run P c F E k (.ex e) S r h) r h:=by
 rw [hcat];refine ⟨fun g a w hc=>?_⟩;refine wp_region ?_;have hlt:i<ops.toList.length:=(List.getElem?_eq_some_iff.1 hoi).1;have hlen:ops.toList.length=ops.size:=(by simp);have hsplit:List.range ops.size=List.range' 0 (ops.toList.take i).length++(i::List.range' (i+1) (ops.toList.drop (i+1)).length):=by rw [List.length_take,List.length_drop,Nat.min_eq_left (by omega),List.range_eq_range',hlen,<- List.range'_succ];have:=List.range'_append_1 (s:=0) (m:=i) (n:=ops.size - (i+1)+1);rw [Nat.zero_add] at this;rw [this];congr 1;omega
 rw [hsplit];have hops:ops.toList.toArray=ops:=by simp
 have:=regP_pre (Q:=fun e a' w'=>∃ ex g' r' h',e=Ex.toExit ex/\run P c F E k (.ex ex) S r' h'/\Conc E.n E.X g' r' h' a' w'/\Step E.X g h w g' h' w') (i::List.range' (i+1) (ops.toList.drop (i+1)).length) (ops.toList.take i) 0 r h g a w
  (fun j x hx=>by rw [List.getElem?_take] at hx;split at hx;· rw [Nat.zero_add];exact hx
                  cases hx) h1 hc ?_
 ·rw [hops] at this;exact this
 rintro r1 h1' g1 a1 w1 ⟨K,hH,hK⟩ hc1 hst1;have hio:ops.toList.toArray[i]?=some o:=by rw [hops];simpa using hoi
 simp only [wpOps,hio];rw [if_pos (wanted_none hgd)];left;have hg1:holdsC a1 []:=fun e he=>by cases he
 refine hH g1 a1 w1 hc1 _ _ ?_;intro v h2 g2 u w2 hv hcw hrep hst2;obtain ⟨r2,hK,hc2⟩:=setP_ok (u:=u) hc1 hcw hst2 (hK v h2 hv) (fun _=>⟨by simp,hrep⟩) (fun hh=>absurd hg1 hh)
 have hfin:=regP_pre (Q:=fun e a' w'=>∃ ex g' r' h',e=Ex.toExit ex/\run P c F E k (.ex ex) S r' h'/\Conc E.n E.X g' r' h' a' w'/\Step E.X g h w g' h' w') [] (ops.toList.drop (i+1)) (i+1) r2 h2 g2 _ w2
  (fun j x hx=>by rw [List.getElem?_drop] at hx;exact hx) hK hc2 (fun r' h' g' a' w' hR hc' hst=>⟨.normal,g',r',h',rfl,hR,hc',hst1.trans hc.cw.own (hst2.trans hc1.cw.own hst)⟩)
 rw [List.append_nil] at hfin;exact hfin
theorem hand_assert {P:Program} {n:Nat} {X:Nat->Prop} {o:Oper} {r:Regs} {h:Heap} {x:Operand} {t T:TypeId} {v:Value} {fs:Array Field} (hop:o.op=.typeAssert x t T true) (hx:opnd r [] x=some (.val (.iface T v))) (hT:P.underlying T=some (.struct fs)) :
  HandOp P n X o r h fun y h'=>y=.tup [.unit,.bool true]/\h'=h:=by
 intro g a w hc next Q hn;have hg0:holdsC a []:=fun e he=>by cases he
 have hr:=hc.opnd hg0 hx;simp only [Rep] at hr;obtain ⟨hv,_⟩:=hr;obtain ⟨dst,op,ty,pos,aft,gd⟩:=o;simp only at hop;subst hop;refine wp_value (u:=.tuple #[v,.bool true]) (w':=w) ?_ (hn _ _ g _ _ ⟨rfl,rfl⟩ hc.cw ?_ (Step.refl _ _ _ _))
 ·simp [execOp,Instr.typeAssert,hv,run_und hT]
 simp only [Rep];exact ⟨_,rfl,by simp [RepVs,Rep]⟩
theorem PCalls.pre {P:Program} {f:FuncId} {args:List AV} {h h':Heap} {R:AV->Heap->Prop} {S:Value->Heap->Prop} (hf:PCalls P f args h R S) (hsub:∀ k o,(k,o)∈h->(k,o)∈h')
  (hnd:(keys h').Nodup->(keys h).Nodup):PCalls P f args h' R S:=by
 refine ⟨hf.call,fun X g w us hc hr=>?_⟩;obtain ⟨d1,d2⟩:=hc.sub hsub (hnd hc.nodup);refine (hf.calls X g w us d1 (RepVs.mono (Step.le d2) _ _ hr)).mono fun e w' he=>?_;rcases he with ⟨v,u,g',h1,a1,a2,a3,a4,a5⟩|⟨v,g',h1,a1,a2,a3,a4⟩
 ·exact .inl ⟨v,u,g',h1,a1,a2,a3,a4,d2.trans hc.own a5⟩
 exact .inr ⟨v,g',h1,a1,a2,a3,d2.trans hc.own a4⟩
theorem nodup_swap {a b:Heap}:(keys (a++b)).Nodup->(keys (b++a)).Nodup:=by rw [keys_append,keys_append];exact (List.perm_append_comm).nodup_iff.1
theorem ACalls.under {P:Program} {f:FuncId} {args:List AV} {h:Heap} {R:AV->Heap->Prop} (hf:ACalls P f args h R) (h2:Heap):ACalls P f args (h2++h) fun v h'=>∃ h1,R v h1/\h'=h2++h1:=by
 refine ACalls.post (ACalls.pre (ACalls.frame hf h2) (h':=h2++h) (fun k o hm=>?_) nodup_swap) ?_
 ·rw [List.mem_append] at hm ⊢;exact hm.symm
 rintro v h' ⟨h1,hR,rfl⟩;exact ⟨v,h2++h1,⟨h1,hR,rfl⟩,VLe.refl _,fun k o hm=>by rw [List.mem_append] at hm ⊢;exact hm.symm,nodup_swap⟩
theorem PCalls.under {P:Program} {f:FuncId} {args:List AV} {h:Heap} {R:AV->Heap->Prop} {S:Value->Heap->Prop} (hf:PCalls P f args h R S) (h2:Heap) :
  PCalls P f args (h2++h) (fun v h'=>∃ h1,R v h1/\h'=h2++h1) S:=by
 refine PCalls.post (PCalls.pre (PCalls.frame hf h2) (h':=h2++h) (fun k o hm=>?_) nodup_swap) ?_ ?_
 ·rw [List.mem_append] at hm ⊢;exact hm.symm
 ·rintro v h' ⟨h1,hR,rfl⟩;exact ⟨v,h2++h1,⟨h1,hR,rfl⟩,VLe.refl _,fun k o hm=>by rw [List.mem_append] at hm ⊢;exact hm.symm,nodup_swap⟩
 rintro v h' ⟨h1,hS,rfl⟩;exact ⟨h1,hS,fun k o hm=>List.mem_append_left _ hm,fun hn=>by rw [keys_append,List.nodup_append] at hn;exact hn.1⟩
theorem hand_iface {P:Program} {n:Nat} {X:Nat->Prop} {o:Oper} {r:Regs} {h:Heap} {x:Operand} {T:TypeId} {fs:Array Field} (hop:o.op=.makeInterface T x) (hx:opnd r [] x=some (.agg [])) (hT:P.underlying T=some (.struct fs)) :
  HandOp P n X o r h fun y h'=>y=.val (.iface T (.agg #[]))/\h'=h:=by
 intro g a w hc next Q hn;have hg0:holdsC a []:=fun e he=>by cases he
 have hr:=hc.opnd hg0 hx;simp only [Rep,RepVs] at hr;obtain ⟨us,hv,_,hus⟩:=hr;have hus':us=#[]:=(by rw [<- Array.toList_inj,hus]);subst hus';obtain ⟨dst,op,ty,pos,aft,gd⟩:=o;simp only at hop;subst hop;refine wp_value (u:=.iface T (.agg #[])) (w':=w) ?_ (hn _ _ g _ _ ⟨rfl,rfl⟩ hc.cw ?_ (Step.refl _ _ _ _))
 ·simp [execOp,Instr.makeInterface,hv,run_und hT]
 simp only [Rep];exact ⟨trivial,rfl⟩
end Go.Abs
