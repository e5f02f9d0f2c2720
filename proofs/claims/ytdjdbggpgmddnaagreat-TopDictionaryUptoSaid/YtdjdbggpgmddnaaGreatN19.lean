/- Small laws for the walks and contracts of functions; each theorem names its conditions. -/
import Derived.Test.YtdjdbggpgmddnaaGreatN18
import Derived.Test.YtdjdbggpgmddnaaGreatN16
import Derived.Test.YtdjdbggpgmddnaaGreatN15
import Derived.Test.YtdjdbggpgmddnaaGreatN12
import Derived.Shelf.Sort.Plain
import Derived.Test.YtdjdbggpgmddnaaGreatProg
set_option maxRecDepth 100000
set_option maxHeartbeats 2000000
set_option linter.unusedVariables false
set_option linter.unusedSimpArgs false
namespace Go.Abs.Wall
open Go Go.Abs Go.Proofs
def cptT {α:Type} [DecidableEq α]:α->List α->List α
 | _,[]=>[]
 | x,y::t=>if y=x then cptT y t else y::cptT y t
theorem cpt_cons {α:Type} [DecidableEq α]:∀ (t:List α) (x:α),cpt (x::t)=x::cptT x t
 | [],x=>rfl
 | y::r,x=>by
   unfold cpt cptT;rw [cpt_cons r y];by_cases h:x=y
   ·rw [if_pos h,if_pos h.symm,h]
   rw [if_neg h,if_neg (fun e=>h e.symm)]
theorem cptT_len {α:Type} [DecidableEq α]:∀ (t:List α) (x:α),(cptT x t).length<=t.length
 | [],x=>Nat.le_refl _
 | y::r,x=>by unfold cptT;have:=cptT_len r y;split<;>simp<;>omega
theorem encLnk_len (x:Lnk):(encLnk x).length=2:=rfl
theorem plainLnk:plainT Tryz.prog 167=true:=by decide +kernel
def lnksM (H:Hou) (line:List Int):List (List Lnk):=(graphM H line).map fun es=>es.map lnkOf
def growsE (H:Hou):List (List Int)->Int
 | []=>0
 | l::t=>if growErr H l≠0 then growErr H l else growsE H t
def corErr (H:Hou) (lines:List (List Int)):Int:=if houErr H≠0 then houErr H else if 40<lines.length then 2 else growsE H lines
def corM (H:Hou) (lines:List (List Int)):Cor:=lines.map (lnksM H)
def corP (H:Hou) (lines:List (List Int)):Cor:=(corM H lines).map fun g=>g.map cpt
def c67:Cfg:=⟨[0,2,3,4,5,8,13,25,32,44],[],[],[],[(6,[0,1,2,3,4,5,6,7,8,9],[]),(11,[0,1,2,3,4,5,6,7,8,9],[])],[]⟩
def c30:Cfg:=⟨[0,1,2,4,5,6,8,10,11,12,13,14,15,17,21,25,26,27,28,29,39,42,43,44,54,56,57,58,59],[],[17],[],[],[]⟩
theorem lnk_eq (x y:Lnk):(decide (x.entry=y.entry)&&(decide (x.to=y.to)&&true))=decide (x=y):=by rw [Bool.eq_iff_iff];obtain ⟨a,b⟩:=x;obtain ⟨c,d⟩:=y;simp
theorem cpt_len (L:List Lnk):(cpt L).length<=L.length:=by
 cases L with
 | nil=>simp [cpt]
 | cons x t=>
   have:=cptT_len t x;rw [cpt_cons];simp;omega
theorem compactB (b:Nat) (L:List Lnk) (hne:L≠[]) (hl:L.length<=1048576) :
  ACalls Tryz.prog 67 [.osl b 0 L.length 2] [(b,.vec (L.map encLnk).flatten)] (fun v h'=>∃ post:List AV,v=.osl b 0 (cpt L).length 2/\h'=[(b,.vec (((cpt L).map encLnk).flatten++post))]):=by
 have hn:0<L.length:=List.length_pos_iff.2 hne;refine fcalls (F:=Tryz.f67) c67 rfl rfl rfl mixed rfl fun X=>?_;(conv=>whnf);refine ⟨fun hs=>?_,fun hs=>?_⟩<;>simp only [decide_eq_true_eq,decide_eq_false_iff_not] at hs
 ·have h1:cpt L=L:=by
   cases L with
   | nil=>exact absurd rfl hne
   | cons x t=>
     cases t with
     | nil=>rfl
     | cons y r=>simp at hs;omega
  (conv=>whnf);skip;exact ⟨[],by rw [h1],by rw [h1,List.append_nil]⟩
 obtain ⟨x0,hx0⟩:=get_lt (l:=L) (i:=0) hn;have hc0:cpt L=L.take 1++cptT x0 (L.drop 1):=by have h2:=drop_cons hx0;rw [List.drop_zero] at h2;rw [h2,cpt_cons];rfl
 (conv=>whnf);skip;refine sloop rfl mixed [0,3] [] (fun m r h=>∃ (k:Nat) (p:Lnk),r=[(0,[],.osl b 0 L.length 2),(3,[],.int .i64 k)]/\h=[(b,.vec (L.map encLnk).flatten)]/\m=L.length - k/\1<=k/\k<=L.length/\L[k - 1]?=some p/\cpt L=L.take k++cptT p (L.drop k)) ?_ ?_
 ·(conv=>whnf);exact ⟨_,1,x0,rfl,rfl,rfl,by omega,by omega,hx0,hc0⟩
 clear hc0;rintro m r h ⟨k,p,rfl,rfl,rfl,hk1,hk2,hp,hc⟩;(conv=>whnf);skip;refine ⟨fun hi2=>?_,fun hi2=>?_⟩<;>simp only [decide_eq_true_eq,decide_eq_false_iff_not] at hi2
 ·obtain ⟨y,hy⟩:=get_lt (l:=L) (i:=k) (by omega);rw [drop_cons hy,cptT] at hc;(conv=>whnf);repeat ((first|refine ⟨gP_of ⟨by omega,by omega⟩,?_⟩|(refine ⟨k,gP_of ⟨by omega,by omega⟩,?_⟩)|(refine ⟨k - 1,gP_of ⟨by omega,by omega⟩,?_⟩)|(refine ldE encLnk_len (.head _) (Nat.zero_add _) hy ?_)|(refine ldE encLnk_len (.head _) (Nat.zero_add _) hp ?_)|(refine ⟨plainLnk,?_⟩)|refine And.intro (by show drawOK (opsAt Tryz.f67 _) _=true;decide +kernel) ?_);conv=>whnf)
  refine ⟨fun hq=>?_,fun hq=>?_⟩
  ·have hq:y=p:=of_decide_eq_true ((lnk_eq y p).symm.trans hq);rw [if_pos hq] at hc;(conv=>whnf);repeat (refine ⟨gP_of ⟨by omega,by omega⟩,?_⟩;conv=>whnf)
   refine sloop rfl mixed [0,3,4,5] [] (fun m r h=>∃ (k:Nat) (n:Nat) (A:List Lnk) (z:Lnk),r=[(0,[],.osl b 0 L.length 2),(3,[],.int .i64 A.length),(4,[],.osl b (k*2) (L.length - k) 2),(5,[],.int .i64 n)]/\h=[(b,.vec ((A++L.drop A.length).map encLnk).flatten)]/\m=L.length - (k+n)/\1<=n/\k+n<=L.length/\A.length<k+n/\L[k+n - 1]?=some z/\cpt L=A++cptT z (L.drop (k+n))) ?_ ?_
   ·(conv=>whnf);refine ⟨_,k,1,L.take k,y,?_,?_,rfl,by omega,by omega,by rw [List.length_take];omega,by rw [Nat.add_sub_cancel];exact hy,hc⟩
    ·rw [List.length_take,Nat.min_eq_left (by omega),show 0+((k:Nat):Int).toNat*2=k*2 by omega];rfl
    rw [List.length_take,Nat.min_eq_left (by omega),List.take_append_drop]
   clear hc hq hp hy;rintro m r h ⟨k,n,A,z,rfl,rfl,rfl,hn1,hn2,hA,hz,hc⟩;have hR:∀ j,A.length<=j->(A++L.drop A.length)[j]?=L[j]?:=by intro j hj;rw [List.getElem?_append_right hj,List.getElem?_drop,show A.length+(j - A.length)=j by omega]
   have hRl:(A++L.drop A.length).length=L.length:=by rw [List.length_append,List.length_drop];omega
   (conv=>whnf);skip;refine ⟨fun hi3=>?_,fun hi3=>?_⟩<;>simp only [decide_eq_true_eq,decide_eq_false_iff_not] at hi3
   ·obtain ⟨y,hy⟩:=get_lt (l:=L) (i:=k+n) (by omega);have hy2:=(hR (k+n) (by omega)).trans hy;have hz2:=(hR (k+n - 1) (by omega)).trans hz;rw [drop_cons hy,cptT] at hc;(conv=>whnf);repeat ((first|refine ⟨gP_of ⟨by omega,by omega⟩,?_⟩|(refine ⟨n,gP_of ⟨by omega,by omega⟩,?_⟩)|(refine ⟨n - 1,gP_of ⟨by omega,by omega⟩,?_⟩)|(refine ldE encLnk_len (.head _) (by omega) hy2 ?_)|(refine ldE encLnk_len (.head _) (by omega) hz2 ?_)|(refine ⟨plainLnk,?_⟩)|refine And.intro (by show drawOK (opsAt Tryz.f67 _) _=true;decide +kernel) ?_);conv=>whnf)
    refine ⟨fun hq=>?_,fun hq=>?_⟩
    ·have hq:(!decide (y=z))=true:=(congrArg (!·) (lnk_eq y z)).symm.trans hq;rw [Bool.not_eq_true',decide_eq_false_iff_not] at hq;rw [if_neg hq] at hc;have hset:(A++L.drop A.length).set A.length y=(A++[y])++L.drop (A++[y]).length:=by obtain ⟨w,hw⟩:=get_lt (l:=L) (i:=A.length) (by omega);rw [drop_cons hw,List.set_append_right _ _ (Nat.le_refl _),Nat.sub_self,List.set_cons_zero,List.length_append,List.append_assoc];rfl
     (conv=>whnf);repeat ((first|refine ⟨gP_of ⟨by omega,by omega⟩,?_⟩|(refine ⟨n,gP_of ⟨by omega,by omega⟩,?_⟩)|(refine ⟨A.length,gP_of ⟨by omega,by omega⟩,?_⟩)|(refine ldE encLnk_len (.head _) (by omega) hy2 ?_)|(refine stE y (by decide) encLnk_len (i:=A.length) (by omega) (Nat.zero_add _) rfl (.here _) ?_));conv=>whnf)
     rw [hset];refine ⟨_,by omega,k,n+1,A++[y],y,?_,rfl,rfl,by omega,by omega,by simp;omega,by rw [show k+(n+1) - 1=k+n by omega];exact hy,?_⟩
     ·rw [List.length_append];first|rfl|(simp;done)
     rw [hc,List.append_assoc,show k+(n+1)=k+n+1 by omega];rfl
    have hq:(!decide (y=z))=false:=(congrArg (!·) (lnk_eq y z)).symm.trans hq;rw [Bool.not_eq_false',decide_eq_true_eq] at hq;rw [if_pos hq] at hc;(conv=>whnf);repeat (refine ⟨gP_of ⟨by omega,by omega⟩,?_⟩;conv=>whnf)
    exact ⟨_,by omega,k,n+1,A,y,rfl,rfl,rfl,by omega,by omega,by omega,by rw [show k+(n+1) - 1=k+n by omega];exact hy,by rw [hc,show k+(n+1)=k+n+1 by omega]⟩
   have hi4:k+n=L.length:=(by omega);rw [hi4,List.drop_length,cptT,List.append_nil] at hc;have hfl:=flat_len encLnk_len (A++L.drop A.length);have hft:=flat_take encLnk_len (A++L.drop A.length) A.length;rw [List.take_left] at hft;(conv=>whnf);repeat ((first|refine ⟨gP_of ⟨by omega,by omega⟩,?_⟩|(refine ⟨_,_,.here _,⟨by omega,by rw [hfl,hRl];omega⟩,?_⟩));conv=>whnf)
   refine ⟨?post,?e1,?e2⟩
   case e1=>rw [hc];rfl
   case e2=>
    rw [hc];unfold setC;rw [show 0+((A.length:Nat):Int).toNat*2=A.length*2 by omega,hft,List.append_assoc]
  have hq:¬ y=p:=of_decide_eq_false ((lnk_eq y p).symm.trans hq);rw [if_neg hq] at hc;(conv=>whnf);repeat (refine ⟨gP_of ⟨by omega,by omega⟩,?_⟩;conv=>whnf)
  refine ⟨_,by omega,k+1,y,rfl,rfl,rfl,by omega,by omega,by rw [Nat.add_sub_cancel];exact hy,?_⟩;rw [hc,take_snoc hy,List.append_assoc];rfl
 have hke:k=L.length:=by have:¬ (k:Int)<(L.length:Int):=hi2;omega
 subst hke;rw [List.take_length,List.drop_length,cptT,List.append_nil] at hc;(conv=>whnf);skip;exact ⟨[],by rw [hc],by rw [hc,List.append_nil]⟩
theorem compactA (b:Nat) (L:List Lnk) (hne:L≠[]) (hl:L.length<=1048576) :
  ACalls Tryz.prog 67 [.osl b 0 L.length 2] [(b,.vec (L.map encLnk).flatten)] (fun v h'=>v=.sl 2 none ((cpt L).map encLnk)/\h'=[]):=by
 refine ACalls.frz (compactB b L hne hl) ?_;rintro v h1 ⟨post,rfl,rfl⟩;exact ⟨b,_,[],[],_,.here _,.nil,FzV.row (pre:=[]) (post:=[post]) (xs':=[]) (by simp) rfl (by simp) (by intro x hx;obtain ⟨a,_,rfl⟩:=List.mem_map.1 hx;rfl),rfl,rfl⟩
theorem compactN:ACalls Tryz.prog 67 [.nilO] [] (fun v h'=>v=.sl 2 none []/\h'=[]):=by refine QCall.of (v:=.sl 2 none []) ?_;refine fcalls (F:=Tryz.f67) c67 rfl rfl rfl mixed rfl fun X=>?_;(conv=>whnf);refine cT rfl ?_;(conv=>whnf);skip;exact nilO_le (by decide)
theorem compactR {L:List Lnk} {v:AV} {hp:Heap} (hr:Row 2 encLnk L v hp) (hl:L.length<=1048576) :
  ACalls Tryz.prog 67 [v] hp (fun v h'=>v=.sl 2 none ((cpt L).map encLnk)/\h'=[]):=by
 rcases hr with ⟨rfl,rfl,rfl⟩|⟨hne,b,rfl,rfl⟩
 ·exact compactN
 exact compactA b L hne hl
def encIs (l:List Int):List AV:=[.sl 1 none (ints l)]
def corV (H:Hou) (lines:List (List Int)):Cor:=if corErr H lines=0 then corP H lines else []
theorem words_fit {H:Hou} {line:List Int} (h:growErr H line=0) {i:Nat} (hi:i<line.length):wordsE H line i=0/\wordsLs H line i=edgsAt H line i/\(edgsAt H line i).length<=2000:=by
 obtain ⟨hL,hs,hg⟩:=growOK h;have hm:=hg.many i _ (graphM_get hi)
 have hl:lineErr H line=0:=by
  unfold growErr at h;split at h
  ·rename_i h1;exact absurd h h1
  rename_i h1;simpa using h1
 have he:wordsE H line i=0:=by unfold wordsE;rw [if_neg (by omega),if_neg (by rw [Bool.not_eq_false,wthn_iff];omega),if_neg];show ¬ 2000<(edgsAt H line ((i:Int)).toNat).length;rw [Int.toNat_natCast];omega
 refine ⟨he,?_,hm⟩;rw [wordsLs,if_pos he];rfl
theorem openA (H:Hou) (lines:List (List Int)) (hf:HouFit H) (hn:lines.length<=1048576) (hl:∀ l∈lines,l.length<=1048576) :
  QCall Tryz.prog 30 [.agg (encHou H),.sl 1 none (lines.map encIs)] [] (.tup [encCor (corV H lines),.int .i64 (corErr H lines)]):=by
 refine QCall.of ?_;refine fcalls (F:=Tryz.f30) c30 rfl rfl rfl mixed rfl fun X=>?_;(conv=>whnf);repeat (refine QCall.k0 (checkHouse H hf) ?_;conv=>whnf)
 refine ⟨fun h0=>?_,fun h0=>?_⟩<;>simp at h0
 ·have he:corErr H lines=houErr H:=(by rw [corErr,if_pos h0]);(conv=>whnf);skip;rw [corV,he,if_neg h0];exact VLe.tup (.cons (VLe.nil (by decide)) (.cons (VLe.refl _) .nil))
 (conv=>whnf);skip;refine ⟨fun h1=>?_,fun h1=>?_⟩<;>simp at h1
 ·have he:corErr H lines=2:=(by rw [corErr,if_neg (by omega),if_pos (by omega)]);(conv=>whnf);skip;rw [corV,he,if_neg (by decide)];exact VLe.tup (.cons (VLe.nil (by decide)) (.cons (VLe.refl _) .nil))
 have hce:corErr H lines=growsE H lines:=(by rw [corErr,if_neg (by omega),if_neg (by omega)]);(conv=>whnf);skip;refine tloop rfl mixed [2,4,26,27,28] [] (fun m r h=>∃ (i:Nat) (cv:AV) (ch:Heap),r=[(2,[],.iptr (encHou H)),(4,[],cv),(26,[],.sl 1 none (lines.map encIs)),(27,[],.int .i64 (lines.map encIs).length),(28,[],.int .i64 i)]/\h=ch/\m=lines.length - i/\i<=lines.length/\growsE H lines=growsE H (lines.drop i)/\Out 1 encGr (corP H (lines.take i)) cv ch) ?_ ?_
 ·(conv=>whnf);exact ⟨_,_,Turn.refl _ _,_,0,.nilS,[],rfl,rfl,rfl,by omega,rfl,.inl ⟨rfl,rfl,rfl⟩⟩
 rintro m r ch ⟨i,cv,_,rfl,rfl,rfl,hi,hge,hco⟩;(conv=>whnf);refine ⟨fun hi2=>?_,fun hi2=>?_⟩<;>simp at hi2
 ·obtain ⟨line,hline⟩:=get_lt hi2;have hll:=hl line (List.mem_of_getElem? hline);have hre:=ReachW H line hf hll;rw [drop_cons hline,growsE] at hge;(conv=>whnf);repeat ((first|refine ix (by assumption) ?_|refine QCall.k0 (hre) ?_);conv=>whnf)
  refine ⟨fun h2=>?_,fun h2=>?_⟩<;>simp at h2
  ·rw [if_pos h2] at hge;have he:corErr H lines=growErr H line:=hce.trans hge;(conv=>whnf);skip;rw [corV,he,if_neg h2];exact VLe.tup (.cons (VLe.nil (by decide)) (.cons (VLe.refl _) .nil))
  rw [if_neg (by omega)] at hge;have hfew:=(growOK h2).1.few;(conv=>whnf);skip;refine tloop rfl mixed [2,4,8,11,26,27,28,42,43] [] (fun m r h=>∃ (a:Nat) (pv:AV) (ph:Heap),r=[(2,[],.iptr (encHou H)),(4,[],cv),(8,[],.sl 1 none (ints line)),(11,[],pv),(26,[],.sl 1 none (lines.map encIs)),(27,[],.int .i64 (lines.map encIs).length),(28,[],.int .i64 i),(42,[],.int .i64 (ints line).length),(43,[],.int .i64 a)]/\h=ph++ch/\m=line.length - a/\a<=line.length/\Out 1 encLnks (((lnksM H line).map cpt).take a) pv ph) ?_ ?_
  ·(conv=>whnf);exact ⟨_,_,Turn.refl _ _,_,0,.nilS,[],rfl,rfl,rfl,by omega,.inl ⟨rfl,rfl,rfl⟩⟩
  rintro m r h' ⟨a,pv,ph,rfl,rfl,rfl,ha,hpo⟩;(conv=>whnf);refine ⟨fun ha2=>?_,fun ha2=>?_⟩<;>simp at ha2
  ·obtain ⟨hwe,hwl,hwn⟩:=words_fit h2 ha2;have hwx:=wordsX H line a hf hll;rw [hwe,hwl] at hwx;obtain ⟨E,hE⟩:∃ E,E=edgsAt H line a:=⟨_,rfl⟩;rw [<- hE] at hwx hwn;have hpl:((lnksM H line).map cpt)[a]?=some (cpt (E.map lnkOf)):=by unfold lnksM;rw [List.getElem?_map,List.getElem?_map,graphM_get ha2,hE];rfl
   (conv=>whnf);repeat (refine QCall.k0 (hwx) ?_;conv=>whnf)
   refine cF rfl ?_;(conv=>whnf);skip;refine tloop rfl mixed [2,4,8,11,15,26,27,28,42,43,56,57,58] [] (fun m r h=>∃ (k:Nat) (lv:AV) (lh:Heap),r=[(2,[],.iptr (encHou H)),(4,[],cv),(8,[],.sl 1 none (ints line)),(11,[],pv),(15,[],lv),(26,[],.sl 1 none (lines.map encIs)),(27,[],.int .i64 (lines.map encIs).length),(28,[],.int .i64 i),(42,[],.int .i64 (ints line).length),(43,[],.int .i64 a),(56,[],.sl 7 none (E.map encEdg)),(57,[],.int .i64 (E.map encEdg).length),(58,[],.int .i64 k)]/\h=lh++(ph++ch)/\m=E.length - k/\k<=E.length/\Row 2 encLnk ((E.take k).map lnkOf) lv lh) ?_ ?_
   ·(conv=>whnf);exact ⟨_,_,Turn.weak (.cons (VLe.refl _) (.cons (VLe.refl _) (.cons (VLe.refl _) (.cons (VLe.refl _) (.cons nil_le_nilO (RLe.refl _)))))),_,0,.nilO,[],rfl,rfl,rfl,by omega,.inl ⟨rfl,rfl,rfl⟩⟩
   rintro m r h' ⟨k,lv,lh,rfl,rfl,rfl,hk,hlo⟩;have hlol:((E.take k).map lnkOf).length=k:=by rw [List.length_map,List.length_take];omega
   (conv=>whnf);refine ⟨fun hk2=>?_,fun hk2=>?_⟩<;>simp at hk2
   ·obtain ⟨x,hx⟩:=get_lt hk2;have hst:(E.take (k+1)).map lnkOf=(E.take k).map lnkOf++[lnkOf x]:=by rw [take_snoc hx,List.map_append];rfl
    rcases hlo with ⟨he,rfl,rfl⟩|⟨hne,lb,rfl,rfl⟩
    ·(conv=>whnf);repeat ((first|refine ⟨gP_of ⟨by omega,by omega⟩,?_⟩|refine ix (by assumption) ?_|(intro (b9:Nat))|(refine ⟨⟨Nat.le_of_ble_eq_true rfl,Nat.le_of_ble_eq_true rfl⟩,fun b'=>?_⟩)|refine ⟨_,_,Rem.here _,⟨Nat.le_of_ble_eq_true rfl,rfl⟩,?_⟩);conv=>whnf)
     refine ⟨_,_,Turn.refl _ _,_,by omega,k+1,_,[(b',_)],rfl,rfl,rfl,by omega,.inr ⟨by rw [hst];simp,b',?_,?_⟩⟩
     ·rw [hst,he];rfl
     rw [hst,he];rfl
    (conv=>whnf);repeat ((first|refine ⟨gP_of ⟨by omega,by omega⟩,?_⟩|refine ix (by assumption) ?_|(intro (b9:Nat))|(refine ⟨_,.head _,⟨enc_len encLnk_len,by rw [hlol];unfold AMAX;simp;omega⟩,fun b'=>⟨_,.here _,?_⟩⟩)|refine ⟨_,_,Rem.here _,⟨Nat.le_of_ble_eq_true rfl,rfl⟩,?_⟩);conv=>whnf)
    refine ⟨_,_,Turn.refl _ _,_,by omega,k+1,_,[(b',_)],rfl,rfl,rfl,by omega,.inr ⟨by rw [hst];simp,b',?_,?_⟩⟩
    ·rw [hst,List.length_append];rfl
    rw [hst,List.map_append,List.flatten_append];rfl
   rw [List.take_of_length_le hk2] at hlo;have hcr:=compactR hlo (by rw [List.length_map];omega);have htk:=take_snoc hpl;have hpn:(((lnksM H line).map cpt).take a).length<=60:=by rw [List.length_take];omega
   (conv=>whnf);refine ACalls.mono ?_ (ACalls.frame hcr _);rintro v h1 ⟨h3,⟨rfl,rfl⟩,rfl⟩;rcases hpo with ⟨he,rfl,rfl⟩|⟨q,rfl,rfl⟩
   all_goals
    (conv=>whnf);repeat ((first|refine ⟨gP_of ⟨by omega,by omega⟩,?_⟩|(refine ⟨Nat.le_of_ble_eq_true rfl,fun q'=>?_⟩)|(refine ⟨(by rw [List.length_append,List.length_map];simp at hpn ⊢;unfold AMAX;omega),fun q'=>⟨_,.here _,?_⟩⟩));conv=>whnf)
    refine ⟨_,_,Turn.refl _ _,_,(by omega),a+1,_,[(q',.tok)],rfl,rfl,rfl,by omega,.inr ⟨q',?_,rfl⟩⟩;rw [htk,List.map_append];first|done|rfl|(rw [he];done)|(rw [he];rfl)
  have hpt:((lnksM H line).map cpt).take a=(lnksM H line).map cpt:=List.take_of_length_le (by unfold lnksM;rw [List.length_map,List.length_map,graphM_len];omega);rw [hpt] at hpo;have htk:corP H (lines.take (i+1))=corP H (lines.take i)++[(lnksM H line).map cpt]:=by rw [take_snoc hline];unfold corP corM;rw [List.map_append,List.map_append];rfl
  have hcn:(corP H (lines.take i)).length<=1048576:=by unfold corP corM;rw [List.length_map,List.length_map,List.length_take];omega
  have hle:=hpo.le (by decide);have hT:(corP H (lines.take (i+1))).map encGr=(corP H (lines.take i)).map encGr++[[.sl 1 none (((lnksM H line).map cpt).map encLnks)]]:=by rw [htk,List.map_append];rfl
  rcases hpo with ⟨hpe,rfl,rfl⟩|⟨qp,rfl,rfl⟩<;>rcases hco with ⟨hce2,rfl,rfl⟩|⟨q,rfl,rfl⟩
  all_goals
   (conv=>whnf);repeat ((first|refine ⟨gP_of ⟨by omega,by omega⟩,?_⟩|(refine ⟨Nat.le_of_ble_eq_true rfl,fun q'=>?_⟩)|(refine ⟨(by rw [List.length_append,List.length_map];simp at hcn ⊢;unfold AMAX;omega),fun q'=>⟨_,.here _,?_⟩⟩)|(refine ⟨(by rw [List.length_append,List.length_map];simp at hcn ⊢;unfold AMAX;omega),fun q'=>⟨_,.there (.here _),?_⟩⟩));conv=>whnf)
   first
    | refine ⟨_,_,Turn.one (q:=q') (o:=.tok) (.cons (VLe.refl _) (.cons (VLe.els (VssLe.snoc (xs:=(corP H (lines.take i)).map encGr) (.cons hle .nil))) (RLe.refl _))) (by simp),_,(by omega),i+1,_,[(q',.tok)],rfl,rfl,rfl,by omega,hge,.inr ⟨q',by rw [hT],rfl⟩⟩
    | refine ⟨_,_,Turn.one (q:=q') (o:=.tok) (.cons (VLe.refl _) (.cons (VLe.els (.cons (.cons hle .nil) .nil)) (RLe.refl _))) (by simp),_,(by omega),i+1,_,[(q',.tok)],rfl,rfl,rfl,by omega,hge,.inr ⟨q',by rw [hT,hce2];rfl,rfl⟩⟩
 rw [drop_nil hi2,growsE] at hge;rw [List.take_of_length_le hi2] at hco;have he:corErr H lines=0:=hce.trans hge;(conv=>whnf);skip;rw [corV,he,if_pos rfl];exact VLe.tup (.cons (hco.le (by decide)) (.cons (VLe.refl _) .nil))
end Go.Abs.Wall
namespace Go.Abs.Wall.Lst
open Go Go.Abs Go.Proofs Go.Abs.Wall
theorem growsE_zero {H:Hou}:∀ {lines:List (List Int)},growsE H lines=0↔∀ l∈lines,growErr H l=0
 | []=>by simp [growsE]
 | l::t=>by
   unfold growsE;split
   ·rename_i h;constructor
    ·intro h2;exact absurd h2 h
    intro h2;exact absurd (h2 l (List.mem_cons_self ..)) h
   rename_i h;have h:growErr H l=0:=(by simpa using h);rw [growsE_zero];simp [h]
theorem corErr_zero {H:Hou} {lines:List (List Int)} (h:corErr H lines=0):houErr H=0/\lines.length<=40/\∀ l∈lines,growErr H l=0:=by
 unfold corErr at h;split at h
 ·rename_i h1;exact absurd h h1
 rename_i h1;split at h
 ·cases h
 rename_i h2;exact ⟨by simpa using h1,by omega,growsE_zero.1 h⟩
theorem edg_in {H:Hou} {line:List Int} (h:growErr H line=0) {i:Nat} {es:List Edg} (hes:(graphM H line)[i]?=some es) {x:Edg} (hx:x∈es) :
  (i:Int)<x.to/\x.to<=(graphM H line).length/\0<=x.word.form.entry/\x.word.form.entry<H.lex.entries.length:=by
 obtain ⟨hL,_,hg⟩:=growOK h;have h1:=hg.edge i es hes x hx;have hlt:=(List.getElem?_eq_some_iff.1 hes).1;rw [graphM_len] at hlt;rw [graphM_get hlt] at hes;cases hes
 have h2:=frmOK ((edgsAt_iff hL (line_lex (grow_line h)) (by omega)).1 hx).1.1;exact ⟨h1.lo,h1.hi,h2.entry⟩
theorem lnk_ok {H:Hou} {line:List Int} (h:growErr H line=0):LOK (lnksM H line):=by intro i es hes x hx;unfold lnksM at hes ⊢;rw [List.getElem?_map] at hes;obtain ⟨fs,hf,rfl⟩:=Option.map_eq_some_iff.1 hes;obtain ⟨y,hy,rfl⟩:=List.mem_map.1 hx;have:=edg_in h hf hy;rw [List.length_map];exact ⟨this.1,this.2.1⟩
theorem cor_ok {H:Hou} {lines:List (List Int)} (h:corErr H lines=0):COK H.lex.entries.length (corM H lines):=by
 obtain ⟨_,_,h3⟩:=corErr_zero h;refine ⟨fun g hg=>?_,fun g hg es hes x hx=>?_⟩
 ·obtain ⟨l,hl,rfl⟩:=List.mem_map.1 hg;exact lnk_ok (h3 l hl)
 obtain ⟨l,hl,rfl⟩:=List.mem_map.1 hg;unfold lnksM at hes;obtain ⟨fs,hf,rfl⟩:=List.mem_map.1 hes;obtain ⟨y,hy,rfl⟩:=List.mem_map.1 hx;obtain ⟨i,hi⟩:=List.mem_iff_getElem?.1 hf;have:=edg_in (h3 l hl) hi hy;exact ⟨this.2.2.1,this.2.2.2⟩
end Go.Abs.Wall.Lst
namespace Go.Abs.Wall.Lst
open Go Go.Abs Go.Proofs Go.Abs.Wall
theorem risGo_iff {n:Int}:∀ {l:List Int} {last:Int},risGo l n last=true↔l.Pairwise (·<·)/\(∀ x∈l,0<=x/\x<n)/\∀ x∈l,last<x
 | [],last=>by simp [risGo]
 | x::t,last=>by
   unfold risGo;rw [Bool.and_eq_true,Bool.and_eq_true,Bool.and_eq_true,decide_eq_true_eq,decide_eq_true_eq,decide_eq_true_eq,risGo_iff,List.pairwise_cons];constructor
   ·rintro ⟨⟨⟨h1,h2⟩,h3⟩,h4,h5,h6⟩;refine ⟨⟨h6,h4⟩,fun y hy=>?_,fun y hy=>?_⟩
    ·rcases List.mem_cons.1 hy with rfl|hy
     ·omega
     exact h5 y hy
    rcases List.mem_cons.1 hy with rfl|hy
    ·exact h3
    have:=h6 y hy;omega
   rintro ⟨⟨h1,h2⟩,h3,h4⟩;have h5:=h3 x (List.mem_cons_self ..);exact ⟨⟨⟨h5.1,by omega⟩,h4 x (List.mem_cons_self ..)⟩,h2,fun y hy=>h3 y (List.mem_cons_of_mem _ hy),h1⟩
theorem risM_iff {l:List Int} {n:Int}:risM l n=true↔l.Pairwise (·<·)/\∀ x∈l,0<=x/\x<n:=by unfold risM;rw [risGo_iff];exact ⟨fun h=>⟨h.1,h.2.1⟩,fun h=>⟨h.1,h.2,fun x hx=>by have:=h.2 x hx;omega⟩⟩
theorem allB_cpt {C:Cor} (h:∀ g∈C,LOK g) (w:Int->Bool):allB (C.map fun g=>g.map cpt) w=allB C w:=by
 unfold allB;rw [List.all_map,Bool.eq_iff_iff,List.all_eq_true,List.all_eq_true];constructor
 ·intro h1 g hg;have:=h1 g hg;simp only [Function.comp] at this;rwa [rdM_cpt (h g hg)] at this
 intro h1 g hg;simp only [Function.comp];rw [rdM_cpt (h g hg)];exact h1 g hg
theorem needsM_cpt {C:Cor} (h:∀ g∈C,LOK g) (w:Int->Bool) (e:Int):needsM (C.map fun g=>g.map cpt) w e=needsM C w e:=by
 unfold needsM;rw [List.length_map];congr 1;refine List.filter_congr fun i hi=>?_;rw [List.mem_range] at hi;obtain ⟨g,hg⟩:=get_lt hi;have h1:(C.map fun g=>g.map cpt)[i]?=some (g.map cpt):=by rw [List.getElem?_map,hg];rfl
 have hl:=h g (List.mem_of_getElem? hg);unfold needsF;rw [getD_of h1,getD_of hg,rdM_cpt hl,rdM_cpt hl]
theorem indGo_cpt {C:Cor} (h:∀ g∈C,LOK g):∀ (n:Nat) (w:Int->Bool),indGo (C.map fun g=>g.map cpt) n w=indGo C n w
 | 0,w=>rfl
 | n+1,w=>by unfold indGo;rw [allB_cpt h,indGo_cpt h n]
theorem indL_cpt {C:Cor} (h:∀ g∈C,LOK g) (N:Nat):indL (C.map fun g=>g.map cpt) N=indL C N:=by unfold indL indW;rw [indGo_cpt h];refine List.map_congr_left fun e he=>?_;unfold ndOf;rw [needsM_cpt h]
structure CorFit (H:Hou) (lines:List (List Int)):Prop where
 hou:HouFit H
 line:∀ l∈lines,l.length<=1048576
 lines:lines.length<=1048576
theorem corP_fit {H:Hou} {lines:List (List Int)} (h:corErr H lines=0):∀ g∈corP H lines,GFit g:=by
 intro g hg;obtain ⟨_,_,h3⟩:=corErr_zero h;unfold corP at hg;obtain ⟨g0,hg0,rfl⟩:=List.mem_map.1 hg;have hlk:=((cor_ok h).links g0 hg0).cpt;obtain ⟨l,hl,rfl⟩:=List.mem_map.1 hg0;obtain ⟨h4,h5,h6⟩:=growOK (h3 l hl);have h7:=h4.few;refine ⟨hlk,?_,fun es hes=>?_⟩
 ·unfold lnksM;rw [List.length_map,List.length_map,graphM_len];omega
 obtain ⟨fs,hfs,rfl⟩:=List.mem_map.1 hes;unfold lnksM at hfs;obtain ⟨ds,hds,rfl⟩:=List.mem_map.1 hfs;obtain ⟨i,hi⟩:=List.mem_iff_getElem?.1 hds;have h8:=h6.many i ds hi;have h9:=cpt_len (ds.map lnkOf);rw [List.length_map] at h9;omega
theorem cor_len (H:Hou) (lines:List (List Int)):(corM H lines).length=lines.length:=by simp [corM]
theorem corP_len (H:Hou) (lines:List (List Int)):(corP H lines).length=lines.length:=by simp [corP,corM]
def begErr (H:Hou) (lines:List (List Int)) (keep:List Int):Int:=if corErr H lines≠0 then corErr H lines else if risM keep H.lex.entries.length=true then 0 else 1
def begV (H:Hou) (lines:List (List Int)) (keep:List Int):Cor:=if begErr H lines keep=0 then corP H lines else []
def indErr (H:Hou) (lines:List (List Int)):Int:=if corErr H lines≠0 then corErr H lines else if allB (corM H lines) everyW=true then 0 else 52
def indR (H:Hou) (lines:List (List Int)):List Nd:=if indErr H lines=0 then indL (corM H lines) H.lex.entries.length else []
def encNd (x:Nd):List AV:=[.int .i64 x.entry,.sl 1 none (ints x.lines)]
theorem begErr_zero {H:Hou} {lines:List (List Int)} {keep:List Int} (h:begErr H lines keep=0):corErr H lines=0/\risM keep H.lex.entries.length=true:=by
 unfold begErr at h;split at h
 ·rename_i h1;exact absurd h h1
 rename_i h1;split at h
 ·rename_i h2;exact ⟨by simpa using h1,h2⟩
 cases h
def c36:Cfg:=⟨[0,1,2,3,6,7,8,9,17,25],[],[],[],[],[]⟩
def c12:Cfg:=⟨[0,1,2,4,5,6,7,8,9,10,18,22,31,38,44,45,46,50],[],[7],[],[],[]⟩
def c33:Cfg:=⟨[0,1,3],[],[],[],[],[]⟩
theorem beginCor (H:Hou) (lines:List (List Int)) (keep:List Int) (hf:CorFit H lines) (hk:keep.length<=1048576) :
  QCall Tryz.prog 36 [.agg (encHou H),.sl 1 none (lines.map encIs),.sl 1 none (ints keep)] [] (.tup [encCor (begV H lines keep),.int .i64 (begErr H lines keep)]):=by
 have ho:=openA H lines hf.hou hf.lines hf.line;have hN:=hf.hou.lex.entries;refine QCall.of ?_;refine fcalls (F:=Tryz.f36) c36 rfl rfl rfl mixed rfl fun X=>?_;(conv=>whnf);repeat (refine QCall.k0 (ho) ?_;conv=>whnf)
 refine ⟨fun h0=>?_,fun h0=>?_⟩<;>simp at h0
 ·have he:begErr H lines keep=corErr H lines:=(by rw [begErr,if_pos h0]);(conv=>whnf);skip;rw [begV,he,if_neg h0];exact VLe.tup (.cons (VLe.nil (by decide)) (.cons (VLe.refl _) .nil))
 have hr:=risW keep H.lex.entries.length (by unfold LMAX;omega) ⟨by omega,by unfold LMAX at hN;omega⟩;rw [<- List.length_map (f:=encEnt)] at hr;(conv=>whnf);repeat (refine QCall.k0 (hr) ?_;conv=>whnf)
 refine ⟨fun h1=>?_,fun h1=>?_⟩
 ·have h1:(!risM keep ((H.lex.entries.map encEnt).length:Int))=true:=h1;rw [List.length_map,Bool.not_eq_true'] at h1;have he:begErr H lines keep=1:=(by rw [begErr,if_neg (by omega),if_neg (by rw [h1];decide)]);(conv=>whnf);skip;rw [begV,he,if_neg (by decide)];exact VLe.tup (.cons (VLe.nil (by decide)) (.cons (VLe.refl _) .nil))
 have h1:(!risM keep ((H.lex.entries.map encEnt).length:Int))=false:=h1;rw [List.length_map,Bool.not_eq_false'] at h1;have he:begErr H lines keep=0:=(by rw [begErr,if_neg (by omega),if_pos h1]);(conv=>whnf);skip;rw [begV,he,if_pos rfl,corV,if_pos h0];exact VLe.refl _
end Go.Abs.Wall.Lst
namespace Go.Abs.Wall.Lst
open Go Go.Abs Go.Proofs Go.Abs.Wall
theorem badGo_false {α:Type} {bad:List α->α->Bool} {l:List α}:∀ {t:List α} {i:Nat},badGo bad l t i=false↔∀ (j:Nat) (w:α),t[j]?=some w->bad (l.take (i+j)) w=false
 | [],i=>⟨fun _ j w h=>by simp at h,fun _=>rfl⟩
 | x::t,i=>by
   rw [badGo,Bool.or_eq_false_iff,badGo_false (t:=t) (i:=i+1)];constructor
   ·rintro ⟨h1,h2⟩ j w hw;cases j with
    | zero=>
      simp at hw;subst hw;exact h1
    | succ j=>
      have:=h2 j w (by simpa using hw);rwa [show i+(j+1)=i+1+j by omega]
   intro h;refine ⟨h 0 x rfl,fun j w hw=>?_⟩;have:=h (j+1) w (by simpa using hw);rwa [show i+1+j=i+(j+1) by omega]
theorem bads_false {α:Type} {bad:List α->α->Bool} {l:List α}:bads bad l=false↔∀ (j:Nat) (w:α),l[j]?=some w->bad (l.take j) w=false:=by unfold bads;rw [badGo_false];simp only [Nat.zero_add]
theorem entBad_less {before before':List Ent} {w:Ent} (h:∀ v∈before',v∈before) (hb:entBad before w=false):entBad before' w=false:=by
 unfold entBad at hb ⊢;rw [Bool.or_eq_false_iff] at hb ⊢;refine ⟨hb.1,?_⟩;cases ha:before'.any (entSame w) with
 | false=>rfl
 | true=>
   obtain ⟨v,hv,h2⟩:=List.any_eq_true.1 ha;rw [List.any_eq_true.2 ⟨v,h v hv,h2⟩] at hb;exact absurd hb.2 (by decide)
theorem keep_len {H:Hou} {keep:List Int} (hk:KeepOK H keep):keep.length<=H.lex.entries.length:=by
 have:=nodup_sub_len (a:=keep) (b:=(List.range H.lex.entries.length).map fun i:Nat=>(i:Int)) (hk.up.imp fun h=>by omega) fun x hx=>by have:=hk.inr x hx;rw [List.mem_map];exact ⟨x.toNat,List.mem_range.2 (by omega),by omega⟩
 simpa using this
theorem entAt_get {x:Lex} {k:Int} (h0:0<=k) (h1:k<x.entries.length):x.entries[k.toNat]?=some (entAt x k):=by obtain ⟨e,he⟩:=get_lt (l:=x.entries) (i:=k.toNat) (by omega);unfold entAt;rw [getD_of he,he]
theorem up_get {l:List Int} (h:l.Pairwise (·<·)) {i j:Nat} {x y:Int} (hi:l[i]?=some x) (hj:l[j]?=some y) (hij:i<j):x<y:=by obtain ⟨h1,rfl⟩:=List.getElem?_eq_some_iff.1 hi;obtain ⟨h2,rfl⟩:=List.getElem?_eq_some_iff.1 hj;exact List.pairwise_iff_getElem.1 h i j h1 h2 hij
theorem lex_only {H:Hou} {keep:List Int} (hk:KeepOK H keep) (h:lexErr H.lex=0):lexErr (onlyX H.lex keep)=0:=by
 have hlen:=keep_len hk;have hl:(onlyX H.lex keep).entries.length=keep.length:=by unfold onlyX;simp
 unfold lexErr at h ⊢;split at h
 ·cases h
 rename_i h1;split at h
 ·cases h
 rename_i h2
 have h3:bads entBad (onlyX H.lex keep).entries=false:=by
  rw [bads_false];intro j w hw;unfold onlyX at hw ⊢;simp only at hw ⊢;rw [List.getElem?_map] at hw;obtain ⟨k,hkj,rfl⟩:=Option.map_eq_some_iff.1 hw;have hr:=hk.inr k (List.mem_of_getElem? hkj);have hb:=bads_false.1 (Bool.eq_false_iff.2 h2) k.toNat _ (entAt_get hr.1 hr.2);refine entBad_less ?_ hb;intro v hv;obtain ⟨i,hi⟩:=List.mem_iff_getElem?.1 hv;rw [List.getElem?_take] at hi;split at hi
  ·rename_i hij;rw [List.getElem?_map] at hi;obtain ⟨k2,hk2,rfl⟩:=Option.map_eq_some_iff.1 hi;have hlt:=up_get hk.up hk2 hkj hij;have hr2:=hk.inr k2 (List.mem_of_getElem? hk2);have hg:=entAt_get (x:=H.lex) hr2.1 hr2.2;refine List.mem_iff_getElem?.2 ⟨k2.toNat,?_⟩;rw [List.getElem?_take,if_pos (by omega)];exact hg
  cases hi
 rw [if_neg (by rw [hl];show ¬ (200<keep.length\/40<H.lex.endings.length\/10<H.lex.clitics.length);omega),if_neg (by rw [h3];decide)];exact h
theorem hou_only {H:Hou} {keep:List Int} (hk:KeepOK H keep) (h:houErr H=0):houErr (onlyH H keep)=0:=by
 unfold houErr at h ⊢;split at h
 ·rename_i h1;exact absurd h h1
 rename_i h1;split at h
 ·rename_i h2;exact absurd h h2
 rename_i h2;rw [if_neg (by exact h1),if_neg (by intro hn;exact hn (lex_only hk (by omega)))];exact h
theorem line_only {H:Hou} {keep:List Int} (hk:KeepOK H keep) {line:List Int} (h:lineErr H line=0):lineErr (onlyH H keep) line=0:=by
 unfold lineErr at h ⊢;split at h
 ·rename_i h1;exact absurd h h1
 rename_i h1;rw [if_neg (by intro hn;exact hn (hou_only hk (by omega)))];exact h
theorem grow_keep {H:Hou} {keep:List Int} (hk:KeepOK H keep) {line:List Int} (h:growErr H line=0):growErr (onlyH H keep) line=0:=by have h1:=grow_line h;have h2:=line_lex h1;exact grow_only hk (lex_only hk h2) h (line_only hk h1)
theorem cor_keep {H:Hou} {keep:List Int} (hk:KeepOK H keep) {lines:List (List Int)} (h:corErr H lines=0):corErr (onlyH H keep) lines=0:=by obtain ⟨h1,h2,h3⟩:=corErr_zero h;unfold corErr;rw [if_neg (by intro hn;exact hn (hou_only hk h1)),if_neg (by omega)];exact growsE_zero.2 fun l hl=>grow_keep hk (h3 l hl)
theorem rd_only {H:Hou} {keep:List Int} (hk:KeepOK H keep) {line:List Int} (h:growErr H line=0) {w w':Int->Bool}
  (hw:∀ (j:Nat) (k:Int),keep[j]?=some k->w' j=w k):rdM w' (lnksM (onlyH H keep) line)=rdM (fun e=>memW keep e&&w e) (lnksM H line):=by
 have h':=grow_keep hk h;obtain ⟨hL,_,_⟩:=growOK h;obtain ⟨hL',_,_⟩:=growOK h';have hx:=line_lex (grow_line h);have hx':=lex_only hk hx;have hlen:(lnksM (onlyH H keep) line).length=(lnksM H line).length:=by unfold lnksM;rw [List.length_map,List.length_map,graphM_len,graphM_len]
 rw [Bool.eq_iff_iff,rdM_iff (lnk_ok h'),rdM_iff (lnk_ok h),hlen]
 have get:∀ (K:Hou) (i:Nat) es,(lnksM K line)[i]?=some es->i<line.length/\es=(edgsAt K line i).map lnkOf:=by
  intro K i es he;unfold lnksM at he;rw [List.getElem?_map] at he;obtain ⟨fs,hf,rfl⟩:=Option.map_eq_some_iff.1 he;have hi:=(List.getElem?_eq_some_iff.1 hf).1;rw [graphM_len] at hi;rw [graphM_get hi] at hf;cases hf
  exact ⟨hi,rfl⟩
 have put:∀ (K:Hou) (i:Nat),i<line.length->(lnksM K line)[i]?=some ((edgsAt K line i).map lnkOf):=by intro K i hi;unfold lnksM;rw [List.getElem?_map,graphM_get hi];rfl
 constructor
 ·refine fun hr=>hr.mono fun i es x hes hxm hwx=>?_;obtain ⟨hi,rfl⟩:=get _ i es hes;obtain ⟨e,he,rfl⟩:=List.mem_map.1 hxm;obtain ⟨hr1,hr2⟩:=(edgs_only hk hL hL' hx' hx (by omega)).1 he;refine ⟨_,put H i hi,lnkOf (reE keep e),List.mem_map.2 ⟨_,hr2,rfl⟩,rfl,?_⟩;obtain ⟨k,hkj⟩:=get_lt (l:=keep) (i:=e.word.form.entry.toNat) (by omega);show (memW keep (keep.getD e.word.form.entry.toNat 0)&&w (keep.getD e.word.form.entry.toNat 0))=true;rw [getD_of hkj,Bool.and_eq_true];refine ⟨by unfold memW;rw [decide_eq_true_eq];exact List.mem_of_getElem? hkj,?_⟩;rw [<- hw _ k hkj,show ((e.word.form.entry.toNat:Nat):Int)=e.word.form.entry by omega];exact hwx
 refine fun hr=>hr.mono fun i es x hes hxm hwx=>?_;obtain ⟨hi,rfl⟩:=get _ i es hes;obtain ⟨e,he,rfl⟩:=List.mem_map.1 hxm;rw [Bool.and_eq_true] at hwx;have hm:e.word.form.entry∈keep:=by have:=hwx.1;unfold memW at this;exact of_decide_eq_true this
 obtain ⟨j,hj⟩:=List.mem_iff_getElem?.1 hm;have hjl:=(List.getElem?_eq_some_iff.1 hj).1;have hre:reE keep { e with word:={ e.word with form:={ e.word.form with entry:=(j:Int) } } }=e:=by unfold reE reW reF;simp only [Int.toNat_natCast];rw [getD_of hj]
 refine ⟨_,put _ i hi,lnkOf { e with word:={ e.word with form:={ e.word.form with entry:=(j:Int) } } },List.mem_map.2 ⟨_,(edgs_only hk hL hL' hx' hx (by omega)).2 ⟨⟨by simp,by simp;omega⟩,by rw [hre];exact he⟩,rfl⟩,rfl,?_⟩;show w' (j:Int)=true;rw [hw j _ hj];exact hwx.2
theorem all_only {H:Hou} {keep:List Int} (hk:KeepOK H keep) {lines:List (List Int)} (h:∀ l∈lines,growErr H l=0) {w w':Int->Bool}
  (hw:∀ (j:Nat) (k:Int),keep[j]?=some k->w' j=w k):allB (corM (onlyH H keep) lines) w'=allB (corM H lines) (fun e=>memW keep e&&w e):=by
 unfold allB corM;rw [List.all_map,List.all_map,Bool.eq_iff_iff,List.all_eq_true,List.all_eq_true];refine ⟨fun h1 l hl=>?_,fun h1 l hl=>?_⟩
 ·have:=h1 l hl;simp only [Function.comp] at this ⊢;rw [<- rd_only hk (h l hl) hw];exact this
 have:=h1 l hl;simp only [Function.comp] at this ⊢;rw [rd_only hk (h l hl) hw];exact this
theorem cor_get {H:Hou} {lines:List (List Int)} {i:Nat} {l:List Int} (h:lines[i]?=some l):(corM H lines).getD i []=lnksM H l:=by refine getD_of ?_;unfold corM;rw [List.getElem?_map,h];rfl
theorem and_but (keep:List Int) (k:Int):(fun e=>memW keep e&&but everyW k e)=but (memW keep) k:=by funext e;unfold but everyW;rw [Bool.and_true,Bool.and_comm]
theorem and_every (keep:List Int):(fun e=>memW keep e&&everyW e)=memW keep:=by funext e;unfold everyW;rw [Bool.and_true]
theorem but_hw {keep:List Int} (hu:keep.Pairwise (·<·)) {n:Nat} {kn:Int} (hn:keep[n]?=some kn):∀ (j:Nat) (k:Int),keep[j]?=some k->but everyW n j=but everyW kn k:=by
 intro j k hj;unfold but everyW;congr 2;rw [decide_eq_decide];constructor
 ·intro h;have:j=n:=(by omega);subst this;rw [hn] at hj;exact (Option.some.inj hj).symm
 intro h;subst h;rcases Nat.lt_trichotomy j n with h|h|h
 ·exact absurd (up_get hu hj hn h) (by omega)
 ·rw [h]
 exact absurd (up_get hu hn hj h) (by omega)
theorem needs_only {H:Hou} {keep:List Int} (hk:KeepOK H keep) {lines:List (List Int)} (h:∀ l∈lines,growErr H l=0) {n:Nat} {kn:Int} (hn:keep[n]?=some kn) :
  needsM (corM (onlyH H keep) lines) everyW n=needsM (corM H lines) (memW keep) kn:=by
 unfold needsM;rw [cor_len,cor_len];congr 1;refine List.filter_congr fun i hi=>?_;obtain ⟨l,hl⟩:=get_lt (List.mem_range.1 hi);have hg:=h l (List.mem_of_getElem? hl);unfold needsF;rw [cor_get hl,cor_get hl,rd_only hk hg (w:=everyW) (w':=everyW) (fun _ _ _=>rfl),rd_only hk hg (but_hw hk.up hn),and_but,and_every]
theorem indGo_stay {C:Cor}:∀ (n:Nat),(∀ e:Nat,e<n->allB C (but everyW e)=false)->indGo C n everyW=everyW
 | 0,_=>rfl
 | n+1,h=>by rw [indGo,if_neg (by rw [h n (by omega)];decide)];exact indGo_stay n fun e he=>h e (by omega)
def entsL (l:List Nd):List Int:=l.map Nd.entry
def renGo:Nat->List Nd->List Nd
 | _,[]=>[]
 | i,x::t=>⟨i,x.lines⟩::renGo (i+1) t
theorem ents_ind (C:Cor) (N:Nat):entsL (indL C N)=keepL N (indW C N):=by unfold entsL indL;rw [List.map_map];have:Nd.entry ∘ ndOf C (indW C N)=id:=rfl;rw [this,List.map_id]
theorem keepL_ok {H:Hou} {w:Int->Bool}:KeepOK H (keepL H.lex.entries.length w):=⟨keepL_up,fun k hk=>by
 obtain ⟨h0,h1,_⟩:=keepL_mem.1 hk;exact ⟨h0,h1⟩⟩
theorem keepL_every (n:Nat):keepL n everyW=(List.range n).map fun i:Nat=>(i:Int):=by unfold keepL;congr 1;exact List.filter_eq_self.2 fun _ _=>rfl
theorem ren_get:∀ (l:List Nd) (a i:Nat),(renGo a l)[i]?=(l[i]?).map fun x=>(⟨((a+i:Nat):Int),x.lines⟩:Nd)
 | [],a,i=>by simp [renGo]
 | x::t,a,0=>by simp [renGo]
 | x::t,a,i+1=>by rw [renGo,List.getElem?_cons_succ,List.getElem?_cons_succ,ren_get t (a+1) i,show a+1+i=a+(i+1) by omega]
theorem ind_again {H:Hou} {lines:List (List Int)} (h:indErr H lines=0) :
  indErr (onlyH H (entsL (indR H lines))) lines=0/\indR (onlyH H (entsL (indR H lines))) lines=renGo 0 (indR H lines):=by
 have hc:corErr H lines=0:=by
  unfold indErr at h;split at h
  ·rename_i h1;exact absurd h h1
  rename_i h1;omega
 have ha:allB (corM H lines) everyW=true:=by
  unfold indErr at h;rw [if_neg (by omega)] at h;split at h
  ·assumption
  cases h
 have hR:indR H lines=indL (corM H lines) H.lex.entries.length:=by unfold indR;rw [if_pos h]
 obtain ⟨C,hC⟩:∃ C,C=corM H lines:=⟨_,rfl⟩;obtain ⟨N,hN⟩:∃ N,N=H.lex.entries.length:=⟨_,rfl⟩;obtain ⟨keep,hke⟩:∃ keep,keep=keepL N (indW C N):=⟨_,rfl⟩;have hents:entsL (indR H lines)=keep:=(by rw [hR,ents_ind,hke,hC,hN]);have hk:KeepOK H keep:=by rw [hke,hN];exact keepL_ok
 have hg:=(corErr_zero hc).2.2;have hco:=cor_ok hc;rw [<- hC] at ha hco;rw [<- hN] at hco;rw [hents];have hc':=cor_keep hk hc;have hmem:∀ x,0<=x->x<(N:Int)->memW keep x=indW C N x:=by intro x h0 h1;rw [Bool.eq_iff_iff];unfold memW;rw [decide_eq_true_eq,hke,keepL_mem];exact ⟨fun h=>h.2.2,fun h=>⟨h0,h1,h⟩⟩
 have hallk:allB C (memW keep)=true:=by rw [hke,allB_mem hco];exact indGo_all N everyW ha
 have hall':allB (corM (onlyH H keep) lines) everyW=true:=by rw [all_only hk hg (w:=everyW) (w':=everyW) (fun _ _ _=>rfl),and_every,<- hC];exact hallk
 have he':indErr (onlyH H keep) lines=0:=by unfold indErr;rw [if_neg (by omega),if_pos hall']
 refine ⟨he',?_⟩;have hlen':(onlyH H keep).lex.entries.length=keep.length:=by unfold onlyH onlyX;simp
 have hstay:indGo (corM (onlyH H keep) lines) keep.length everyW=everyW:=by refine indGo_stay _ fun e he=>?_;obtain ⟨k,hkk⟩:=get_lt he;rw [all_only hk hg (but_hw hk.up hkk),and_but,<- hC];have hkm:=List.mem_of_getElem? hkk;rw [hke] at hkm;obtain ⟨k0,k1,k2⟩:=keepL_mem.1 hkm;rw [but_mem,hke,without_keep,allB_mem hco];have:=indGo_need hco N everyW k.toNat (by omega) (by rw [show ((k.toNat:Nat):Int)=k by omega];exact k2);rwa [show ((k.toNat:Nat):Int)=k by omega] at this
 have hindw:indW (corM (onlyH H keep) lines) keep.length=everyW:=hstay;unfold indR;rw [if_pos he',if_pos h,hlen'];unfold indL;rw [hindw,keepL_every,<- hC,<- hN,<- hke];refine List.ext_getElem? fun i=>?_;rw [ren_get,List.getElem?_map,List.getElem?_map,List.getElem?_map];by_cases hi:i<keep.length
 ·obtain ⟨k,hkk⟩:=get_lt hi;rw [hkk,List.getElem?_range hi];simp only [Option.map_some,Nat.zero_add];unfold ndOf;simp only;congr 2;rw [needs_only hk hg hkk,<- hC,hke,needsM_mem hco]
 rw [List.getElem?_eq_none (by simpa using hi),List.getElem?_eq_none (by omega)];rfl
end Go.Abs.Wall.Lst
namespace Go.Abs.Wall.Lst
open Go Go.Abs Go.Proofs Go.Abs.Wall
theorem heqInt (a b:Int):eqV Tryz.prog 3 (.int .i64 a) (.int .i64 b)=some (decide (a=b)):=by unfold eqV;rfl
theorem plainInt:plainT Tryz.prog 3=true:=by decide +kernel
theorem lookSet (k k':Int) (v:Int):∀ es:List (Int × Int),lookA k (setA k' v es)=if k=k' then some v else lookA k es
 | []=>by
   unfold setA lookA;by_cases h:k=k'
   ·rw [if_pos h,if_pos h]
   rw [if_neg h,if_neg h];rfl
 | (x,u)::es=>by
   have ih:=lookSet k k' v es;unfold setA;by_cases h:k'=x
   ·rw [if_pos h];unfold lookA;by_cases h2:k=k'
    ·rw [if_pos h2,if_pos h2]
    rw [if_neg h2,if_neg h2,if_neg (fun e=>h2 (e.trans h.symm))]
   rw [if_neg h];unfold lookA;by_cases h2:k=x
   ·rw [if_pos h2,if_pos h2,if_neg (fun e=>h (e.symm.trans h2))]
   rw [if_neg h2,if_neg h2,ih]
def wOf (es:List (Int × Int)):Int->Bool:=fun e=>decide ((lookA e es).getD 0=0)
theorem wOf_set (es:List (Int × Int)) (i:Int):wOf (setA i 1 es)=but (wOf es) i:=by
 funext e;unfold wOf but;rw [lookSet];by_cases h:e=i
 ·rw [if_pos h,decide_eq_true h];rfl
 rw [if_neg h,decide_eq_false h];rfl
def mapI (es:List (Int × Int)):Ob:=.map (encA (AV.int .i64) (AV.int .i64) es)
theorem goneF (gb:Nat) (es:List (Int × Int)) (e:Int):QCall Tryz.prog 33 [.int .i64 e,.iptr [.omap gb]] [(gb,mapI es)] (.bool (wOf es e)):=by
 unfold mapI;refine fcalls (F:=Tryz.f33) c33 rfl rfl rfl mixed rfl fun X=>?_;(conv=>whnf);repeat ((refine lkI (.head _) heqInt plainInt ?_);conv=>whnf)
 exact ⟨rfl,rfl⟩
theorem encNd_len (x:Nd):(encNd x).length=2:=rfl
def RowT {α:Type} (k:Nat) (enc:α->List AV) (L:List α) (e:Int) (v:AV) (h':Heap):Prop:=∃ x hp Z,v=.tup [x,.int .i64 e]/\Row k enc L x hp/\h'=hp++Z
theorem RowT.nilT {α:Type} {k:Nat} {enc:α->List AV} {e:Int} {f:FuncId} {vs:List AV} {h:Heap} (hf:ACalls Tryz.prog f vs h (fun v _=>v=.tup [.nilS,.int .i64 e])):ACalls Tryz.prog f vs h (RowT k enc [] e):=by refine ACalls.post hf ?_;rintro v h1 rfl;exact ⟨_,[],⟨.nilO,[],[],rfl,.inl ⟨rfl,rfl,rfl⟩,rfl⟩,VLe.tup (.cons nil_le_nilO (.cons (VLe.refl _) .nil)),by simp,by simp [keys]⟩
theorem RowT.ok {α:Type} {f:FuncId} {vs:List AV} {k:Nat} {enc:α->List AV} {L:List α} {e:Int} (hk0:0<k) (hk:∀ a,(enc a).length=k)
  (h:ACalls Tryz.prog f vs [] (RowT k enc L e)):QCall Tryz.prog f vs [] (.tup [.sl k none (L.map enc),.int .i64 e]):=by
 refine QCall.of (ACalls.frzOr h ?_);rintro v h1 ⟨x,hp,Z,rfl,⟨rfl,rfl,rfl⟩|⟨_,b,rfl,rfl⟩,rfl⟩
 ·exact .inl (VLe.tup (.cons (nilO_le hk0) (.cons (VLe.refl _) .nil)))
 exact .inr ⟨b,_,Z,Z,_,.here _,FzH.refl _,.tup (.cons (fzEnc hk rfl) (.cons (.refl _) .nil)),VLe.refl _⟩
theorem keepL_snoc {C:Cor} {w:Int->Bool} (i:Nat):((List.range (i+1)).filter (keepF w)).map (fun n:Nat=>ndOf C w n)=((List.range i).filter (keepF w)).map (fun n:Nat=>ndOf C w n)++(if w i=true then [ndOf C w i] else []):=by rw [filter_snoc,List.map_append];congr 1;unfold keepF;split<;>rfl
theorem InduceA (H:Hou) (lines:List (List Int)) (hf:CorFit H lines) :
  ACalls Tryz.prog 12 [.agg (encHou H),.sl 1 none (lines.map encIs)] [] (RowT 2 encNd (indR H lines) (indErr H lines)):=by
 have ho:=openA H lines hf.hou hf.lines hf.line;by_cases h0:corErr H lines=0
 ·have hcf:=corP_fit h0;have hok:=cor_ok h0;have hv:corV H lines=corP H lines:=(by rw [corV,if_pos h0]);rw [hv,h0] at ho;have hall:=allA hcf (by rw [corP_len];exact hf.lines) (f:=32) (caps:=[]) (hp:=[]) (fun e=>everyA e []);rw [show allB (corP H lines) everyW=allB (corM H lines) everyW from allB_cpt hok.links _] at hall;cases h1:allB (corM H lines) everyW with
  | false=>
    rw [h1] at hall;have he:indErr H lines=52:=(by rw [indErr,if_neg (by omega),if_neg (by rw [h1];decide)]);rw [indR,he,if_neg (by decide)];refine RowT.nilT ?_;refine fcalls (F:=Tryz.f12) c12 rfl rfl rfl mixed rfl fun X=>?_;(conv=>whnf);repeat (refine QCall.k0 (ho) ?_;conv=>whnf)
    refine cF rfl ?_;(conv=>whnf);repeat (refine QCall.k0 (hall) ?_;conv=>whnf)
    refine cT rfl ?_;(conv=>whnf);skip
  | true=>
    rw [h1] at hall;have he:indErr H lines=0:=(by rw [indErr,if_neg (by omega),if_pos h1]);have hr:indR H lines=indL (corP H lines) H.lex.entries.length:=(by rw [indR,if_pos he,corP,indL_cpt hok.links]);rw [he,hr];have hNf:H.lex.entries.length<=200:=(houOK (corErr_zero h0).1).lex.many.1;obtain ⟨C,hC⟩:∃ C,C=corP H lines:=⟨_,rfl⟩;obtain ⟨N,hN⟩:∃ N,N=H.lex.entries.length:=⟨_,rfl⟩;have hNe:(H.lex.entries.map encEnt).length=N:=(by rw [List.length_map,hN]);have hCl:C.length<=1048576:=by rw [hC,corP_len];exact hf.lines
    rw [<- hC,<- hN];rw [<- hC] at hcf ho hall;rw [<- hN] at hNf;refine fcalls (F:=Tryz.f12) c12 rfl rfl rfl mixed rfl fun X=>?_;(conv=>whnf);repeat (refine QCall.k0 (ho) ?_;conv=>whnf)
    refine cF rfl ?_;(conv=>whnf);repeat (refine QCall.k0 (hall) ?_;conv=>whnf)
    refine cF rfl ?_;(conv=>whnf);repeat ((first|refine ⟨gP_of ⟨by omega,by omega⟩,?_⟩|(intro (gb0:Nat))|refine ⟨_,_,Rem.here _,⟨Nat.le_of_ble_eq_true rfl,rfl⟩,?_⟩);conv=>whnf)
    rename_i gb;refine tloop rfl mixed [2,4,6,7,8,9] [] (fun m r h=>∃ (n:Nat) (es:List (Int × Int)),r=[(2,[],.iptr (encHou H)),(4,[],.nilS),(6,[],encCor C),(7,[],.iptr [.omap gb]),(8,[],.fn 33 [.iptr [.omap gb]]),(9,[],.int .i64 ((n:Int) - 1))]/\h=[(gb,mapI es)]/\m=n/\n<=N/\indW C N=indGo C n (wOf es)) ?_ ?_
    ·(conv=>whnf);exact ⟨_,_,Turn.refl _ _,_,N,[],by rw [hNe],rfl,rfl,by omega,rfl⟩
    rintro n r h' ⟨_,es,rfl,rfl,rfl,hn,hw⟩;(conv=>whnf);skip;refine ⟨fun hi2=>?_,fun hi2=>?_⟩<;>simp only [decide_eq_true_eq,decide_eq_false_iff_not] at hi2
    ·obtain ⟨k,rfl⟩:∃ k,n=k+1:=⟨n - 1,by omega⟩;have hk1:((k+1:Nat):Int) - 1=(k:Int):=(by omega);rw [hk1];have hall2:=allA hcf hCl (butF (goneF gb es) k);rw [indGo] at hw;(conv=>whnf);repeat ((first|refine QCall.k0 (butA _ _ _) ?_|(refine QCall.k hall2 ?_));conv=>whnf)
     refine ⟨fun hq=>?_,fun hq=>?_⟩
     ·have hq:allB C (but (wOf es) k)=true:=hq;rw [if_pos hq,<- wOf_set] at hw;(conv=>whnf);repeat ((first|refine ⟨gP_of ⟨by omega,by omega⟩,?_⟩|(refine upA heqInt plainInt (.here _) ?_));conv=>whnf)
      exact ⟨_,_,Turn.refl _ _,_,Nat.lt_succ_self _,k,setA (k:Int) 1 es,rfl,rfl,rfl,by omega,hw⟩
     have hq:allB C (but (wOf es) k)=false:=hq;rw [if_neg (by rw [hq];decide)] at hw;(conv=>whnf);repeat (refine ⟨gP_of ⟨by omega,by omega⟩,?_⟩;conv=>whnf)
     exact ⟨_,_,Turn.refl _ _,_,Nat.lt_succ_self _,k,es,rfl,rfl,rfl,by omega,hw⟩
    have hn0:n=0:=(by omega);subst hn0;have hw:indW C N=wOf es:=hw;have hL:indL C N=((List.range N).filter (keepF (wOf es))).map fun n:Nat=>ndOf C (wOf es) n:=by unfold indL keepL;rw [hw,List.map_map];rfl
    rw [hL];(conv=>whnf);skip;refine tloop rfl mixed [4,6,8,44,45] [] (fun m r h=>∃ (i:Nat) (ov:AV) (oh:Heap),r=[(4,[],ov),(6,[],encCor C),(8,[],.fn 33 [.iptr [.omap gb]]),(44,[],.int .i64 (H.lex.entries.map encEnt).length),(45,[],.int .i64 i)]/\h=oh++[(gb,mapI es)]/\m=N - i/\i<=N/\Row 2 encNd (((List.range i).filter (keepF (wOf es))).map fun n:Nat=>ndOf C (wOf es) n) ov oh) ?_ ?_
    ·(conv=>whnf);exact ⟨_,_,Turn.weak (.cons nil_le_nilO (RLe.refl _)),_,0,.nilO,[],rfl,rfl,rfl,by omega,.inl ⟨rfl,rfl,rfl⟩⟩
    rintro m r h' ⟨i,ov,oh,rfl,rfl,rfl,hi,ho⟩;have hol:(((List.range i).filter (keepF (wOf es))).map fun n:Nat=>ndOf C (wOf es) n).length<=i:=by rw [List.length_map];exact filter_len i
    (conv=>whnf);refine ⟨fun hi2=>?_,fun hi2=>?_⟩<;>simp only [decide_eq_true_eq,decide_eq_false_iff_not] at hi2
    ·have hi3:i<N:=(by omega);have hgn:=goneF gb es i;have hnd:=needsA hcf hCl (goneF gb es) i;have hsn:=keepL_snoc (C:=C) (w:=wOf es) i;rcases ho with ⟨he,rfl,rfl⟩|⟨hne,b,rfl,rfl⟩
     ·(conv=>whnf);repeat ((refine QCall.k hgn ?_);conv=>whnf)
      refine ⟨fun hq=>?_,fun hq=>?_⟩
      ·have hq:wOf es i=true:=hq;rw [if_pos hq] at hsn;(conv=>whnf);repeat ((first|refine ⟨gP_of ⟨by omega,by omega⟩,?_⟩|(refine QCall.k hnd ?_)|(refine ⟨⟨Nat.le_of_ble_eq_true rfl,Nat.le_of_ble_eq_true rfl⟩,fun b'=>?_⟩));conv=>whnf)
       refine ⟨_,_,Turn.refl _ _,_,(by omega),i+1,_,[(b',_)],rfl,rfl,rfl,by omega,.inr ⟨by rw [hsn];simp,b',?_,?_⟩⟩
       ·rw [hsn,he];rfl
       rw [hsn,he];rfl
      have hq:wOf es i=false:=hq;rw [if_neg (by rw [hq];decide),List.append_nil] at hsn;(conv=>whnf);repeat (refine ⟨gP_of ⟨by omega,by omega⟩,?_⟩;conv=>whnf)
      exact ⟨_,_,Turn.refl _ _,_,(by omega),i+1,_,[],rfl,rfl,rfl,by omega,.inl ⟨by rw [hsn];exact he,rfl,rfl⟩⟩
     (conv=>whnf);repeat ((refine QCall.k (QCall.more hgn) ?_);conv=>whnf)
     refine ⟨fun hq=>?_,fun hq=>?_⟩
     ·have hq:wOf es i=true:=hq;rw [if_pos hq] at hsn;(conv=>whnf);repeat ((first|refine ⟨gP_of ⟨by omega,by omega⟩,?_⟩|(refine QCall.k (QCall.more hnd) ?_)|(refine ⟨_,.head _,⟨enc_len encNd_len,by unfold AMAX;simp only [List.length_cons,List.length_nil];omega⟩,fun b'=>⟨_,.here _,?_⟩⟩));conv=>whnf)
      refine ⟨_,_,Turn.refl _ _,_,(by omega),i+1,_,[(b',_)],rfl,rfl,rfl,by omega,.inr ⟨by rw [hsn];simp,b',?_,?_⟩⟩
      ·rw [hsn,List.length_append];rfl
      rw [hsn,List.map_append,List.flatten_append];rfl
     have hq:wOf es i=false:=hq;rw [if_neg (by rw [hq];decide),List.append_nil] at hsn;(conv=>whnf);repeat (refine ⟨gP_of ⟨by omega,by omega⟩,?_⟩;conv=>whnf)
     exact ⟨_,_,Turn.refl _ _,_,(by omega),i+1,_,[(b,_)],rfl,rfl,rfl,by omega,.inr ⟨by rw [hsn];exact hne,b,by rw [hsn],by rw [hsn]⟩⟩
    have hi3:i=N:=(by omega);subst hi3;(conv=>whnf);skip;exact ⟨_,_,_,rfl,ho,rfl⟩
 have he:indErr H lines=corErr H lines:=(by rw [indErr,if_pos h0]);rw [indR,he,if_neg h0];refine RowT.nilT ?_;refine fcalls (F:=Tryz.f12) c12 rfl rfl rfl mixed rfl fun X=>?_;(conv=>whnf);repeat (refine QCall.k0 (ho) ?_;conv=>whnf)
 refine cT (by simp [h0]) ?_;(conv=>whnf);skip
end Go.Abs.Wall.Lst
namespace Go.Abs.Wall.Lst
open Go Go.Abs Go.Proofs Go.Abs.Wall
def lnks (g:List (List Edg)):List (List Lnk):=g.map fun es=>es.map lnkOf
end Go.Abs.Wall.Lst
namespace Go.Abs.Wall.Lst
open Go Go.Abs Go.Proofs Go.Abs.Wall
theorem keepL_len (N:Nat) (w:Int->Bool):(keepL N w).length<=N:=by unfold keepL;rw [List.length_map];exact filter_len N
end Go.Abs.Wall.Lst
namespace Go.Abs.Wall.Lst
open Go Go.Abs Go.Proofs Go.Abs.Wall Go.Proofs.YtdjdbggpgmddnaaGreat.Br
def exN:Lex:=⟨[⟨[110,102,114],1,[103,111,111,100],1⟩,⟨[110],2,[],1⟩,⟨[110,102],2,[],1⟩,⟨[114],2,[],1⟩],exH.lex.endings,exH.lex.clitics⟩
def exI:Hou:={ exH with lex:=exN }
theorem okI:HouOK exI:=houOK (by decide +kernel)
structure NdFit (x:Nd):Prop where
 lines:x.lines.length<=1048576
theorem needsM_len (C:Cor) (w:Int->Bool) (e:Int):(needsM C w e).length<=C.length:=by unfold needsM;rw [List.length_map];exact filter_len _
theorem indR_fit {H:Hou} {lines:List (List Int)} (hf:CorFit H lines):(indR H lines).length<=1048576/\∀ x∈indR H lines,NdFit x:=by
 unfold indR;split
 ·rename_i h
  have h0:corErr H lines=0:=by
   unfold indErr at h;split at h
   ·rename_i h1;exact absurd h h1
   rename_i h1;simpa using h1
  have hN:H.lex.entries.length<=200:=(houOK (corErr_zero h0).1).lex.many.1;unfold indL;refine ⟨?_,fun x hx=>?_⟩
  ·rw [List.length_map];have:=keepL_len H.lex.entries.length (indW (corM H lines) H.lex.entries.length);omega
  obtain ⟨e,_,rfl⟩:=List.mem_map.1 hx;refine ⟨?_⟩;have:=needsM_len (corM H lines) (indW (corM H lines) H.lex.entries.length) e;rw [cor_len] at this;have:=hf.lines;show (needsM _ _ _).length<=_;omega
 simp
theorem induceW (H:Hou) (lines:List (List Int)) (hf:CorFit H lines):QCall Tryz.prog 12 [.agg (encHou H),.sl 1 none (lines.map encIs)] [] (.tup [.sl 2 none ((indR H lines).map encNd),.int .i64 (indErr H lines)]):=RowT.ok (by decide) encNd_len (InduceA H lines hf)
end Go.Abs.Wall.Lst
namespace Go.Abs.Wall.Lst
open Go Go.Abs Go.Proofs Go.Abs.Wall
theorem set_self {α:Type} {l:List α} {k:Nat} {v:α} (h:l[k]?=some v):l.set k v=l:=by
 refine List.ext_getElem? fun j=>?_;rw [List.getElem?_set];by_cases e:k=j
 ·subst e;rw [if_pos rfl,h];have:=(List.getElem?_eq_some_iff.1 h).1;rw [if_pos this]
 rw [if_neg e]
end Go.Abs.Wall.Lst
/-
 The abstract layer,part Z4: the library's sort of ints,by its contract.
-/
namespace Go.Abs
open Go Go.Sort
variable {P:Program} {X:Nat->Prop} {g0:Gh} {h:Heap} {w:World}
end Go.Abs
/-
 (No sort of numbers in this seat.)
-/
namespace Go.Abs.Wall.Lst
open Go Go.Abs Go.Proofs Go.Abs.Wall
def c121:Cfg:=⟨[0,2,4],[],[],[],[],[]⟩
def c144:Cfg:=⟨[0,2],[],[],[],[],[]⟩
def c166:Cfg:=⟨[0,2,4,8,14],[],[],[],[],[]⟩
end Go.Abs.Wall.Lst
namespace Go.Abs.Wall
open Go Go.Abs Go.Proofs Go.Proofs.YtdjdbggpgmddnaaGreat.Br
end Go.Abs.Wall
namespace Go.Abs.Wall
open Go Go.Abs Go.Proofs
theorem _root_.Go.Abs.VsLe.pre' {a b:List AV} (h:VsLe a b):∀ xs:List AV,VsLe (xs++a) (xs++b)
 | []=>h
 | x::xs=>.cons (VLe.refl x) (VsLe.pre' h xs)
theorem _root_.Go.Abs.VsLe.post':∀ {a b:List AV},VsLe a b->∀ xs:List AV,VsLe (a++xs) (b++xs)
 | _,_,.nil,xs=>VsLe.refl xs
 | _,_,.cons h1 h2,xs=>.cons h1 (h2.post' xs)
section
variable {α:Type} {k:Nat} {enc:α->List AV}
theorem flat_split (hk:∀ a,(enc a).length=k) {L:List α} {i:Nat} {x:α} (hx:L[i]?=some x):(L.map enc).flatten=((L.take i).map enc).flatten++(enc x++((L.drop (i+1)).map enc).flatten):=by have e:L=L.take i++x::L.drop (i+1):=(by rw [<- drop_cons hx,List.take_append_drop]);have:=congrArg (fun z=>(z.map enc).flatten) e;simpa using this
theorem flat_get (hk:∀ a,(enc a).length=k) {L:List α} {i j:Nat} {x:α} (hx:L[i]?=some x) (hj:j<k):(L.map enc).flatten[i*k+j]?=(enc x)[j]?:=by have hi:=(List.getElem?_eq_some_iff.1 hx).1;have hpre:((L.take i).map enc).flatten.length=i*k:=(by rw [flat_len hk,List.length_take,Nat.min_eq_left (by omega)]);rw [flat_split hk hx,List.getElem?_append_right (by omega),hpre,Nat.add_sub_cancel_left,List.getElem?_append_left (by rw [hk];exact hj)]
theorem flat_setle (hk:∀ a,(enc a).length=k) {L:List α} {i j:Nat} {x y:α} {v:AV} (hx:L[i]?=some x) (hj:j<k) (hv:VsLe ((enc x).set j v) (enc y)) :
  VsLe (setC (L.map enc).flatten (i*k+j) [v]) ((L.set i y).map enc).flatten:=by
 have hi:=(List.getElem?_eq_some_iff.1 hx).1;have hpre:((L.take i).map enc).flatten.length=i*k:=(by rw [flat_len hk,List.length_take,Nat.min_eq_left (by omega)]);have hlen:i*k+j<(L.map enc).flatten.length:=by rw [flat_len hk];have:=Nat.mul_le_mul_right k (show i+1<=L.length by omega);rw [Nat.succ_mul] at this;omega
 have hset:(L.set i y)[i]?=some y:=(by rw [List.getElem?_set_self hi]);rw [setC_row hlen,flat_split hk hx,flat_split hk hset,List.set_append,if_neg (by omega),hpre,Nat.add_sub_cancel_left,List.set_append,if_pos (by rw [hk];exact hj),List.take_set_of_le (Nat.le_refl _),List.drop_set_of_lt (Nat.lt_succ_self _)];exact VsLe.pre' (VsLe.post' hv _) _
end
theorem encSgn_len:∀ a,(encSgn a).length=5:=fun _=>rfl
end Go.Abs.Wall
namespace Go.Abs.Wall.Lst
open Go Go.Abs Go.Proofs Go.Abs.Wall
def c55:Cfg:=⟨[0,2,4],[5],[],[],[],[]⟩
def c56:Cfg:=⟨[0,2,4],[5],[],[],[],[]⟩
def c57:Cfg:=⟨[0,2,4],[5],[],[],[],[]⟩
def c58:Cfg:=⟨[0,2,4],[5],[],[],[],[]⟩
def c25:Cfg:=⟨[0,1,2,4,5,6,8,26,27,28,55,56,57,58],[],[4],[],[(2,[0,1,2,3,4,5,6,7,8,9],[]),(6,[0,1,2,3,4,5,6,7,8,9,10,11,12,13,14],[]),(8,[0,1,2,3,4,5,6,7,8,9,10],[]),(12,[0,1,2,3,4,5,6,7,8,9,10,11,12,13],[])],[20]⟩
def c29:Cfg:=⟨[0,1,4,5,6,7,8,9,10,31],[],[],[],[],[]⟩
def c55o:Cfg:=⟨c55.keep,[5,7],c55.frz,c55.spl,c55.ords,[5]⟩
theorem cloneV (l:List Val) (hl:l.length<=AMAX):QCall Tryz.prog 56 [.sl 4 none (l.map encVal)] [] (.sl 4 none (l.map encVal)):=by
 refine CloneP.ok (by decide) ?_;unfold AMAX at hl;by_cases h:l=[]
 ·subst h;refine ACalls.nilOr ?_ ?_
  ·refine fcalls (F:=Tryz.f56) c56 rfl rfl rfl mixed rfl fun X=>?_;(conv=>whnf);refine ⟨fun hc=>?_,fun hc=>?_⟩
   ·(conv=>whnf);exact .inl ⟨rfl,rfl,rfl⟩
   cases hc
  refine fcalls (F:=Tryz.f56) c56 rfl rfl rfl mixed rfl fun X=>?_;(conv=>whnf);refine ⟨fun hc=>?_,fun hc=>?_⟩
  ·cases hc
  (conv=>whnf);intro q;(conv=>whnf);refine ⟨by simp [AMAX],fun q'=>⟨_,.here _,?_⟩⟩;(conv=>whnf);exact .inr ⟨q',rfl,rfl⟩
 refine fcalls (F:=Tryz.f56) c56 rfl rfl rfl mixed rfl fun X=>?_;(conv=>whnf);refine ⟨map_ne h,?_⟩;(conv=>whnf);refine ⟨fun hc=>?_,fun hc=>?_⟩
 ·cases hc
 (conv=>whnf);intro q;(conv=>whnf);refine ⟨by simp [AMAX];omega,fun q'=>⟨_,.here _,?_⟩⟩;(conv=>whnf);exact .inr ⟨q',rfl,rfl⟩
theorem cloneEd (l:List Edn) (hl:l.length<=AMAX):QCall Tryz.prog 57 [.sl 4 none (l.map encEdn)] [] (.sl 4 none (l.map encEdn)):=by
 refine CloneP.ok (by decide) ?_;unfold AMAX at hl;by_cases h:l=[]
 ·subst h;refine ACalls.nilOr ?_ ?_
  ·refine fcalls (F:=Tryz.f57) c57 rfl rfl rfl mixed rfl fun X=>?_;(conv=>whnf);refine ⟨fun hc=>?_,fun hc=>?_⟩
   ·(conv=>whnf);exact .inl ⟨rfl,rfl,rfl⟩
   cases hc
  refine fcalls (F:=Tryz.f57) c57 rfl rfl rfl mixed rfl fun X=>?_;(conv=>whnf);refine ⟨fun hc=>?_,fun hc=>?_⟩
  ·cases hc
  (conv=>whnf);intro q;(conv=>whnf);refine ⟨by simp [AMAX],fun q'=>⟨_,.here _,?_⟩⟩;(conv=>whnf);exact .inr ⟨q',rfl,rfl⟩
 refine fcalls (F:=Tryz.f57) c57 rfl rfl rfl mixed rfl fun X=>?_;(conv=>whnf);refine ⟨map_ne h,?_⟩;(conv=>whnf);refine ⟨fun hc=>?_,fun hc=>?_⟩
 ·cases hc
 (conv=>whnf);intro q;(conv=>whnf);refine ⟨by simp [AMAX];omega,fun q'=>⟨_,.here _,?_⟩⟩;(conv=>whnf);exact .inr ⟨q',rfl,rfl⟩
theorem cloneCl (l:List Cli) (hl:l.length<=AMAX):QCall Tryz.prog 58 [.sl 3 none (l.map encCli)] [] (.sl 3 none (l.map encCli)):=by
 refine CloneP.ok (by decide) ?_;unfold AMAX at hl;by_cases h:l=[]
 ·subst h;refine ACalls.nilOr ?_ ?_
  ·refine fcalls (F:=Tryz.f58) c58 rfl rfl rfl mixed rfl fun X=>?_;(conv=>whnf);refine ⟨fun hc=>?_,fun hc=>?_⟩
   ·(conv=>whnf);exact .inl ⟨rfl,rfl,rfl⟩
   cases hc
  refine fcalls (F:=Tryz.f58) c58 rfl rfl rfl mixed rfl fun X=>?_;(conv=>whnf);refine ⟨fun hc=>?_,fun hc=>?_⟩
  ·cases hc
  (conv=>whnf);intro q;(conv=>whnf);refine ⟨by simp [AMAX],fun q'=>⟨_,.here _,?_⟩⟩;(conv=>whnf);exact .inr ⟨q',rfl,rfl⟩
 refine fcalls (F:=Tryz.f58) c58 rfl rfl rfl mixed rfl fun X=>?_;(conv=>whnf);refine ⟨map_ne h,?_⟩;(conv=>whnf);refine ⟨fun hc=>?_,fun hc=>?_⟩
 ·cases hc
 (conv=>whnf);intro q;(conv=>whnf);refine ⟨by simp [AMAX];omega,fun q'=>⟨_,.here _,?_⟩⟩;(conv=>whnf);exact .inr ⟨q',rfl,rfl⟩
theorem cloneSgQ (l:List Sgn) (hl:l.length<=AMAX):QCall Tryz.prog 55 [.sl 5 none (l.map encSgn)] [] (.sl 5 none (l.map encSgn)):=by
 refine CloneP.ok (by decide) ?_;unfold AMAX at hl;by_cases h:l=[]
 ·subst h;refine ACalls.nilOr ?_ ?_
  ·refine fcalls (F:=Tryz.f55) c55 rfl rfl rfl mixed rfl fun X=>?_;(conv=>whnf);refine ⟨fun hc=>?_,fun hc=>?_⟩
   ·(conv=>whnf);exact .inl ⟨rfl,rfl,rfl⟩
   cases hc
  refine fcalls (F:=Tryz.f55) c55 rfl rfl rfl mixed rfl fun X=>?_;(conv=>whnf);refine ⟨fun hc=>?_,fun hc=>?_⟩
  ·cases hc
  (conv=>whnf);intro q;(conv=>whnf);refine ⟨by simp [AMAX],fun q'=>⟨_,.here _,?_⟩⟩;(conv=>whnf);exact .inr ⟨q',rfl,rfl⟩
 refine fcalls (F:=Tryz.f55) c55 rfl rfl rfl mixed rfl fun X=>?_;(conv=>whnf);refine ⟨map_ne h,?_⟩;(conv=>whnf);refine ⟨fun hc=>?_,fun hc=>?_⟩
 ·cases hc
 (conv=>whnf);intro q;(conv=>whnf);refine ⟨by simp [AMAX];omega,fun q'=>⟨_,.here _,?_⟩⟩;(conv=>whnf);exact .inr ⟨q',rfl,rfl⟩
theorem cloneSgO (l:List Sgn) (hl:l.length<=1048576) (hne:l≠[]) :
  ACalls Tryz.prog 55 [.sl 5 none (l.map encSgn)] [] (fun v h'=>∃ b,v=.osl b 0 l.length 5/\h'=[(b,.vec (l.map encSgn).flatten)]):=by
 refine ACalls.post (R:=fun v h'=>∃ b Z,v=.osl b 0 l.length 5/\h'=(b,.vec (l.map encSgn).flatten)::Z) ?_ ?_
 ·refine fcalls (F:=Tryz.f55) c55o rfl rfl rfl mixed rfl fun X=>?_;(conv=>whnf);refine ⟨map_ne hne,?_⟩;(conv=>whnf);refine ⟨fun hc=>?_,fun hc=>?_⟩
  ·cases hc
  (conv=>whnf);intro b;(conv=>whnf);repeat ((refine ⟨⟨⟨_,.head _⟩,by rw [List.length_map];exact List.length_pos_iff.2 hne,by rw [List.length_map];unfold AMAX;omega⟩,fun q=>?_⟩);conv=>whnf)
  exact ⟨q,_,by rw [List.length_map];rfl,rfl⟩
 rintro v h1 ⟨b,Z,rfl,rfl⟩;refine ⟨_,[(b,.vec (l.map encSgn).flatten)],⟨b,rfl,rfl⟩,VLe.refl _,fun k o hm=>?_,fun hn=>by simp [keys]⟩;rw [List.mem_singleton] at hm;rw [hm];exact List.mem_cons_self ..
def SgRow (l:List Sgn) (sv:AV) (oh:Heap):Prop:=(l=[]/\sv=.sl 5 none []/\oh=[])\/(l≠[]/\∃ b,sv=.osl b 0 l.length 5/\oh=[(b,.vec (l.map encSgn).flatten)])
theorem cloneSg (l:List Sgn) (hl:l.length<=1048576):ACalls Tryz.prog 55 [.sl 5 none (l.map encSgn)] [] (SgRow l):=by
 by_cases h:l=[]
 ·subst h;exact QCall.k (cloneSgQ [] (by unfold AMAX;simp)) (.inl ⟨rfl,rfl,rfl⟩)
 refine ACalls.mono ?_ (cloneSgO l hl h);rintro v h' ⟨b,rfl,rfl⟩;exact .inr ⟨h,b,rfl,rfl⟩
def onlyC (H:Hou) (sv ev:AV):List AV:=[.int .i64 H.list.periods,sv]++([ev,.sl 4 none (H.lex.endings.map encEdn),.sl 3 none (H.lex.clitics.map encCli)]++(encCos H.costs++[.int .i64 H.period]))
def onlyC0 (H:Hou) (sv:AV):List AV:=[.int .i64 H.list.periods,sv]++([.nilS,.nilS,.nilS]++(encCos H.costs++[.int .i64 H.period]))
def zeroC:List AV:=[.int .i64 0,.nilS,.nilS,.nilS,.nilS,.int .i64 0,.int .i64 0,.int .i64 0,.int .i64 0,.int .i64 0,.int .i64 0]
theorem flat_same {L:List Sgn} {i:Nat} {x:Sgn} (hx:L[i]?=some x):VsLe (setC (L.map encSgn).flatten (0+i*5+4) [.sl 4 none (x.values.map encVal)]) (L.map encSgn).flatten:=by have h:=flat_setle encSgn_len hx (j:=4) (y:=x) (v:=.sl 4 none (x.values.map encVal)) (by decide) (VsLe.refl _);rw [set_self hx] at h;rw [Nat.zero_add];exact h
theorem rem_last {b:Nat} {o:Ob}:∀ Z:Heap,Rem b o (Z++[(b,o)]) Z
 | []=>.here _
 | x::Z=>.there (rem_last Z)
theorem onlyA (H:Hou) (keep:List Int) (hf:HouFit H) (hs:H.list.signs.length<=1048576) (hv:∀ s∈H.list.signs,s.values.length<=1048576) (he:H.lex.endings.length<=1048576) (hc:H.lex.clitics.length<=1048576) (hk:keep.length<=1048576) (hin:∀ k∈keep,0<=k/\k<H.lex.entries.length) :
  QCall Tryz.prog 25 [.agg (encHou H),.sl 1 none (ints keep)] [] (.agg (encHou (onlyH H keep))):=by
 refine QCall.of (ACalls.frzOr (R:=fun v h'=>∃ sv oh ev Z,SgRow H.list.signs sv oh/\v=.agg (onlyC H sv ev)/\VLe ev (.sl 4 none ((keep.map (entAt H.lex)).map encEnt))/\h'=Z++oh) ?_ ?_)
 ·refine fcalls (F:=Tryz.f25) c25 rfl rfl rfl mixed rfl fun X=>?_;(conv=>whnf);repeat ((first|refine ⟨_,_,.here _,leOK,?_⟩|refine And.intro (by show drawOK (opsAt Tryz.f25 _) _=true;decide +kernel) ?_|intro (nb:Nat));conv=>whnf)
  rename_i tb
  rename Nat=>nb
  refine ACalls.mono ?_ (ACalls.frame (cloneSg H.list.signs hs) _);rintro v h' ⟨oh,hrow,rfl⟩;rcases hrow with ⟨h1,rfl,rfl⟩|⟨h1,b,rfl,rfl⟩
  all_goals
   repeat ((first|refine ⟨_,_,.head _,rfl,?_⟩|refine ⟨_,_,.tail _ (.head _),rfl,?_⟩|refine ⟨_,_,.here _,leOK,?_⟩|refine ⟨_,_,.there (.here _),leOK,?_⟩);conv=>whnf)
   refine tloop rfl mixed [1,2,4,5,26,27] [] (fun m r h=>∃ (i:Nat) (sv:AV) (oh:Heap),r=[(1,[],.sl 1 none (ints keep)),(2,[],.iptr (encHou H)),(4,[],.optr tb 0),(5,[],.optr nb 0),(26,[],.int .i64 H.list.signs.length),(27,[],.int .i64 i)]/\h=(nb,.vec (onlyC0 H sv))::(tb,.vec zeroC)::oh/\m=H.list.signs.length - i/\i<=H.list.signs.length/\SgRow H.list.signs sv oh) ?_ ?_
   ·conv=>whnf
    first
     | exact ⟨_,_,Turn.refl _ _,_,0,.sl 5 none [],[],by rw [h1];rfl,rfl,rfl,Nat.zero_le _,.inl ⟨h1,rfl,rfl⟩⟩
     | exact ⟨_,_,Turn.sub (h':=[(nb,_),(tb,_),(b,_)]) (by intro k o hm;simp only [List.mem_cons,List.not_mem_nil,or_false] at hm ⊢;rcases hm with h|h|h;exact .inr (.inl h);exact .inr (.inr h);exact .inl h) (by simp [keys];grind),_,0,.osl b 0 H.list.signs.length 5,[(b,.vec (H.list.signs.map encSgn).flatten)],rfl,rfl,rfl,Nat.zero_le _,.inr ⟨h1,b,rfl,rfl⟩⟩
   rintro m r h' ⟨i,sv,oh,rfl,rfl,rfl,hi,hrow⟩;(conv=>whnf);refine ⟨fun hi2=>?_,fun hi2=>?_⟩<;>simp at hi2
   ·rcases hrow with ⟨h1,rfl,rfl⟩|⟨h1,b,rfl,rfl⟩
    ·rw [h1] at hi2;simp at hi2
    obtain ⟨s,hsx⟩:=get_lt hi2;have hsv:=hv s (List.mem_of_getElem? hsx);have hld:(H.list.signs.map encSgn).flatten[0+i*5+4]?=some (.sl 4 none (s.values.map encVal)):=by rw [Nat.zero_add];exact flat_get encSgn_len hsx (by decide)
    have hlen:0+i*5+4+1<=(H.list.signs.map encSgn).flatten.length:=by rw [flat_len encSgn_len];omega
    (conv=>whnf);repeat ((first|refine ⟨gP_of ⟨by omega,by omega⟩,?_⟩|(refine ixo (i:=i) (by omega) ?_)|(refine ldo (v:=.sl 4 none (s.values.map encVal)) (.tail _ (.tail _ (.head _))) rfl hld ?_)|refine gcall (cloneV s.values (by unfold AMAX;omega)) ?_|(refine ⟨_,_,.there (.there (.here _)),⟨Nat.le_of_ble_eq_true rfl,hlen⟩,?_⟩)|refine ⟨_,_,.head _,rfl,?_⟩|refine And.intro (by show drawOK (opsAt Tryz.f25 _) _=true;decide +kernel) ?_);conv=>whnf)
    exact ⟨_,_,Turn.cells (.there (.there (.here _))) (flat_same hsx),_,(by omega),i+1,_,_,rfl,rfl,rfl,by omega,.inr ⟨h1,b,rfl,rfl⟩⟩
   (conv=>whnf);repeat ((first|refine gcall (cloneEd H.lex.endings (by unfold AMAX;omega)) ?_|refine gcall (cloneCl H.lex.clitics (by unfold AMAX;omega)) ?_|refine ⟨_,_,.here _,leOK,?_⟩|refine And.intro (by show drawOK (opsAt Tryz.f25 _) _=true;decide +kernel) ?_);conv=>whnf)
   refine tloop rfl mixed [2,4,5,55,56,57] [] (fun m r h=>∃ (j:Nat) (ev:AV) (eh:Heap),r=[(2,[],.iptr (encHou H)),(4,[],.optr tb 0),(5,[],.optr nb 0),(55,[],.sl 1 none (ints keep)),(56,[],.int .i64 (ints keep).length),(57,[],.int .i64 j)]/\h=(nb,.vec (onlyC H sv ev))::(tb,.vec zeroC)::(eh++oh)/\m=keep.length - j/\j<=keep.length/\Out 4 encEnt ((keep.take j).map (entAt H.lex)) ev eh) ?_ ?_
   ·(conv=>whnf);exact ⟨_,_,Turn.refl _ _,_,0,.nilS,[],rfl,rfl,rfl,by omega,.inl ⟨rfl,rfl,rfl⟩⟩
   rintro m r h' ⟨j,ev,eh,rfl,rfl,rfl,hj,ho⟩;(conv=>whnf);refine ⟨fun hj2=>?_,fun hj2=>?_⟩<;>rw [ints_length] at hj2<;>simp at hj2
   ·obtain ⟨x,hx⟩:=get_lt hj2;have hxr:=hin x (List.mem_of_getElem? hx);have hxe:=entAt_get (x:=H.lex) hxr.1 hxr.2;have hsn:(keep.take (j+1)).map (entAt H.lex)=(keep.take j).map (entAt H.lex)++[entAt H.lex x]:=by rw [take_snoc hx,List.map_append];rfl
    have hol:((keep.take j).map (entAt H.lex)).length<=1048576:=by rw [List.length_map,List.length_take];omega
    rcases ho with ⟨he3,rfl,rfl⟩|⟨q,rfl,rfl⟩
    ·(conv=>whnf);repeat ((first|refine ⟨gP_of ⟨by omega,by omega⟩,?_⟩|refine ix (by assumption) ?_|(refine ixn (enc:=encEnt) x.toNat (by show x=_;omega) hxe ?_)|(refine ⟨Nat.le_of_ble_eq_true rfl,fun q'=>?_⟩)|(refine ⟨_,_,.there (.here _),leOK,?_⟩)|refine ⟨_,_,.head _,rfl,?_⟩|refine And.intro (by show drawOK (opsAt Tryz.f25 _) _=true;decide +kernel) ?_);conv=>whnf)
     refine ⟨_,_,Turn.sub (h':=(nb,.vec (onlyC H sv (.sl 4 (some q') [encEnt (entAt H.lex x)])))::(tb,.vec zeroC)::([(q',.tok)]++oh)) ?_ ?_,_,(by omega),j+1,.sl 4 (some q') [encEnt (entAt H.lex x)],[(q',.tok)],rfl,rfl,rfl,by omega,.inr ⟨q',?_,rfl⟩⟩
     ·intro k o hm;simp only [List.mem_cons,List.mem_append,List.not_mem_nil,or_false,List.nil_append] at hm ⊢;rcases hm with h|h|h|h
      ·exact .inr (.inl h)
      ·exact .inr (.inr (.inl h))
      ·exact .inl h
      exact .inr (.inr (.inr h))
     ·simp [keys]
      grind
     rw [hsn,he3];rfl
    (conv=>whnf);repeat ((first|refine ⟨gP_of ⟨by omega,by omega⟩,?_⟩|refine ix (by assumption) ?_|(refine ixn (enc:=encEnt) x.toNat (by show x=_;omega) hxe ?_)|(refine ⟨(by rw [List.length_append,List.length_map];simp at hol ⊢;unfold AMAX;omega),fun q'=>⟨_,.there (.there (.here _)),?_⟩⟩)|refine ⟨_,_,.head _,rfl,?_⟩|refine ⟨_,_,.here _,leOK,?_⟩|refine And.intro (by show drawOK (opsAt Tryz.f25 _) _=true;decide +kernel) ?_);conv=>whnf)
    exact ⟨_,_,Turn.refl _ _,_,(by omega),j+1,.sl 4 (some q') (((keep.take j).map (entAt H.lex)).map encEnt++[encEnt (entAt H.lex x)]),[(q',.tok)],rfl,rfl,rfl,by omega,.inr ⟨q',by rw [hsn,List.map_append];rfl,rfl⟩⟩
   rw [List.take_of_length_le hj2] at ho;(conv=>whnf);repeat ((first|(refine ⟨⟨Nat.le_of_ble_eq_true rfl,rfl⟩,?_⟩)|refine ⟨_,_,Rem.there (.here _),?_⟩|refine ⟨_,_,.head _,rfl,?_⟩);conv=>whnf)
   exact ⟨sv,oh,ev,(nb,.vec (onlyC H sv ev))::eh,hrow,rfl,ho.le (by decide),rfl⟩
 rintro v h1 ⟨sv,oh,ev,Z,hrow,rfl,hev,rfl⟩;rcases hrow with ⟨h1,rfl,rfl⟩|⟨h1,b,rfl,rfl⟩
 ·left;show VLe _ (.agg (encHou (onlyH H keep)));refine VLe.agg (.cons (VLe.refl _) (.cons ?_ (.cons hev (VsLe.refl _))));rw [show (onlyH H keep).list.signs=[] from h1];exact VLe.refl _
 right;exact ⟨b,_,_,_,_,rem_last Z,FzH.refl _,.agg (.cons (.refl _) (.cons (fzEnc encSgn_len rfl) (.cons (.le hev) (FzVs.refl _)))),VLe.refl _⟩
end Go.Abs.Wall.Lst
namespace Go.Abs.Wall.Lst
open Go Go.Abs Go.Proofs Go.Abs.Wall
end Go.Abs.Wall.Lst
