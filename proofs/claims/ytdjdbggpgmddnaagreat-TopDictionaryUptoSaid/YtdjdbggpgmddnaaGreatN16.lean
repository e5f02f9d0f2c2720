/- Small laws for the walks and contracts of functions; each theorem names its conditions. -/
import Derived.Test.YtdjdbggpgmddnaaGreatN15
import Derived.Test.YtdjdbggpgmddnaaGreatRows
import Derived.Test.YtdjdbggpgmddnaaGreatN10
import Derived.WalkKit
import Derived.ProofKit
import Derived.OpenShut
import Derived.JoinedCond
import Derived.ReadAgain
import Derived.ChangeStays
import Derived.Test.YtdjdbggpgmddnaaGreatN13
import Derived.Test.YtdjdbggpgmddnaaGreatN1
set_option maxRecDepth 100000
set_option maxHeartbeats 2000000
set_option linter.unusedVariables false
set_option linter.unusedSimpArgs false
namespace Go.Abs.Wall
open Go Go.Abs Go.Proofs
abbrev Cor:=List (List (List Lnk))
def allB (C:Cor) (w:Int->Bool):Bool:=C.all (rdM w)
def but (w:Int->Bool) (e:Int):Int->Bool:=fun x=>!decide (x=e)&&w x
def everyW:Int->Bool:=fun _=>true
def memW (keep:List Int):Int->Bool:=fun x=>decide (x∈keep)
def needsF (C:Cor) (w:Int->Bool) (e:Int) (i:Nat):Bool:=rdM w (C.getD i [])&&!rdM (but w e) (C.getD i [])
def needsM (C:Cor) (w:Int->Bool) (e:Int):List Int:=((List.range C.length).filter (needsF C w e)).map fun i:Nat=>(i:Int)
structure Nd where
 entry:Int
 lines:List Int
deriving DecidableEq
def indGo (C:Cor):Nat->(Int->Bool)->(Int->Bool)
 | 0,w=>w
 | e+1,w=>indGo C e (if allB C (but w e)=true then but w e else w)
def indW (C:Cor) (N:Nat):Int->Bool:=indGo C N everyW
def keepF (w:Int->Bool) (i:Nat):Bool:=w (i:Int)
def keepL (N:Nat) (w:Int->Bool):List Int:=((List.range N).filter (keepF w)).map fun i:Nat=>(i:Int)
def ndOf (C:Cor) (w:Int->Bool) (e:Int):Nd:=⟨e,needsM C w e⟩
def indL (C:Cor) (N:Nat):List Nd:=(keepL N (indW C N)).map (ndOf C (indW C N))
structure COK (N:Nat) (C:Cor):Prop where
 links:∀ g∈C,LOK g
 ents:∀ g∈C,∀ es∈g,∀ x∈es,0<=x.entry/\x.entry<N
theorem keepL_mem {N:Nat} {w:Int->Bool} {x:Int}:x∈keepL N w↔0<=x/\x<N/\w x=true:=by
 unfold keepL keepF;rw [List.mem_map];constructor
 ·rintro ⟨i,hi,rfl⟩;rw [List.mem_filter,List.mem_range] at hi;exact ⟨by omega,by omega,hi.2⟩
 rintro ⟨h0,h1,h2⟩;refine ⟨x.toNat,?_,by omega⟩;rw [List.mem_filter,List.mem_range];exact ⟨by omega,by show w (x.toNat:Int)=true;rw [show (x.toNat:Int)=x by omega];exact h2⟩
theorem keepL_up {N:Nat} {w:Int->Bool}:(keepL N w).Pairwise (·<·):=by unfold keepL;rw [List.pairwise_map];refine List.Pairwise.filter _ ?_;exact List.pairwise_lt_range.imp fun h=>by omega
theorem up_unique:∀ {a b:List Int},a.Pairwise (·<·)->b.Pairwise (·<·)->(∀ x,x∈a↔x∈b)->a=b
 | [],[],_,_,_=>rfl
 | [],y::b,_,_,h=>absurd ((h y).2 (List.mem_cons_self ..)) (by simp)
 | x::a,[],_,_,h=>absurd ((h x).1 (List.mem_cons_self ..)) (by simp)
 | x::a,y::b,ha,hb,h=>by
   rw [List.pairwise_cons] at ha hb;have h1:=(h x).1 (List.mem_cons_self ..);have h2:=(h y).2 (List.mem_cons_self ..)
   have hxy:x=y:=by
    rcases List.mem_cons.1 h1 with e|h1
    ·exact e
    rcases List.mem_cons.1 h2 with e|h2
    ·exact e.symm
    have:=hb.1 x h1;have:=ha.1 y h2;omega
   subst hxy;rw [up_unique ha.2 hb.2 fun z=>⟨fun hz=>?_,fun hz=>?_⟩]
   ·have:=ha.1 z hz;rcases List.mem_cons.1 ((h z).1 (List.mem_cons_of_mem _ hz)) with e|h3
    ·omega
    exact h3
   have:=hb.1 z hz;rcases List.mem_cons.1 ((h z).2 (List.mem_cons_of_mem _ hz)) with e|h3
   ·omega
   exact h3
theorem rdM_mem {N:Nat} {C:Cor} (hc:COK N C) {w:Int->Bool} {g:List (List Lnk)} (hg:g∈C):rdM (memW (keepL N w)) g=rdM w g:=by refine rdM_congr (hc.links g hg) fun es hes x hx=>?_;have h1:=hc.ents g hg es hes x hx;rw [Bool.eq_iff_iff];unfold memW;rw [decide_eq_true_eq,keepL_mem];exact ⟨fun h=>h.2.2,fun h=>⟨h1.1,h1.2,h⟩⟩
theorem allB_congr {C:Cor} {w w':Int->Bool} (h:∀ g∈C,rdM w g=rdM w' g):allB C w=allB C w':=by unfold allB;rw [Bool.eq_iff_iff,List.all_eq_true,List.all_eq_true];exact ⟨fun h1 g hg=>by rw [<- h g hg];exact h1 g hg,fun h1 g hg=>by rw [h g hg];exact h1 g hg⟩
theorem allB_mem {N:Nat} {C:Cor} (hc:COK N C) (w:Int->Bool):allB C (memW (keepL N w))=allB C w:=allB_congr fun g hg=>rdM_mem hc hg
theorem without_keep (N:Nat) (w:Int->Bool) (e:Int):(keepL N w).filter (fun x=>!decide (x=e))=keepL N (but w e):=by
 refine up_unique (keepL_up.filter _) keepL_up fun x=>?_;rw [List.mem_filter,keepL_mem,keepL_mem];unfold but;simp;constructor
 ·rintro ⟨⟨a,b,c⟩,d⟩;exact ⟨a,b,d,c⟩
 rintro ⟨a,b,d,c⟩;exact ⟨⟨a,b,c⟩,d⟩
theorem getD_mem {C:Cor} {i:Nat} (hi:i<C.length):C.getD i []∈C:=by rw [List.getD_eq_getElem?_getD,List.getElem?_eq_getElem hi];exact List.getElem_mem hi
theorem needsM_congr {C:Cor} {w w':Int->Bool} {e:Int} (h:∀ g∈C,rdM w g=rdM w' g) (h2:∀ g∈C,rdM (but w e) g=rdM (but w' e) g):needsM C w e=needsM C w' e:=by unfold needsM;congr 1;refine List.filter_congr fun i hi=>?_;have hm:=getD_mem (List.mem_range.1 hi);unfold needsF;rw [h _ hm,h2 _ hm]
theorem but_mem (keep:List Int) (e:Int):but (memW keep) e=memW (keep.filter fun x=>!decide (x=e)):=by funext x;rw [Bool.eq_iff_iff];unfold but memW;simp;exact ⟨fun h=>⟨h.2,h.1⟩,fun h=>⟨h.2,h.1⟩⟩
theorem needsM_mem {N:Nat} {C:Cor} (hc:COK N C) (w:Int->Bool) (e:Int):needsM C (memW (keepL N w)) e=needsM C w e:=
 needsM_congr (fun g hg=>rdM_mem hc hg) fun g hg=>by rw [but_mem,without_keep,rdM_mem hc hg]
theorem but_le {w w':Int->Bool} (e:Int) (h:∀ x,w x=true->w' x=true):∀ x,but w e x=true->but w' e x=true:=by intro x hx;unfold but at hx ⊢;rw [Bool.and_eq_true] at hx ⊢;exact ⟨hx.1,h x hx.2⟩
theorem but_sub (w:Int->Bool) (e:Int):∀ x,but w e x=true->w x=true:=by intro x hx;unfold but at hx;rw [Bool.and_eq_true] at hx;exact hx.2
theorem allB_mono {N:Nat} {C:Cor} (hc:COK N C) {w w':Int->Bool} (h:∀ x,w x=true->w' x=true) (ha:allB C w=true):allB C w'=true:=by unfold allB at ha ⊢;rw [List.all_eq_true] at ha ⊢;exact fun g hg=>rdM_mono (hc.links g hg) (fun _ _ x _=>h x.entry) (ha g hg)
theorem indGo_le {C:Cor}:∀ (n:Nat) (w:Int->Bool) (x:Int),indGo C n w x=true->w x=true
 | 0,w,x,h=>h
 | n+1,w,x,h=>by
   unfold indGo at h;have:=indGo_le n _ x h;split at this
   ·exact but_sub w n x this
   exact this
theorem indGo_ge {C:Cor}:∀ (n:Nat) (w:Int->Bool) (x:Int),(n:Int)<=x->indGo C n w x=w x
 | 0,w,x,h=>rfl
 | n+1,w,x,h=>by
   unfold indGo;rw [indGo_ge n _ x (by omega)];split
   ·unfold but;rw [decide_eq_false (by omega)];rfl
   rfl
theorem indGo_all {C:Cor}:∀ (n:Nat) (w:Int->Bool),allB C w=true->allB C (indGo C n w)=true
 | 0,w,h=>h
 | n+1,w,h=>by
   unfold indGo;refine indGo_all n _ ?_;split
   ·assumption
   exact h
theorem indGo_need {N:Nat} {C:Cor} (hc:COK N C):∀ (n:Nat) (w:Int->Bool) (e:Nat),e<n->indGo C n w e=true->allB C (but (indGo C n w) e)=false
 | 0,w,e,h,_=>absurd h (by omega)
 | n+1,w,e,h,hk=>by
   by_cases he:e<n
   ·unfold indGo at hk ⊢;exact indGo_need hc n _ e he hk
   have:e=n:=(by omega);subst this;have hk0:=hk;unfold indGo at hk;rw [indGo_ge e _ e (by omega)] at hk;cases ha:allB C (but w e) with
   | true=>
     rw [if_pos ha] at hk;unfold but at hk;simp at hk
   | false=>
     cases hb:allB C (but (indGo C (e+1) w) e) with
     | false=>rfl
     | true=>
       have:=allB_mono hc (but_le e (indGo_le (C:=C) (e+1) w)) hb;rw [ha] at this;cases this
theorem needsM_some {N:Nat} {C:Cor} {w:Int->Bool} {e:Int} (h:allB C w=true) (h2:allB C (but w e)=false):needsM C w e≠[]:=by
 intro hn;unfold needsM at hn;rw [List.map_eq_nil_iff,List.filter_eq_nil_iff] at hn;have:allB C (but w e)=true:=by unfold allB at h ⊢;rw [List.all_eq_true] at h ⊢;intro g hg;obtain ⟨i,hi⟩:=List.mem_iff_getElem?.1 hg;have hlt:=(List.getElem?_eq_some_iff.1 hi).1;have h3:=hn i (List.mem_range.2 hlt);unfold needsF at h3;have hgd:C.getD i []=g:=getD_of hi;rw [hgd,h g hg] at h3;simpa using h3
 rw [h2] at this;cases this
theorem indL_need {N:Nat} {C:Cor} (hc:COK N C) (h:allB C everyW=true):∀ x∈indL C N,x.lines≠[]:=by intro x hx;obtain ⟨e,he,rfl⟩:=List.mem_map.1 hx;obtain ⟨h0,h1,h2⟩:=keepL_mem.1 he;refine needsM_some (N:=N) (indGo_all N everyW h) ?_;have:=indGo_need hc N everyW e.toNat (by omega) (by rw [show ((e.toNat:Nat):Int)=e by omega];exact h2);rwa [show ((e.toNat:Nat):Int)=e by omega] at this
end Go.Abs.Wall
namespace Go.Abs.Wall
open Go Go.Abs Go.Proofs
inductive Toe (g:List (List Lnk)):Nat->Prop
 | fin:Toe g g.length
 | step {i:Nat} {es:List Lnk} {x:Lnk}:g[i]?=some es->x∈es->Toe g x.to.toNat->Toe g i
theorem nodup_sub_len {α:Type} [DecidableEq α]:∀ {a b:List α},a.Nodup->(∀ x∈a,x∈b)->a.length<=b.length
 | [],b,_,_=>Nat.zero_le _
 | x::a,b,hn,h=>by
   rw [List.nodup_cons] at hn;have hx:=h x (List.mem_cons_self ..);have:=nodup_sub_len (a:=a) (b:=b.erase x) hn.2 fun y hy=>by have hyx:y≠x:=fun e=>hn.1 (e ▸ hy);exact (List.mem_erase_of_ne hyx).2 (h y (List.mem_cons_of_mem _ hy))
   rw [List.length_erase_of_mem hx] at this;have:0<b.length:=List.length_pos_of_mem hx;simp;omega
end Go.Abs.Wall
namespace Go.Abs.Wall
open Go Go.Abs Go.Proofs
theorem Toe.mono {g g':List (List Lnk)} (hl:g.length=g'.length) (h:∀ (i:Nat) es x,g[i]?=some es->x∈es->∃ es',g'[i]?=some es'/\∃ y∈es',y.to=x.to) {j:Nat} (hr:Toe g j):Toe g' j:=by
 induction hr with
 | fin=>rw [hl];exact .fin
 | step h1 h2 h3 ih=>
   obtain ⟨es',e1,y,e2,e3⟩:=h _ _ _ h1 h2;rw [<- e3] at ih;exact .step e1 e2 ih
end Go.Abs.Wall
namespace Go.Abs.Wall
open Go Go.Abs Go.Proofs
def wantAll (a k:Nat):Bool:=true
def lastT:List Bool->Nat->Nat->Nat
 | [],_,far=>far
 | b::t,i,far=>lastT t (i+1) (if b=true then i else far)
def reachL (H:Hou) (line:List Int):Int:=if growErr H line=0 then lastT (reachM (graphM H line) wantAll) 0 0 else 0
end Go.Abs.Wall
namespace Go.Abs.Wall
open Go Go.Abs Go.Proofs
end Go.Abs.Wall
namespace Go.Abs.Wall
open Go Go.Abs Go.Proofs
def c102:Cfg:=⟨[0,1,4,5,6,7,8,9,21,22,23,24,28,29,30,31,44],[],[9],[],[],[]⟩
def c103:Cfg:=⟨[4],[],[],[],[],[]⟩
def c65:Cfg:=⟨[0,1,2,4,5,6,7,8,9,10,18,21,22,23,24,28],[],[],[],[],[]⟩
theorem allW (a k:Nat):QCall Tryz.prog 103 [.int .i64 a,.int .i64 k] [] (.bool (wantAll a k)):=by refine fcalls (F:=Tryz.f103) c103 rfl rfl rfl mixed rfl fun X=>?_;(conv=>whnf);exact ⟨rfl,rfl⟩
theorem reachedW (g:List (List Edg)) (f:FuncId) (caps:List AV) (want:Nat->Nat->Bool) (hg:GOK g) (hw:∀ a k:Nat,QCall Tryz.prog f (.int .i64 a::.int .i64 k::caps) [] (.bool (want a k))) :
  QCall Tryz.prog 102 [.iptr (encForest g (restT g)),.fn f caps] [] (.sl 1 none ((reachM g want).map encB)):=by
 have hfew:=hg.few;have hrl:=restT_len g;refine boolRow (h:=[]) (reachM_len g _) ?_;refine fcalls (F:=Tryz.f102) c102 rfl rfl rfl mixed rfl fun X=>?_;(conv=>whnf);repeat ((refine ⟨⟨rfl,by rw [ints_length];omega,by rw [ints_length];omega⟩,fun b=>?_⟩);conv=>whnf)
 rw [boolRow0,show (((ints (restT g)).length:Int)).toNat=g.length+1 by rw [ints_length];omega];repeat ((first|(refine ixo (i:=0) (by omega) ?_)|(refine stE true (by decide) encB_len (i:=0) (by simp) (Nat.zero_add _) rfl (.here _) ?_));conv=>whnf)
 obtain ⟨l0,hl0⟩:∃ l,l=(List.replicate (g.length+1) false).set 0 true:=⟨_,rfl⟩;have hrm:reachM g want=reachGo want g 0 l0:=by rw [hl0];rfl
 rw [<- hl0,hrm];refine sloop rfl mixed [1,5,21,22,23] [] (fun m r h=>∃ (i:Nat) (l:List Bool),r=[(1,[],.fn f caps),(5,[],.osl b 0 (g.length+1) 1),(21,[],.sl 1 none (g.map encEdgs)),(22,[],.int .i64 (g.map encEdgs).length),(23,[],.int .i64 i)]/\h=[(b,.vec (l.map encB).flatten)]/\m=g.length - i/\i<=g.length/\l.length=g.length+1/\reachGo want g 0 l0=reachGo want (g.drop i) i l) ?_ ?_
 ·(conv=>whnf);exact ⟨_,0,l0,rfl,rfl,rfl,by omega,by rw [hl0];simp,rfl⟩
 rintro m r h ⟨i,l,rfl,rfl,rfl,hi,hl,hgo⟩;(conv=>whnf);refine ⟨fun hi2=>?_,fun hi2=>?_⟩<;>simp at hi2
 ·obtain ⟨es,hes⟩:=get_lt hi2;have hmany:=hg.many i es hes;rw [drop_cons hes,reachGo] at hgo;(conv=>whnf);repeat (refine ix (by assumption) ?_;conv=>whnf)
  refine sloop rfl mixed [1,5,6,21,22,23,28,29,30] [] (fun m r h=>∃ (k:Nat) (l:List Bool),r=[(1,[],.fn f caps),(5,[],.osl b 0 (g.length+1) 1),(6,[],.int .i64 i),(21,[],.sl 1 none (g.map encEdgs)),(22,[],.int .i64 (g.map encEdgs).length),(23,[],.int .i64 i),(28,[],.sl 7 none (es.map encEdg)),(29,[],.int .i64 (es.map encEdg).length),(30,[],.int .i64 k)]/\h=[(b,.vec (l.map encB).flatten)]/\m=es.length - k/\k<=es.length/\l.length=g.length+1/\reachGo want g 0 l0=reachGo want (g.drop (i+1)) (i+1) (markK want i (es.drop k) k l)) ?_ ?_
  ·(conv=>whnf);exact ⟨_,0,l,rfl,rfl,rfl,by omega,hl,hgo⟩
  clear hgo hl;rintro m r h ⟨k,l,rfl,rfl,rfl,hk,hl,hgo⟩;obtain ⟨li,hli⟩:=get_lt (l:=l) (i:=i) (by omega);have hgd:=getD_of (d:=false) hli;(conv=>whnf);refine ⟨fun hc=>?_,fun hc=>?_⟩<;>simp at hc
  ·obtain ⟨x,hx⟩:=get_lt hc;have hxo:=hg.edge i es hes x (List.mem_of_getElem? hx);have h1:=hxo.lo;have h2:=hxo.hi;rw [drop_cons hx,markK,hgd] at hgo;have hwk:=hw i k;(conv=>whnf);repeat ((first|refine ix (by assumption) ?_|(intro (b9:Nat))|(refine ixo (i:=i) (by omega) ?_)|(refine ldE encB_len (.head _) (Nat.zero_add _) hli ?_)|refine gcall (hwk) ?_|refine ⟨_,_,Rem.here _,⟨Nat.le_of_ble_eq_true rfl,rfl⟩,?_⟩);conv=>whnf)
   refine ⟨fun hq=>?_,fun hq=>?_⟩
   ·have hq:(li&&want i k)=true:=hq;rw [if_pos hq] at hgo;(conv=>whnf);repeat ((first|refine ⟨gP_of ⟨by omega,by omega⟩,?_⟩|(refine ⟨x.to.toNat,gP_of ⟨by omega,by omega⟩,?_⟩)|(refine stE true (by decide) encB_len (i:=x.to.toNat) (by omega) (Nat.zero_add _) rfl (.here _) ?_));conv=>whnf)
    exact ⟨_,by omega,k+1,_,rfl,rfl,rfl,by omega,by rw [List.length_set];exact hl,hgo⟩
   have hq:(li&&want i k)=false:=hq;rw [if_neg (by rw [hq];decide)] at hgo;(conv=>whnf);repeat (refine ⟨gP_of ⟨by omega,by omega⟩,?_⟩;conv=>whnf)
   exact ⟨_,by omega,k+1,_,rfl,rfl,rfl,by omega,hl,hgo⟩
  rw [drop_nil hc,markK] at hgo;(conv=>whnf);repeat (refine ⟨gP_of ⟨by omega,by omega⟩,?_⟩;conv=>whnf)
  exact ⟨_,by omega,i+1,_,rfl,rfl,rfl,by omega,hl,hgo⟩
 rw [drop_nil hi2,reachGo] at hgo;(conv=>whnf);skip;exact ⟨b,[],rfl,by rw [hgo]⟩
end Go.Abs.Wall
namespace Go.Abs.Wall
open Go Go.Abs Go.Proofs
theorem ReachW (H:Hou) (line:List Int) (hf:HouFit H) (hl:line.length<=1048576) :
  QCall Tryz.prog 65 [.agg (encHou H),.sl 1 none (ints line)] [] (.tup [.int .i64 (reachL H line),.int .i64 (growErr H line)]):=by
 have hgw:=growW H line hf hl;refine fcalls (F:=Tryz.f65) c65 rfl rfl rfl mixed rfl fun X=>?_;(conv=>whnf);repeat (refine QCall.k0 (hgw) ?_;conv=>whnf)
 refine ⟨fun h0=>?_,fun h0=>?_⟩<;>simp at h0
 ·(conv=>whnf);skip;exact ⟨by rw [reachL,if_neg h0],rfl⟩
 obtain ⟨hL,hsum,hg⟩:=growOK h0;obtain ⟨g,hge⟩:∃ g,g=graphM H line:=⟨_,rfl⟩;have hgv:growV H line=.iptr (encForest g (restT g)):=(by rw [growV,if_pos h0,hge]);have hrl:reachL H line=lastT (reachM g wantAll) 0 0:=(by rw [reachL,if_pos h0,hge]);rw [<- hge] at hg;rw [hgv,hrl,h0];have hfew:=hg.few;have hre:=reachedW g 103 [] wantAll hg allW;obtain ⟨R,hR⟩:∃ R,R=reachM g wantAll:=⟨_,rfl⟩;have hRl:R.length=g.length+1:=by rw [hR];exact reachM_len g _
 rw [<- hR] at hre ⊢;(conv=>whnf);repeat (refine QCall.k0 (hre) ?_;conv=>whnf)
 refine sloop rfl mixed [8,21,22,23] [] (fun m r h=>∃ (i:Nat) (far:Nat),r=[(8,[],.int .i64 far),(21,[],.sl 1 none (R.map encB)),(22,[],.int .i64 (R.map encB).length),(23,[],.int .i64 i)]/\h=[]/\m=R.length - i/\i<=R.length/\lastT R 0 0=lastT (R.drop i) i far) ?_ ?_
 ·(conv=>whnf);exact ⟨_,0,0,rfl,rfl,rfl,by omega,rfl⟩
 rintro m r h ⟨i,far,rfl,rfl,rfl,hi,hfo⟩;(conv=>whnf);refine ⟨fun hi2=>?_,fun hi2=>?_⟩<;>simp at hi2
 ·obtain ⟨b,hb⟩:=get_lt hi2;rw [drop_cons hb,lastT] at hfo;(conv=>whnf);repeat (refine ix (by assumption) ?_;conv=>whnf)
  refine ⟨fun hq=>?_,fun hq=>?_⟩
  ·rw [if_pos hq] at hfo;(conv=>whnf);repeat (refine ⟨gP_of ⟨by omega,by omega⟩,?_⟩;conv=>whnf)
   exact ⟨_,by omega,i+1,i,rfl,rfl,rfl,by omega,hfo⟩
  rw [if_neg (by rw [hq];decide)] at hfo;(conv=>whnf);repeat (refine ⟨gP_of ⟨by omega,by omega⟩,?_⟩;conv=>whnf)
  exact ⟨_,by omega,i+1,far,rfl,rfl,rfl,by omega,hfo⟩
 rw [drop_nil hi2,lastT] at hfo;(conv=>whnf);skip;exact ⟨by rw [hfo],rfl⟩
end Go.Abs.Wall
namespace Go.Abs.Wall
open Go Go.Abs Go.Proofs
end Go.Abs.Wall
namespace Go.Abs.Wall
open Go Go.Abs Go.Proofs
end Go.Abs.Wall
namespace Go.Abs.Wall
open Go Go.Abs Go.Proofs
end Go.Abs.Wall
/-
 The bridge,from the statements' readings to the abstract layer: what is read as plain data is there,and a call that answers true and leaves the old memory alone keeps the statement.
-/
namespace Go.Proofs.YtdjdbggpgmddnaaGreat.Br
open Go Go.Abs Go.ChangeShapes Go.WideShapes Go.RowKit
inductive Sh (P:Program) (B:Nat):TypeId->List AV->Prop
 | bool {t:TypeId} {b:Bool}:P.underlying t=some .bool->Sh P B t [.bool b]
 | int {t:TypeId} {k:IntKind} {n:Int}:P.underlying t=some (.int k)->(Lit.int k n).wf=true->Sh P B t [.int k n]
 | str {t:TypeId} {s:List UInt8}:P.underlying t=some .string->s.length<=B->Sh P B t [.str s]
 | slice {t e:TypeId} {ys:List (List AV)}:P.underlying t=some (.slice e)->ys.length<=B->(∀ y∈ys,Sh P B e y)->Sh P B t [.sl (P.cellsOf e) none ys]
 | struct {t:TypeId} {fs:Array Field} {parts:List (List AV)}:P.underlying t=some (.struct fs)->parts.length=fs.toList.length ->
    (∀ (i:Nat) f p,fs.toList[i]?=some f->parts[i]?=some p->Sh P B f.type p)->Sh P B t parts.flatten
 | array {t e:TypeId} {n:Nat} {parts:List (List AV)}:P.underlying t=some (.array n e)->parts.length=n->(∀ p∈parts,Sh P B e p)->Sh P B t parts.flatten
def flat (P:Program):Nat->TypeId->Bool
 | 0,_=>false
 | n+1,t=>match P.underlying t with
   | some .bool=>true
   | some (.int _)=>true
   | some .string=>true
   | some (.slice e)=>flat P n e&&Nat.ble 1 (P.cellsOf e)
   | some (.struct fs)=>fs.toList.all fun f=>flat P n f.type
   | some (.array _ e)=>flat P n e
   | _=>false
def c0 (W:World):Cx:=⟨⟨fun _=>none,fun _=>none⟩,live (fun _=>False) [],W⟩
theorem fr0 (W:World) (b o:Nat):(c0 W).fr b o:=by intro k s h;cases h
section
variable {H:Type} {enc:TypeId × Value->H} {P:Program} {W:World}
theorem mapM_nth {α β:Type} {f:α->Option β}:∀ {l:List α} {r:List β},l.mapM f=some r->r.length=l.length/\∀ (i:Nat) a,l[i]?=some a->∃ b,f a=some b/\r[i]?=some b:=by
 intro l;induction l with
 | nil=>intro r h;simp at h;subst h;exact ⟨rfl,fun i a h=>by cases h⟩
 | cons x l ih=>
   intro r h;simp only [List.mapM_cons,Option.bind_eq_bind,Option.bind_eq_some_iff,Option.pure_def] at h;obtain ⟨b,hb,r',hr',h⟩:=h;cases h
   obtain ⟨h1,h2⟩:=ih hr';refine ⟨by simp [h1],fun i a ha=>?_⟩;cases i with
   | zero=>cases ha;exact ⟨b,hb,rfl⟩
   | succ i=>exact h2 i a (by simpa using ha)
theorem bulk_get (l:List (DataW H)) (d:DataW H) (h:d∈l):Rows.uptoBulk d<=Rows.uptoBulkAll l:=by
 induction l with
 | nil=>cases h
 | cons x r ih=>
   simp only [Rows.uptoBulkAll];cases List.mem_cons.1 h with
   | inl e=>subst e;omega
   | inr e=>have:=ih e;omega
theorem bulk_pos (d:DataW H):1<=Rows.uptoBulk d:=by
 cases d with
 | lit l=>cases l<;>simp [Rows.uptoBulk]
 | _=>simp [Rows.uptoBulk]
theorem bulk_len (l:List (DataW H)):l.length<=Rows.uptoBulkAll l:=by
 induction l with
 | nil=>simp [Rows.uptoBulkAll]
 | cons x r ih=>have:=bulk_pos x;simp only [Rows.uptoBulkAll,List.length_cons];omega
theorem add_block (a:Addr) (n:Nat):(a.add n).block=a.block:=by unfold Addr.add;split<;>rfl
theorem add_off (a:Addr) (n:Nat):(a.add n).off=a.off+n:=by
 unfold Addr.add;split
 ·rename_i h;subst h;rfl
 rfl
theorem cell_add {a:Addr} {n:Nat} {u:Value} (h:W.cell? (a.add n)=some u):W.cell? ⟨a.block,a.off+n,none⟩=some u:=by
 unfold World.cell? at h ⊢;rw [add_block,add_off] at h;split at h
 ·rename_i hb;simp only [hb];split at h
  ·cases h
  simpa using h
 cases h
theorem cells_repCs {a:Addr} {n:Nat} {us:List Value} {xs:List AV} (h:W.cells? 0 a n=some us) (hr:RepVs (c0 W) xs us) (h1:∀ u∈us,u.oneCell'=true) :
  us.length=n/\(0<n->a.spot=none)/\RepCs (c0 W) xs a.block a.off:=by
 unfold World.cells? at h;rw [if_pos (Nat.zero_le _)] at h;obtain ⟨hl,hg⟩:=mapM_nth h;simp at hl;refine ⟨hl,fun hn=>?_,?_⟩
 ·obtain ⟨u,hu,_⟩:=hg 0 0 (by simp [hn]);unfold World.cell? at hu;split at hu
  ·split at hu
   ·cases hu
   rename_i hs;simpa [Addr.add] using hs
  cases hu
 have key:∀ (xs:List AV) (us:List Value) (o:Nat),RepVs (c0 W) xs us->(∀ u∈us,u.oneCell'=true)->(∀ (i:Nat) u,us[i]?=some u->W.cell? ⟨a.block,a.off+(o+i),none⟩=some u)->RepCs (c0 W) xs a.block (a.off+o):=by
  intro xs;induction xs with
  | nil=>intro us o _ _ _;simp [RepCs]
  | cons x xs ih=>
    intro us o hr h1 hc;simp only [RepVs] at hr;obtain ⟨u,r,rfl,hu,hr⟩:=hr;simp only [RepCs];refine ⟨⟨u,hc 0 u rfl,h1 u (by simp),fr0 W _ _,hu⟩,?_⟩
    have:=ih r (o+1) hr (fun u hu=>h1 u (by simp [hu])) (fun i u hi=>by
     have:=hc (i+1) u (by simpa using hi);rwa [show o+(i+1)=o+1+i from by omega] at this)
    rwa [show a.off+o+1=a.off+(o+1) from rfl]
 have:=key xs us 0 hr h1 (fun i u hi=>by
  have hlt:=(List.getElem?_eq_some_iff.1 hi).1;obtain ⟨u',hu',hi'⟩:=hg i i (List.getElem?_range (by omega));rw [hi] at hi';cases hi'
  rw [show a.off+(0+i)=a.off+i from by omega];exact cell_add hu')
 simpa using this
theorem wf_has {k:IntKind} {n:Int} (h:(Lit.int k n).wf=true):k.has n:=by simp only [Lit.wf,Bool.and_eq_true,decide_eq_true_eq] at h;simpa [IntKind.has] using h
theorem cut_row (K:Kids P (·<P.types.size)) {t:TypeId} {fs:Array Field} (ht:t<P.types.size) (hu:P.underlying t=some (.struct fs)) {cs:List Value} (hl:cs.length=P.cellsOf t) :
  (fs.toList.map fun f=>(cs.drop f.offset).take (P.cellsOf f.type)).flatten=cs:=by
 obtain ⟨_,h2,h3⟩:=K.struct ht hu
 have key:∀ (l:List Field) (o:Nat),(∀ (j:Nat) f,l[j]?=some f->f.offset=o+((l.take j).map fun f=>P.cellsOf f.type).sum)->(l.map fun f:Field=>(cs.drop f.offset).take (P.cellsOf f.type)).flatten=(cs.drop o).take ((l.map fun f=>P.cellsOf f.type).sum):=by
  intro l;induction l with
  | nil=>intro o _;simp
  | cons f l ih=>
    intro o h;have h0:=h 0 f rfl;simp at h0;simp only [List.map_cons,List.flatten_cons,List.sum_cons]
    rw [ih (o+P.cellsOf f.type) (fun j g hj=>by
     have:=h (j+1) g (by simpa using hj);simp only [List.take_succ_cons,List.map_cons,List.sum_cons] at this;omega),h0,List.take_add,List.drop_drop]
 rw [key fs.toList 0 (fun j f hj=>by simpa using h3 j f hj),<- h2,<- hl];simp
theorem rep_of_trod (K:Kids P (·<P.types.size)) {B:Nat} (hB:B<=LMAX):∀ (m n:Nat) (t:TypeId) (cs:List Value) (x:DataW H × List MemPlace),flat P m t=true->t<P.types.size ->
  DataW.trod enc P W 0 (fun _=>true) true n t cs=some x->Rows.uptoBulk x.1<=B->∃ xs,RepVs (c0 W) xs cs/\Sh P B t xs/\∀ u∈cs,u.oneCell'=true
 | 0,n,t,cs,x,hf,_,_,_=>by cases hf
 | m+1,n,t,cs,x,hf,hlt,h,hb=>by
   unfold flat at hf;split at hf
   ·rename_i hu;obtain ⟨b,rfl,rfl⟩:=DataW.trod_bool hu h;exact ⟨[.bool b],by simp [RepVs,Rep],.bool hu,by simp [Value.oneCell']⟩
   ·rename_i k hu;obtain ⟨n,rfl,rfl,hw⟩:=DataW.trod_int hu h;exact ⟨[.int k n],by simp [RepVs,Rep,wf_has hw],.int hu hw,by simp [Value.oneCell']⟩
   ·rename_i hu;obtain ⟨s,rfl,rfl,hm⟩:=DataW.trod_string hu h;have hb':s.data.toList.length<=B:=by simp [Rows.uptoBulk] at hb;simp;omega
    exact ⟨[.str s.data.toList],by simp only [RepVs,Rep];exact ⟨_,_,rfl,⟨s,rfl,rfl,by omega⟩,rfl⟩,.str hu hb',by simp [Value.oneCell']⟩
   ·rename_i e hu;simp only [Bool.and_eq_true] at hf;have hk:0<P.cellsOf e:=Nat.le_of_ble_eq_true hf.2;have he:e<P.types.size:=K.slice hlt hu;rcases DataW.trod_slice hu h with ⟨rfl,rfl⟩|⟨a,len,cap,elems,rest,n',rfl,rfl,rfl,_,hlc,hcm,hel,hge,_,_⟩
    ·refine ⟨[.sl (P.cellsOf e) none []],?_,.slice hu (Nat.zero_le _) (by simp),by simp [Value.oneCell']⟩;simp only [RepVs];exact ⟨_,_,rfl,VLe.nil hk _ _ (by simp [Rep]),rfl⟩
    have hbulk:elems.length<=B/\∀ y∈elems,Rows.uptoBulk y.1<=B:=by simp only [Rows.uptoBulk] at hb;have h1:=bulk_len (elems.map (·.1));simp at h1;refine ⟨by omega,fun y hy=>?_⟩;have:=bulk_get (elems.map (·.1)) y.1 (List.mem_map.2 ⟨y,hy,rfl⟩);omega
    have each:∀ i,i<len->∃ (xs:List AV) (us:List Value),W.cells? 0 (a.add (i*P.cellsOf e)) (P.cellsOf e)=some us/\RepVs (c0 W) xs us/\Sh P B e xs/\∀ u∈us,u.oneCell'=true:=by intro i hi;have hx:=hge i hi;have hlt':i<elems.length:=(by omega);rw [List.getElem?_eq_getElem hlt'] at hx;simp only [Option.bind_eq_some_iff] at hx;obtain ⟨us,hus,htr⟩:=hx;obtain ⟨xs,h1,h2,h3⟩:=rep_of_trod K hB m n' e us _ hf.1 he htr (hbulk.2 _ (List.getElem_mem hlt'));exact ⟨xs,us,hus,h1,h2,h3⟩
    have build:∀ j i,i+j=len->∃ ys:List (List AV),ys.length=j/\(∀ y∈ys,Sh P B e y)/\RepEs (c0 W) (P.cellsOf e) ys a.block (a.off+i*P.cellsOf e):=by
     intro j;induction j with
     | zero=>intro i _;exact ⟨[],rfl,by simp,by simp [RepEs]⟩
     | succ j ih=>
       intro i hij;obtain ⟨xs,us,hus,h1,h2,h3⟩:=each i (by omega);obtain ⟨hn,hsp,hr⟩:=cells_repCs hus h1 h3;obtain ⟨ys,hy1,hy2,hy3⟩:=ih (i+1) (by omega);refine ⟨xs::ys,by simp [hy1],by intro y hy;cases List.mem_cons.1 hy with|inl e=>subst e;exact h2|inr e=>exact hy2 y e,?_⟩;simp only [RepEs];refine ⟨⟨by rw [<- h1.length];exact hn,by rw [add_block,add_off] at hr;exact hr⟩,?_⟩;rwa [show a.off+i*P.cellsOf e+P.cellsOf e=a.off+(i+1)*P.cellsOf e from by rw [Nat.succ_mul];omega]
    obtain ⟨ys,hy1,hy2,hy3⟩:=build len 0 (by omega);refine ⟨[.sl (P.cellsOf e) none ys],?_,.slice hu (by omega) hy2,by simp [Value.oneCell']⟩;simp only [RepVs,Rep];refine ⟨_,_,rfl,⟨some a,cap,by rw [hy1],by omega,by omega,hk,by simp,?_,?_,by simp⟩,rfl⟩
    ·rintro a' ⟨⟩ hne
     have:0<len:=by
      cases ys with
      | nil=>exact absurd rfl hne
      | cons _ _=>simp at hy1;omega
     obtain ⟨xs,us,hus,h1,h2,h3⟩:=each 0 this;have:=(cells_repCs hus h1 h3).2.1 hk;simpa [Addr.add] using this
    rintro a' ⟨⟩;simpa using hy3
   ·rename_i fs hu;obtain ⟨xs,n',rfl,rfl,hl,hlen,hg⟩:=DataW.trod_struct hu h;have hbulk:∀ y∈xs,Rows.uptoBulk y.1<=B:=by simp only [Rows.uptoBulk] at hb;intro y hy;have:=bulk_get (xs.map (·.1)) y.1 (List.mem_map.2 ⟨y,hy,rfl⟩);omega
    obtain ⟨k1,k2,k3⟩:=K.struct hlt hu
    have each:∀ (i:Nat) (f:Field),fs.toList[i]?=some f->∃ p,RepVs (c0 W) p ((cs.drop f.offset).take (P.cellsOf f.type))/\Sh P B f.type p/\∀ u∈(cs.drop f.offset).take (P.cellsOf f.type),u.oneCell'=true:=by
     intro i f hif;have hlti:i<xs.length:=by have:=(List.getElem?_eq_some_iff.1 hif).1;simp at this;omega
     have hx:=hg i f (by simpa using hif);rw [List.getElem?_eq_getElem hlti] at hx;exact rep_of_trod K hB m n' f.type _ _ (List.all_eq_true.1 hf f (List.mem_of_getElem? hif)) (k1 f (List.mem_of_getElem? hif)) hx (hbulk _ (List.getElem_mem hlti))
    have build:∀ (l:List Field) ,(∀ f∈l,∃ p,RepVs (c0 W) p ((cs.drop f.offset).take (P.cellsOf f.type))/\Sh P B f.type p/\∀ u∈(cs.drop f.offset).take (P.cellsOf f.type),u.oneCell'=true) ->
      ∃ parts:List (List AV),parts.length=l.length/\(∀ (i:Nat) f p,l[i]?=some f->parts[i]?=some p->Sh P B f.type p)/\RepVs (c0 W) parts.flatten (l.map fun f:Field=>(cs.drop f.offset).take (P.cellsOf f.type)).flatten /\
       ∀ u∈(l.map fun f:Field=>(cs.drop f.offset).take (P.cellsOf f.type)).flatten,u.oneCell'=true:=by
     intro l;induction l with
     | nil=>intro _;exact ⟨[],rfl,by simp,by simp [RepVs],by simp⟩
     | cons f l ih=>
       intro h;obtain ⟨p,h1,h2,h3⟩:=h f (by simp);obtain ⟨parts,g1,g2,g3,g4⟩:=ih (fun f hf=>h f (by simp [hf]));refine ⟨p::parts,by simp [g1],?_,?_,?_⟩
       ·intro i f' p' hi hp;cases i with
        | zero=>cases hi;cases hp;exact h2
        | succ i=>exact g2 i f' p' (by simpa using hi) (by simpa using hp)
       ·simp only [List.map_cons,List.flatten_cons];exact RepVs.append h1 g3
       intro u hu;simp only [List.map_cons,List.flatten_cons,List.mem_append] at hu;exact hu.elim (h3 u) (g4 u)
    obtain ⟨parts,g1,g2,g3,g4⟩:=build fs.toList (fun f hf=>by
     obtain ⟨i,hi⟩:=List.mem_iff_getElem?.1 hf;exact each i f hi)
    rw [cut_row K hlt hu hl] at g3 g4;exact ⟨parts.flatten,g3,.struct hu g1 g2,g4⟩
   ·rename_i N e hu;obtain ⟨xs,n',rfl,rfl,hl,hlen,hg⟩:=DataW.trod_array hu h;obtain ⟨k1,k2⟩:=K.array hlt hu;have hbulk:∀ y∈xs,Rows.uptoBulk y.1<=B:=by simp only [Rows.uptoBulk] at hb;intro y hy;have:=bulk_get (xs.map (·.1)) y.1 (List.mem_map.2 ⟨y,hy,rfl⟩);omega
    have each:∀ i,i<N->∃ p,RepVs (c0 W) p ((cs.drop (i*P.cellsOf e)).take (P.cellsOf e))/\Sh P B e p/\∀ u∈(cs.drop (i*P.cellsOf e)).take (P.cellsOf e),u.oneCell'=true:=by intro i hi;have hlti:i<xs.length:=(by omega);have hx:=hg i hi;rw [List.getElem?_eq_getElem hlti] at hx;exact rep_of_trod K hB m n' e _ _ hf k1 hx (hbulk _ (List.getElem_mem hlti))
    have build:∀ j i,i+j=N->∃ parts:List (List AV),parts.length=j/\(∀ p∈parts,Sh P B e p)/\RepVs (c0 W) parts.flatten (cs.drop (i*P.cellsOf e))/\∀ u∈cs.drop (i*P.cellsOf e),u.oneCell'=true:=by
     intro j;induction j with
     | zero=>
       intro i hi;have h0:cs.drop (i*P.cellsOf e)=[]:=List.drop_eq_nil_of_le (by rw [hl,k2,show i=N by omega];exact Nat.le_refl _);rw [h0];exact ⟨[],rfl,by simp,by simp [RepVs],by simp⟩
     | succ j ih=>
       intro i hi;obtain ⟨p,h1,h2,h3⟩:=each i (by omega);obtain ⟨parts,g1,g2,g3,g4⟩:=ih (i+1) (by omega);have hcut:cs.drop (i*P.cellsOf e)=(cs.drop (i*P.cellsOf e)).take (P.cellsOf e)++cs.drop ((i+1)*P.cellsOf e):=(by rw [Nat.succ_mul,<- List.drop_drop,List.take_append_drop]);rw [hcut];refine ⟨p::parts,by simp [g1],?_,?_,?_⟩
       ·intro y hy;rcases List.mem_cons.1 hy with rfl|hy
        ·exact h2
        exact g2 y hy
       ·simp only [List.flatten_cons];exact RepVs.append h1 g3
       intro u hu;exact (List.mem_append.1 hu).elim (h3 u) (g4 u)
    obtain ⟨parts,g1,g2,g3,g4⟩:=build N 0 (by omega);rw [Nat.zero_mul,List.drop_zero] at g3 g4;exact ⟨parts.flatten,g3,.array hu g1 g2,g4⟩
   cases hf
def ArgSh (P:Program) (B:Nat) (t:TypeId) (x:AV):Prop:=∃ xs,Sh P B t xs/\match P.underlying t with
 | some (.struct _)=>x=.agg xs
 | some (.array _ _)=>x=.agg xs
 | _=>xs=[x]
def ArgShs (P:Program) (B:Nat):List TypeId->List AV->Prop
 | [],[]=>True
 | t::ts,x::xs=>ArgSh P B t x/\ArgShs P B ts xs
 | _,_=>False
theorem rep_arg (K:Kids P (·<P.types.size)) {B:Nat} (hB:B<=LMAX) {m:Nat} {t:TypeId} {v:Value} {d:DataW H} {ps:List MemPlace} {base:Nat} (hf:flat P m t=true) (hlt:t<P.types.size)
  (hok:Value.okWide P W .any base t v) (h:DataW.Trod enc P W 0 (fun _=>true) true t v d ps) (hb:Rows.uptoBulk d<=B):∃ x,Rep (c0 W) x v/\ArgSh P B t x:=by
 obtain ⟨n,h⟩:=h;obtain ⟨xs,h1,h2,h3⟩:=rep_of_trod K hB m n t _ _ hf hlt h hb
 have one:∀ x,xs=[x]->(∀ cs,v≠.agg cs)->(∀ fs,P.underlying t≠some (.struct fs))/\(∀ n e,P.underlying t≠some (.array n e))->∃ x,Rep (c0 W) x v/\ArgSh P B t x:=by
  rintro x rfl hne hns;have hv:v.cells.toList=[v]:=by cases v<;>first|rfl|exact absurd rfl (hne _)
  rw [hv] at h1;simp only [RepVs] at h1;obtain ⟨u,r,hu,hx,rfl⟩:=h1;cases hu
  refine ⟨x,hx,[x],h2,?_⟩;split
  ·rename_i fs hfs;exact absurd hfs (hns.1 fs)
  ·rename_i n e hfs;exact absurd hfs (hns.2 n e)
  rfl
 unfold Value.okWide at hok;cases h2 with
 | bool hu=>
   rw [hu] at hok;refine one _ rfl (fun cs hv=>?_) (by rw [hu];simp);subst hv;simp [Cell.okWide,hu,Cell.ok] at hok
 | int hu hw=>
   rw [hu] at hok;refine one _ rfl (fun cs hv=>?_) (by rw [hu];simp);subst hv;simp [Cell.okWide,hu,Cell.ok] at hok
 | str hu hl=>
   rw [hu] at hok;refine one _ rfl (fun cs hv=>?_) (by rw [hu];simp);subst hv;simp [Cell.okWide,hu,Cell.ok] at hok
 | slice hu hl hy=>
   rw [hu] at hok;refine one _ rfl (fun cs hv=>?_) (by rw [hu];simp);subst hv;simp [Cell.okWide,hu,Cell.ok] at hok
 | @struct _ fs parts hu hl hp=>
   rw [hu] at hok;obtain ⟨cs,rfl,hsz,_⟩:=hok;refine ⟨.agg parts.flatten,?_,parts.flatten,.struct hu hl hp,by rw [hu]⟩;simp only [Rep];exact ⟨cs,rfl,fun u hu=>h3 u (by simpa [Value.cells] using hu),h1⟩
 | @array _ e n parts hu hl hp=>
   rw [hu] at hok;obtain ⟨cs,rfl,hsz,_⟩:=hok;refine ⟨.agg parts.flatten,?_,parts.flatten,.array hu hl hp,by rw [hu]⟩;simp only [Rep];exact ⟨cs,rfl,fun u hu=>h3 u (by simpa [Value.cells] using hu),h1⟩
theorem rep_args (K:Kids P (·<P.types.size)) {B:Nat} (hB:B<=LMAX) {m:Nat} {base:Nat}:∀ {ts:List TypeId} {vs:List Value} {ds:List (DataW H)} {ps:List MemPlace},(∀ t∈ts,flat P m t=true/\t<P.types.size) ->
  (∀ (j:Nat) t v,ts[j]?=some t->vs[j]?=some v->Value.okWide P W .any base t v)->DataW.TrodAll enc P W 0 (fun _=>true) true ts vs ds ps->Rows.uptoBulkAll ds<=B ->
  ∃ xs,RepVs (c0 W) xs vs/\ArgShs P B ts xs
 | [],vs,ds,ps,_,_,h,_=>by obtain ⟨rfl,rfl,rfl⟩:=trodAll_nil h;exact ⟨[],by simp [RepVs],trivial⟩
 | t::ts,vs,ds,ps,hf,hok,h,hb=>by obtain ⟨v,vs1,d,ds1,a,b,rfl,rfl,rfl,h1,h2⟩:=trodAll_cons h;simp only [Rows.uptoBulkAll] at hb;obtain ⟨x,hx,hs⟩:=rep_arg K hB (hf t (by simp)).1 (hf t (by simp)).2 (hok 0 t v rfl rfl) h1 (by omega);obtain ⟨xs,hxs,hss⟩:=rep_args K hB (fun t ht=>hf t (by simp [ht])) (fun j t v h1 h2=>hok (j+1) t v (by simpa using h1) (by simpa using h2)) h2 (by omega);exact ⟨x::xs,by simp only [RepVs];exact ⟨v,vs1,rfl,hx,hxs⟩,hs,hss⟩
theorem stays_all {W':World} {sp:Nat->Bool} (K:Kids P (·<P.types.size)) (hz:∀ {t e:TypeId},t<P.types.size->P.underlying t=some (.slice e)->0<P.cellsOf e) :
  ∀ {ts:List TypeId} {vs:List Value} {ds:List (DataW H)} {ps:List MemPlace},(∀ t∈ts,t<P.types.size)->DataW.TrodAll enc P W 0 (fun _=>true) true ts vs ds ps->(∀ p∈ps,W.sameAt W' p)->(∀ p∈ps,sp p.block=true) ->
   DataW.TrodAll enc P W' 0 sp true ts vs ds ps
 | [],vs,ds,ps,_,h,_,_=>by obtain ⟨rfl,rfl,rfl⟩:=trodAll_nil h;exact trodAll_mk0
 | t::ts,vs,ds,ps,hT,h,hs,hp=>by
   obtain ⟨v,vs1,d,ds1,a,b,rfl,rfl,rfl,⟨n,h1⟩,h2⟩:=trodAll_cons h
   exact ⟨a,b,⟨n,DataW.trod_stays K hz (fun hh=>by cases hh) (hT t (by simp)) h1 (fun p hp=>hs p (by simp [hp])) (fun p hq=>hp p (by simp [hq]))⟩,
    stays_all K hz (fun t ht=>hT t (by simp [ht])) h2 (fun p hp=>hs p (by simp [hp])) (fun p hq=>hp p (by simp [hq])),rfl⟩
theorem trod_len:∀ {ts:List TypeId} {vs:List Value} {ds:List (DataW H)} {ps:List MemPlace},DataW.TrodAll enc P W 0 (fun _=>true) true ts vs ds ps->ds.length=ts.length
 | [],_,_,_,h=>by obtain ⟨rfl,rfl,_⟩:=trodAll_nil h;rfl
 | t::ts,_,_,_,h=>by obtain ⟨v,vs1,d,ds1,a,b,rfl,rfl,rfl,h1,h2⟩:=trodAll_cons h;simp [trod_len h2]
theorem cw0 (W:World):CW (fun _=>False) ⟨fun _=>none,fun _=>none⟩ [] W:=by
 refine ⟨by simp,⟨0,?_⟩,by simp [keys],by simp [keys],by simp⟩;rintro k (h|h|h|⟨b,s,h⟩)
 ·exact h.elim
 ·simp [keys] at h
 ·exact absurd rfl h
 cases h
theorem bridge {f:FuncId} {fn:Func} {s:ChangeSpec} {m:Nat} {tb:TypeId} (K:Kids P (·<P.types.size)) (hz:∀ {t e:TypeId},t<P.types.size->P.underlying t=some (.slice e)->0<P.cellsOf e)
  (hvars:s.vars=[]) (hfn:∀ ds:List (DataW H),ds.length=fn.params.toList.length->s.fn H ds={ results:=[.lit (.bool true)],args:=ds })
  (hres:fn.resultTypes=#[tb]) (hbool:P.underlying tb=some .bool) (hflat:∀ t∈fn.params.toList,flat P m t=true/\t<P.types.size)
  (hcal:Callable P f) (law:∀ xs,ArgShs P 1048576 fn.params.toList xs->QCall P f xs [] (.bool true))
  {base:Nat} {args:Array Value} {ds gs:List (DataW H)} {before:List MemPlace}
  (hval:∀ (j:Nat) t v,fn.params[j]?=some t->args[j]?=some v->Value.okWide P W .any base t v)
  (hW:DataW.Whole enc P fn.params.toList s.vars false W args.toList ds gs before) (hk:Rows.uptoSmall H (ds++gs)=true) :
  Calls P f args W fun e W'=>∃ v,e=.returned v/\s.post enc P fn false true false false W args v W':=by
 have hlt:=hW.lt;have hW':=hW;rw [hvars] at hW;obtain ⟨p,q,hA,hV,hpq,hfz,hnd⟩:=hW
 obtain ⟨rfl,rfl⟩:gs=[]/\q=[]:=by
  cases gs with
  | nil=>simp only [DataW.TrodVars] at hV;exact ⟨rfl,hV⟩
  | cons _ _=>simp [DataW.TrodVars] at hV
 simp only [List.append_nil] at hpq hk;subst hpq;have hbulk:Rows.uptoBulkAll ds<=1048576:=of_decide_eq_true hk;obtain ⟨xs,hrep,hsh⟩:=rep_args K (B:=1048576) (by unfold LMAX;omega) hflat (fun j t v h1 h2=>hval j t v (by simpa using h1) (by simpa using h2)) hA hbulk;have hlen:ds.length=fn.params.toList.length:=(trod_len hA);refine (CallsE.calls hcal ((law xs hsh).calls (fun _=>False) ⟨fun _=>none,fun _=>none⟩ W args (cw0 W) hrep)).mono ?_;rintro e W' ⟨v,u,g',h',rfl,⟨rfl,rfl⟩,hc,hu,hst⟩;simp only [Rep] at hu;subst hu;have hold:∀ b,b<W.heap.size->W'.heap[b]?=W.heap[b]?:=fun b hb=>(hst.old b hb (fun k s h=>by cases h)).1
 have hsame:∀ p∈before,W.sameAt W' p:=by
  intro p hp;have:=hlt p hp;cases p with
  | cell b off=>simp only [World.sameAt,World.cell?];rw [hold b this]
  | map b=>exact hold b this
 refine ⟨_,rfl,ds,[],before,[],before,[],hW',?_,?_,?_,?_,fun h=>by cases h⟩
 ·rw [List.append_nil,hfn ds hlen,hres];exact trodAll_mk1 (shut_bool hbool _)
 ·rw [List.append_nil,hfn ds hlen];exact stays_all K hz (fun t ht=>(hflat t ht).2) hA hsame (fun p hp=>by simpa using hlt p hp)
 ·rw [hvars,List.append_nil,hfn ds hlen];simp [DataW.TrodVars]
 refine ⟨hst.os,hst.output,fun i hi=>?_⟩;rw [hold i hi];cases hh:W.heap[i]? with
 | none=>simp
 | some o=>cases o<;>simp
end
end Go.Proofs.YtdjdbggpgmddnaaGreat.Br
namespace Go.Abs.Wall
open Go Go.Abs Go.Proofs Go.Proofs.YtdjdbggpgmddnaaGreat.Br
def ShParts (P:Program) (B:Nat):List TypeId->List (List AV)->Prop
 | [],[]=>True
 | t::ts,p::ps=>Sh P B t p/\ShParts P B ts ps
 | _,_=>False
theorem sh_parts {P:Program} {B:Nat}:∀ {ts:List TypeId} {ps:List (List AV)},ps.length=ts.length->(∀ (i:Nat) t p,ts[i]?=some t->ps[i]?=some p->Sh P B t p)->ShParts P B ts ps
 | [],[],_,_=>trivial
 | t::ts,p::ps,hl,h=>⟨h 0 t p rfl rfl,sh_parts (by simpa using hl) fun i t' p' h1 h2=>h (i+1) t' p' (by simpa using h1) (by simpa using h2)⟩
 | [],_::_,hl,_=>by simp at hl
 | _::_,[],hl,_=>by simp at hl
theorem sh_struct {P:Program} {B:Nat} {t:TypeId} {fs:Array Field} {xs:List AV} (h:Sh P B t xs) (hu:P.underlying t=some (.struct fs)):∃ ps,xs=ps.flatten/\ShParts P B (fs.toList.map (·.type)) ps:=by
 cases h with
 | bool h1=>rw [hu] at h1;cases h1
 | int h1 _=>rw [hu] at h1;cases h1
 | str h1 _=>rw [hu] at h1;cases h1
 | slice h1 _ _=>rw [hu] at h1;cases h1
 | @struct _ fs' ps h1 hl hp=>
   rw [hu] at h1;cases h1
   refine ⟨ps,rfl,sh_parts (by simpa using hl) fun i t p h1 h2=>?_⟩;rw [List.getElem?_map] at h1;cases hf:fs.toList[i]? with
   | none=>rw [hf] at h1;cases h1
   | some f=>rw [hf] at h1;cases h1;exact hp i f p hf h2
 | array h1 hl hp=>rw [hu] at h1;cases h1
theorem sh_int {P:Program} {B:Nat} {t:TypeId} {k:IntKind} {xs:List AV} (h:Sh P B t xs) (hu:P.underlying t=some (.int k)):∃ n:Int,xs=[.int k n]/\k.has n:=by
 cases h with
 | bool h1=>rw [hu] at h1;cases h1
 | int h1 h2=>rw [hu] at h1;cases h1;exact ⟨_,rfl,wf_has h2⟩
 | str h1 _=>rw [hu] at h1;cases h1
 | slice h1 _ _=>rw [hu] at h1;cases h1
 | struct h1 hl hp=>rw [hu] at h1;cases h1
 | array h1 hl hp=>rw [hu] at h1;cases h1
theorem sh_bool {P:Program} {B:Nat} {t:TypeId} {xs:List AV} (h:Sh P B t xs) (hu:P.underlying t=some .bool):∃ b:Bool,xs=[.bool b]:=by
 cases h with
 | bool h1=>exact ⟨_,rfl⟩
 | int h1 h2=>rw [hu] at h1;cases h1
 | str h1 _=>rw [hu] at h1;cases h1
 | slice h1 _ _=>rw [hu] at h1;cases h1
 | struct h1 hl hp=>rw [hu] at h1;cases h1
 | array h1 hl hp=>rw [hu] at h1;cases h1
theorem sh_str {P:Program} {B:Nat} {t:TypeId} {xs:List AV} (h:Sh P B t xs) (hu:P.underlying t=some .string):∃ s,xs=[.str s]/\s.length<=B:=by
 cases h with
 | bool h1=>rw [hu] at h1;cases h1
 | int h1 h2=>rw [hu] at h1;cases h1
 | str h1 h2=>exact ⟨_,rfl,h2⟩
 | slice h1 _ _=>rw [hu] at h1;cases h1
 | struct h1 hl hp=>rw [hu] at h1;cases h1
 | array h1 hl hp=>rw [hu] at h1;cases h1
theorem sh_list {P:Program} {B:Nat} {t e:TypeId} {xs:List AV} {α:Type} {enc:α->List AV} {Fit:α->Prop} (h:Sh P B t xs) (hu:P.underlying t=some (.slice e)) (he:∀ y,Sh P B e y->∃ a,y=enc a/\Fit a) :
  ∃ l:List α,xs=[.sl (P.cellsOf e) none (l.map enc)]/\l.length<=B/\∀ a∈l,Fit a:=by
 cases h with
 | bool h1=>rw [hu] at h1;cases h1
 | int h1 h2=>rw [hu] at h1;cases h1
 | str h1 _=>rw [hu] at h1;cases h1
 | @slice _ e' ys h1 h2 h3=>
   rw [hu] at h1;cases h1
   suffices hk:∃ l:List α,ys=l.map enc/\∀ a∈l,Fit a by
    obtain ⟨l,rfl,hf⟩:=hk;exact ⟨l,rfl,by simpa using h2,hf⟩
   clear h2;induction ys with
   | nil=>exact ⟨[],rfl,by simp⟩
   | cons y ys ih=>
     obtain ⟨l,rfl,hf⟩:=ih fun z hz=>h3 z (by simp [hz]);obtain ⟨a,rfl,ha⟩:=he y (h3 y (by simp));exact ⟨a::l,rfl,fun b hb=>by rcases List.mem_cons.1 hb with rfl|hb;exact ha;exact hf b hb⟩
 | struct h1 hl hp=>rw [hu] at h1;cases h1
 | array h1 hl hp=>rw [hu] at h1;cases h1
theorem sh2 {P:Program} {B:Nat} {a b:TypeId} {ps:List (List AV)} (h:ShParts P B [a,b] ps):∃ x y,ps=[x,y]/\Sh P B a x/\Sh P B b y:=by
 match ps,h with
 | [x,y],⟨h1,h2,_⟩=>exact ⟨x,y,rfl,h1,h2⟩
theorem sh3 {P:Program} {B:Nat} {a b c:TypeId} {ps:List (List AV)} (h:ShParts P B [a,b,c] ps):∃ x y z,ps=[x,y,z]/\Sh P B a x/\Sh P B b y/\Sh P B c z:=by
 match ps,h with
 | [x,y,z],⟨h1,h2,h3,_⟩=>exact ⟨x,y,z,rfl,h1,h2,h3⟩
theorem sh4 {P:Program} {B:Nat} {a b c d:TypeId} {ps:List (List AV)} (h:ShParts P B [a,b,c,d] ps):∃ x y z u,ps=[x,y,z,u]/\Sh P B a x/\Sh P B b y/\Sh P B c z/\Sh P B d u:=by
 match ps,h with
 | [x,y,z,u],⟨h1,h2,h3,h4,_⟩=>exact ⟨x,y,z,u,rfl,h1,h2,h3,h4⟩
theorem sh5 {P:Program} {B:Nat} {a b c d e:TypeId} {ps:List (List AV)} (h:ShParts P B [a,b,c,d,e] ps):∃ x y z u v,ps=[x,y,z,u,v]/\Sh P B a x/\Sh P B b y/\Sh P B c z/\Sh P B d u/\Sh P B e v:=by
 match ps,h with
 | [x,y,z,u,v],⟨h1,h2,h3,h4,h5,_⟩=>exact ⟨x,y,z,u,v,rfl,h1,h2,h3,h4,h5⟩
abbrev B20:Nat:=1048576
theorem b20 {n:Nat} (h:n<=B20):n<=LMAX:=by unfold LMAX;unfold B20 at h;omega
theorem shInt {xs:List AV} (h:Sh Tryz.prog B20 3 xs):∃ n:Int,xs=[.int .i64 n]/\IntKind.i64.has n:=sh_int h rfl
theorem shVal {xs:List AV} (h:Sh Tryz.prog B20 67 xs):∃ v:Val,xs=encVal v/\v.text.length<=B20:=by obtain ⟨ps,rfl,hp⟩:=sh_struct h rfl;obtain ⟨x,y,z,u,rfl,h1,h2,h3,h4⟩:=sh4 hp;obtain ⟨a,rfl,_⟩:=shInt h1;obtain ⟨b,rfl,hb⟩:=sh_str h2 rfl;obtain ⟨c,rfl,_⟩:=shInt h3;obtain ⟨d,rfl,_⟩:=shInt h4;exact ⟨⟨a,b,c,d⟩,rfl,hb⟩
theorem shSgn {xs:List AV} (h:Sh Tryz.prog B20 70 xs):∃ s:Sgn,xs=encSgn s/\SgnFit s:=by obtain ⟨ps,rfl,hp⟩:=sh_struct h rfl;obtain ⟨x,y,z,u,v,rfl,h1,h2,h3,h4,h5⟩:=sh5 hp;obtain ⟨a,rfl,ha⟩:=sh_str h1 rfl;obtain ⟨b,rfl,hb⟩:=shInt h2;obtain ⟨c,rfl,_⟩:=shInt h3;obtain ⟨d,rfl⟩:=sh_bool h4 rfl;obtain ⟨e,rfl,he,hf⟩:=sh_list (enc:=encVal) h5 rfl fun y hy=>shVal hy;exact ⟨⟨a,b,c,d,e⟩,rfl,b20 ha,b20 he,fun v hv=>b20 (hf v hv)⟩
theorem shLst {xs:List AV} (h:Sh Tryz.prog B20 24 xs):∃ l:Lst,xs=encLst l/\LstFit l:=by obtain ⟨ps,rfl,hp⟩:=sh_struct h rfl;obtain ⟨y,z,rfl,h1,h2⟩:=sh2 hp;obtain ⟨a,rfl,_⟩:=shInt h1;obtain ⟨b,rfl,hb,hf⟩:=sh_list (enc:=encSgn) h2 rfl fun y hy=>shSgn hy;exact ⟨⟨a,b⟩,rfl,b20 hb,hf⟩
theorem shEnt {xs:List AV} (h:Sh Tryz.prog B20 72 xs):∃ e:Ent,xs=encEnt e/\EntFit e:=by obtain ⟨ps,rfl,hp⟩:=sh_struct h rfl;obtain ⟨x,y,z,u,rfl,h1,h2,h3,h4⟩:=sh4 hp;obtain ⟨a,rfl,ha⟩:=sh_str h1 rfl;obtain ⟨b,rfl,hb⟩:=shInt h2;obtain ⟨c,rfl,hc⟩:=sh_str h3 rfl;obtain ⟨d,rfl,_⟩:=shInt h4;exact ⟨⟨a,b,c,d⟩,rfl,b20 ha,b20 hc⟩
theorem shEdn {xs:List AV} (h:Sh Tryz.prog B20 112 xs):∃ e:Edn,xs=encEdn e/\EdnFit e:=by obtain ⟨ps,rfl,hp⟩:=sh_struct h rfl;obtain ⟨x,y,z,u,rfl,h1,h2,h3,h4⟩:=sh4 hp;obtain ⟨a,rfl,ha⟩:=shInt h1;obtain ⟨b,rfl,hb⟩:=sh_str h2 rfl;obtain ⟨c,rfl,hc⟩:=sh_str h3 rfl;obtain ⟨d,rfl,_⟩:=shInt h4;exact ⟨⟨a,b,c,d⟩,rfl,b20 hb,b20 hc⟩
theorem shCli {xs:List AV} (h:Sh Tryz.prog B20 114 xs):∃ e:Cli,xs=encCli e/\CliFit e:=by obtain ⟨ps,rfl,hp⟩:=sh_struct h rfl;obtain ⟨x,y,z,rfl,h1,h2,h3⟩:=sh3 hp;obtain ⟨a,rfl,ha⟩:=sh_str h1 rfl;obtain ⟨b,rfl,hb⟩:=sh_str h2 rfl;obtain ⟨c,rfl,hc⟩:=shInt h3;exact ⟨⟨a,b,c⟩,rfl,b20 ha,b20 hb⟩
theorem shLex {xs:List AV} (h:Sh Tryz.prog B20 29 xs):∃ l:Lex,xs=encLex l/\LexFit l:=by obtain ⟨ps,rfl,hp⟩:=sh_struct h rfl;obtain ⟨x,y,z,rfl,h1,h2,h3⟩:=sh3 hp;obtain ⟨a,rfl,ha,fa⟩:=sh_list (enc:=encEnt) h1 rfl fun y hy=>shEnt hy;obtain ⟨b,rfl,hb,fb⟩:=sh_list (enc:=encEdn) h2 rfl fun y hy=>shEdn hy;obtain ⟨c,rfl,hc,fc⟩:=sh_list (enc:=encCli) h3 rfl fun y hy=>shCli hy;exact ⟨⟨a,b,c⟩,rfl,b20 ha,b20 hb,b20 hc,fa,fb,fc⟩
theorem shCos {xs:List AV} (h:Sh Tryz.prog B20 31 xs):∃ c:Cos,xs=encCos c:=by obtain ⟨ps,rfl,hp⟩:=sh_struct h rfl;obtain ⟨x,y,z,u,v,rfl,h1,h2,h3,h4,h5⟩:=sh5 hp;obtain ⟨a,rfl,ha⟩:=shInt h1;obtain ⟨b,rfl,hb⟩:=shInt h2;obtain ⟨c,rfl,hc⟩:=shInt h3;obtain ⟨d,rfl,hd⟩:=shInt h4;obtain ⟨e,rfl,he⟩:=shInt h5;exact ⟨⟨a,b,c,d,e⟩,rfl⟩
theorem shHou {xs:List AV} (h:Sh Tryz.prog B20 33 xs):∃ H:Hou,xs=encHou H/\HouFit H:=by obtain ⟨ps,rfl,hp⟩:=sh_struct h rfl;obtain ⟨x,y,z,u,rfl,h1,h2,h3,h4⟩:=sh4 hp;obtain ⟨a,rfl,ha⟩:=shLst h1;obtain ⟨b,rfl,hb⟩:=shLex h2;obtain ⟨c,rfl⟩:=shCos h3;obtain ⟨d,rfl,hd⟩:=shInt h4;exact ⟨⟨a,b,c,d⟩,rfl,⟨ha,hb⟩⟩
theorem argHou {x:AV} (h:ArgSh Tryz.prog B20 33 x):∃ H:Hou,x=.agg (encHou H)/\HouFit H:=by obtain ⟨xs,h,hx⟩:=h;have hx:x=.agg xs:=hx;subst hx;obtain ⟨H,rfl,hf⟩:=shHou h;exact ⟨H,rfl,hf⟩
theorem args2 {ts:List TypeId} {a b:TypeId} {xs:List AV} (ht:ts=[a,b]) (h:ArgShs Tryz.prog B20 ts xs):∃ x y,xs=[x,y]/\ArgSh Tryz.prog B20 a x/\ArgSh Tryz.prog B20 b y:=by
 subst ht
 match xs,h with
 | [x,y],⟨h1,h2,_⟩=>exact ⟨x,y,rfl,h1,h2⟩
end Go.Abs.Wall
namespace Go.Abs.Wall
open Go Go.Abs Go.Proofs
end Go.Abs.Wall
namespace Go.Abs.Wall
structure Wy where
 cost:Int
 edge:Nat
 rank:Nat
def wlt (x y:Wy):Prop:=x.cost<y.cost\/(x.cost=y.cost/\x.edge<y.edge)
theorem wlt.irr {x:Wy}:¬ wlt x x:=by unfold wlt;omega
theorem wlt.trans {x y z:Wy} (h1:wlt x y) (h2:wlt y z):wlt x z:=by unfold wlt at *;omega
theorem wlt.anti {x y:Wy} (h1:wlt x y) (h2:wlt y x):False:=wlt.irr (h1.trans h2)
def Cand (cls:List (List Int)) (rs:Nat->Nat) (x:Wy):Prop:=x.rank=rs x.edge/\∃ l,cls[x.edge]?=some l/\l[x.rank]?=some x.cost
theorem Cand.eq {cls:List (List Int)} {rs:Nat->Nat} {x y:Wy} (h1:Cand cls rs x) (h2:Cand cls rs y) (h:x.edge=y.edge):x=y:=by
 obtain ⟨a1,l,a2,a3⟩:=h1;obtain ⟨b1,m,b2,b3⟩:=h2;obtain ⟨c,e,r⟩:=x;obtain ⟨c',e',r'⟩:=y;simp only at h a1 a2 a3 b1 b2 b3;subst h;subst a1 b1;rw [a2] at b2;cases b2
 rw [a3] at b3;cases b3
 rfl
def bestGo (rs:Nat->Nat):List (List Int)->Nat->Option Wy
 | [],_=>none
 | l::ls,k=>match l[rs k]? with
   | none=>bestGo rs ls (k+1)
   | some c=>match bestGo rs ls (k+1) with
     | none=>some ⟨c,k,rs k⟩
     | some y=>if c<=y.cost then some ⟨c,k,rs k⟩ else some y
theorem bestGo_none {rs:Nat->Nat}:∀ {ls:List (List Int)} {k:Nat},bestGo rs ls k=none->∀ (j:Nat) l,ls[j]?=some l->l[rs (k+j)]?=none
 | [],k,h,j,l,hj=>by simp at hj
 | l0::ls,k,h,j,l,hj=>by
   unfold bestGo at h;cases hc:l0[rs k]? with
   | none=>
     simp only [hc] at h;cases j with
     | zero=>simp at hj;subst hj;exact hc
     | succ j=>
       have:=bestGo_none h j l (by simpa using hj);rwa [show k+1+j=k+(j+1) by omega] at this
   | some c=>
     simp only [hc] at h;cases hb:bestGo rs ls (k+1) with
     | none=>simp [hb] at h
     | some y=>simp only [hb] at h;split at h<;>cases h
theorem bestGo_some {rs:Nat->Nat}:∀ {ls:List (List Int)} {k:Nat} {x:Wy},bestGo rs ls k=some x ->
  k<=x.edge/\x.rank=rs x.edge/\(∃ l,ls[x.edge - k]?=some l/\l[x.rank]?=some x.cost)/\∀ (j:Nat) l c,ls[j]?=some l->l[rs (k+j)]?=some c->k+j=x.edge\/x.cost<c\/(x.cost=c/\x.edge<k+j)
 | [],k,x,h=>by simp [bestGo] at h
 | l0::ls,k,x,h=>by
   unfold bestGo at h;cases hc:l0[rs k]? with
   | none=>
     simp only [hc] at h;obtain ⟨a1,a2,⟨l,a3,a4⟩,a5⟩:=bestGo_some h;refine ⟨by omega,a2,⟨l,?_,a4⟩,fun j l c hj hl=>?_⟩
     ·rw [show x.edge - k=(x.edge - (k+1))+1 by omega];simpa using a3
     cases j with
     | zero=>simp at hj;subst hj;rw [Nat.add_zero,hc] at hl;cases hl
     | succ j=>
       have:=a5 j l c (by simpa using hj) (by rwa [show k+1+j=k+(j+1) by omega]);rw [show k+1+j=k+(j+1) by omega] at this;exact this
   | some c0=>
     simp only [hc] at h;have own:∀ (y:Wy),y=⟨c0,k,rs k⟩->k<=y.edge/\y.rank=rs y.edge/\(∃ l,(l0::ls)[y.edge - k]?=some l/\l[y.rank]?=some y.cost):=by rintro y rfl;exact ⟨Nat.le_refl _,rfl,l0,by simp,hc⟩
     cases hb:bestGo rs ls (k+1) with
     | none=>
       simp only [hb] at h;cases h
       obtain ⟨o1,o2,o3⟩:=own _ rfl;refine ⟨o1,o2,o3,fun j l c hj hl=>?_⟩;cases j with
       | zero=>exact .inl rfl
       | succ j=>
         have:=bestGo_none hb j l (by simpa using hj);rw [show k+1+j=k+(j+1) by omega,hl] at this;cases this
     | some y=>
       simp only [hb] at h;obtain ⟨a1,a2,⟨l,a3,a4⟩,a5⟩:=bestGo_some hb;split at h
       ·rename_i hle;cases h
        obtain ⟨o1,o2,o3⟩:=own _ rfl;refine ⟨o1,o2,o3,fun j l c hj hl=>?_⟩;cases j with
        | zero=>exact .inl rfl
        | succ j=>
          have:=a5 j l c (by simpa using hj) (by rwa [show k+1+j=k+(j+1) by omega]);have h3:(⟨c0,k,rs k⟩:Wy).cost=c0:=rfl;have h4:(⟨c0,k,rs k⟩:Wy).edge=k:=rfl;rw [h3,h4];by_cases hq:c0<c
          ·exact .inr (.inl hq)
          refine .inr (.inr ⟨?_,by omega⟩);rcases this with e|e|e
          ·have h5:l[y.rank]?=some c:=by rw [a2,<- e,show k+1+j=k+(j+1) by omega];exact hl
           have h6:ls[j]?=some l:=(by simpa using hj);rw [show y.edge - (k+1)=j by omega,h6] at a3;cases a3
           rw [h5] at a4;cases a4
           omega
          ·omega
          omega
       rename_i hle;cases h
       refine ⟨by omega,a2,⟨l,?_,a4⟩,fun j l c hj hl=>?_⟩
       ·rw [show x.edge - k=(x.edge - (k+1))+1 by omega];simpa using a3
       cases j with
       | zero=>
         simp at hj;subst hj;rw [Nat.add_zero,hc] at hl;cases hl
         exact .inr (.inl (by omega))
       | succ j=>
         have:=a5 j l c (by simpa using hj) (by rwa [show k+1+j=k+(j+1) by omega]);rw [show k+1+j=k+(j+1) by omega] at this;exact this
def best (cls:List (List Int)) (rs:Nat->Nat):Option Wy:=bestGo rs cls 0
theorem best_none {cls:List (List Int)} {rs:Nat->Nat} (h:best cls rs=none) (x:Wy):¬ Cand cls rs x:=by rintro ⟨h1,l,h2,h3⟩;have:=bestGo_none h x.edge l h2;rw [Nat.zero_add,<- h1,h3] at this;cases this
theorem best_some {cls:List (List Int)} {rs:Nat->Nat} {x:Wy} (h:best cls rs=some x):Cand cls rs x/\∀ y,Cand cls rs y->y=x\/wlt x y:=by
 obtain ⟨a1,a2,⟨l,a3,a4⟩,a5⟩:=bestGo_some h;have hx:Cand cls rs x:=⟨a2,l,by simpa using a3,a4⟩;refine ⟨hx,fun y hy=>?_⟩;obtain ⟨b1,m,b2,b3⟩:=hy;have:=a5 y.edge m y.cost b2 (by rw [Nat.zero_add,<- b1];exact b3);rw [Nat.zero_add] at this;rcases this with e|e|e
 ·exact .inl (Cand.eq ⟨b1,m,b2,b3⟩ hx e)
 ·exact .inr (.inl e)
 exact .inr (.inr e)
theorem best_of {cls:List (List Int)} {rs:Nat->Nat} {x:Wy} (h:Cand cls rs x) (hm:∀ y,Cand cls rs y->y=x\/wlt x y):best cls rs=some x:=by
 cases hb:best cls rs with
 | none=>exact absurd h (best_none hb x)
 | some y=>
   obtain ⟨h1,h2⟩:=best_some hb;rcases hm y h1 with rfl|e
   ·rfl
   rcases h2 x h with rfl|e2
   ·rfl
   exact (e.anti e2).elim
theorem best_empty {cls:List (List Int)} {rs:Nat->Nat} (h:∀ x,¬ Cand cls rs x):best cls rs=none:=by
 cases hb:best cls rs with
 | none=>rfl
 | some y=>exact absurd (best_some hb).1 (h y)
def up (rs:Nat->Nat) (k:Nat):Nat->Nat:=fun j=>if j=k then rs k+1 else rs j
def zro:Nat->Nat:=fun _=>0
def gen (cls:List (List Int)):Nat->(Nat->Nat)->List Wy
 | 0,_=>[]
 | n+1,rs=>match best cls rs with
   | none=>[]
   | some x=>x::gen cls n (up rs x.edge)
def stF (cls:List (List Int)):Nat->(Nat->Nat)->Nat->Nat
 | 0,rs=>rs
 | t+1,rs=>match best cls rs with
   | none=>rs
   | some x=>stF cls t (up rs x.edge)
theorem gen_get {cls:List (List Int)}:∀ (n t:Nat) (rs:Nat->Nat),(gen cls n rs)[t]?=if t<n then best cls (stF cls t rs) else none
 | 0,t,rs=>by simp [gen]
 | n+1,t,rs=>by
   unfold gen;cases hb:best cls rs with
   | none=>
     cases t with
     | zero=>simp [stF,hb]
     | succ t=>simp [stF,hb]
   | some x=>
     cases t with
     | zero=>simp [stF,hb]
     | succ t=>
       simp only [List.getElem?_cons_succ,stF,hb];rw [gen_get n t];by_cases h:t<n
       ·rw [if_pos h,if_pos (by omega)]
       rw [if_neg h,if_neg (by omega)]
theorem stF_succ {cls:List (List Int)}:∀ (t:Nat) (rs:Nat->Nat),stF cls (t+1) rs=match best cls (stF cls t rs) with
  | none=>stF cls t rs
  | some x=>up (stF cls t rs) x.edge
 | 0,rs=>by unfold stF;cases best cls rs<;>rfl
 | t+1,rs=>by
   have h:stF cls (t+1+1) rs=match best cls rs with
     | none=>rs
     | some x=>stF cls (t+1) (up rs x.edge):=rfl
   have h2:stF cls (t+1) rs=match best cls rs with
     | none=>rs
     | some x=>stF cls t (up rs x.edge):=rfl
   rw [h,h2];cases hb:best cls rs with
   | none=>simp only [hb]
   | some x=>simp only;exact stF_succ t _
theorem stF_le {cls:List (List Int)}:∀ (t:Nat) (rs:Nat->Nat) (k:Nat),stF cls t rs k<=rs k+t
 | 0,rs,k=>by simp [stF]
 | t+1,rs,k=>by
   unfold stF;cases hb:best cls rs with
   | none=>simp
   | some x=>
     simp only;have:=stF_le (cls:=cls) t (up rs x.edge) k;have h2:up rs x.edge k<=rs k+1:=by unfold up;split<;>(try subst_vars)<;>omega
     omega
def remGo (rs:Nat->Nat):List (List Int)->Nat->Nat
 | [],_=>0
 | l::ls,k=>(l.length - rs k)+remGo rs ls (k+1)
theorem remGo_zero {rs:Nat->Nat}:∀ {ls:List (List Int)} {k:Nat},remGo rs ls k=0->bestGo rs ls k=none
 | [],k,_=>rfl
 | l::ls,k,h=>by
   unfold remGo at h;unfold bestGo;have h1:l[rs k]?=none:=by rw [List.getElem?_eq_none_iff];omega
   rw [h1];exact remGo_zero (by omega)
theorem remGo_out {rs:Nat->Nat} {e:Nat}:∀ {ls:List (List Int)} {k:Nat},e<k->remGo (up rs e) ls k=remGo rs ls k
 | [],k,_=>rfl
 | l::ls,k,h=>by unfold remGo;rw [remGo_out (by omega)];unfold up;rw [if_neg (by omega)]
theorem remGo_up {rs:Nat->Nat} {e:Nat}:∀ {ls:List (List Int)} {k:Nat} {l:List Int},k<=e->ls[e - k]?=some l->rs e<l.length->remGo (up rs e) ls k+1=remGo rs ls k
 | [],k,l,_,h,_=>by simp at h
 | l0::ls,k,l,hk,h,hl=>by
   unfold remGo;by_cases he:e=k
   ·subst he;rw [remGo_out (by omega)];simp at h;subst h;unfold up;rw [if_pos rfl];omega
   have:=remGo_up (rs:=rs) (e:=e) (ls:=ls) (k:=k+1) (l:=l) (by omega) (by rw [show e - k=(e - (k+1))+1 by omega] at h;simpa using h) hl;rw [show up rs e k=rs k by unfold up;rw [if_neg (by omega)]];omega
theorem rem_end {cls:List (List Int)}:∀ (t:Nat) (rs:Nat->Nat),remGo rs cls 0<=t->best cls (stF cls t rs)=none
 | 0,rs,h=>by show bestGo rs cls 0=none;exact remGo_zero (by omega)
 | t+1,rs,h=>by
   unfold stF;cases hb:best cls rs with
   | none=>simpa using hb
   | some x=>
     simp only;obtain ⟨⟨h1,l,h2,h3⟩,_⟩:=best_some hb;have hl:=(List.getElem?_eq_some_iff.1 h3).1;have:=remGo_up (rs:=rs) (e:=x.edge) (ls:=cls) (k:=0) (l:=l) (Nat.zero_le _) (by simpa using h2) (by omega);exact rem_end t _ (by omega)
def mgW (cls:List (List Int)):List Wy:=gen cls (remGo zro cls 0) zro
def stS (cls:List (List Int)) (t:Nat):Nat->Nat:=stF cls t zro
theorem mgW_get (cls:List (List Int)) (t:Nat):(mgW cls)[t]?=best cls (stS cls t):=by
 unfold mgW stS;rw [gen_get];by_cases h:t<remGo zro cls 0
 ·rw [if_pos h]
 rw [if_neg h,rem_end t zro (by omega)]
theorem stS_le (cls:List (List Int)) (t k:Nat):stS cls t k<=t:=by have:=stF_le (cls:=cls) t zro k;unfold stS zro at *;omega
theorem stS_succ {cls:List (List Int)} {t:Nat} {x:Wy} (h:(mgW cls)[t]?=some x):stS cls (t+1)=up (stS cls t) x.edge:=by rw [mgW_get] at h;unfold stS at h ⊢;rw [stF_succ,h]
theorem stS_stay {cls:List (List Int)} {t:Nat} (h:(mgW cls)[t]?=none):stS cls (t+1)=stS cls t:=by rw [mgW_get] at h;unfold stS at h ⊢;rw [stF_succ,h]
theorem mgW_cand {cls:List (List Int)} {t:Nat} {x:Wy} (h:(mgW cls)[t]?=some x):Cand cls (stS cls t) x:=by rw [mgW_get] at h;exact (best_some h).1
theorem mgW_rank {cls:List (List Int)} {t:Nat} {x:Wy} (h:(mgW cls)[t]?=some x):x.rank<=t:=by have:=(mgW_cand h).1;have:=stS_le cls t x.edge;omega
structure NodeOK (cls:List (List Int)) (t:Nat) (due:Bool) (Q:List Wy):Prop where
 le:t<=(mgW cls).length
 sorted:Q.Pairwise wlt
 mem:∀ x,x∈Q↔Cand cls (stS cls t) x/\(due=true->∀ y,(mgW cls)[t - 1]?=some y->x.edge≠y.edge)
 pos:due=true->1<=t
theorem NodeOK.last {cls:List (List Int)} {t:Nat} {Q:List Wy} (h:NodeOK cls t true Q):∃ y,(mgW cls)[t - 1]?=some y:=by have h1:=h.le;have h2:=h.pos rfl;exact ⟨_,List.getElem?_eq_getElem (by omega)⟩
theorem NodeOK.empty {cls:List (List Int)} {t:Nat} (h:NodeOK cls t false []):(mgW cls)[t]?=none:=by rw [mgW_get];refine best_empty fun x hx=>?_;have:=(h.mem x).2 ⟨hx,fun e=>by cases e⟩;cases this
theorem NodeOK.pop {cls:List (List Int)} {t:Nat} {x:Wy} {Q:List Wy} (h:NodeOK cls t false (x::Q)):(mgW cls)[t]?=some x/\NodeOK cls (t+1) true Q:=by
 have hs:=List.pairwise_cons.1 h.sorted;have hx:Cand cls (stS cls t) x:=((h.mem x).1 (by simp)).1
 have hg:(mgW cls)[t]?=some x:=by
  rw [mgW_get];refine best_of hx fun y hy=>?_;have:=(h.mem y).2 ⟨hy,fun e=>by cases e⟩;rcases List.mem_cons.1 this with rfl|hm
  ·exact .inl rfl
  exact .inr (hs.1 y hm)
 refine ⟨hg,?_,hs.2,fun y=>?_,fun _=>by omega⟩
 ·have:=(List.getElem?_eq_some_iff.1 hg).1;omega
 rw [stS_succ hg,show t+1 - 1=t by omega,hg];constructor
 ·intro hy;have hc:=((h.mem y).1 (List.mem_cons_of_mem _ hy)).1;have hne:y.edge≠x.edge:=fun e=>by have:=Cand.eq hc hx e;subst this;exact wlt.irr (hs.1 _ hy)
  refine ⟨⟨?_,hc.2⟩,fun _ z hz=>by cases hz;exact hne⟩;unfold up;rw [if_neg hne];exact hc.1
 rintro ⟨⟨h1,h2⟩,h3⟩;have hne:=h3 rfl x rfl;unfold up at h1;rw [if_neg hne] at h1;have:=(h.mem y).2 ⟨⟨h1,h2⟩,fun e=>by cases e⟩;rcases List.mem_cons.1 this with rfl|hm
 ·exact absurd rfl hne
 exact hm
def wltB (x y:Wy):Bool:=decide (x.cost<y.cost)||(decide (x.cost=y.cost)&&decide (x.edge<y.edge))
theorem wltB_iff {x y:Wy}:wltB x y=true↔wlt x y:=by unfold wltB wlt;simp
def idxW (x:Wy):List Wy->Nat
 | []=>0
 | y::Q=>if wltB y x=true then idxW x Q+1 else 0
def insW (x:Wy) (Q:List Wy):List Wy:=Q.take (idxW x Q)++x::Q.drop (idxW x Q)
theorem idxW_le (x:Wy):∀ Q,idxW x Q<=Q.length
 | []=>Nat.le_refl _
 | y::Q=>by
   unfold idxW;split
   ·have:=idxW_le x Q;simp;omega
   omega
theorem insW_mem {x y:Wy} {Q:List Wy}:y∈insW x Q↔y=x\/y∈Q:=by
 unfold insW;constructor
 ·intro h;rcases List.mem_append.1 h with h|h
  ·exact .inr (List.mem_of_mem_take h)
  rcases List.mem_cons.1 h with h|h
  ·exact .inl h
  exact .inr (List.mem_of_mem_drop h)
 rintro (rfl|h)
 ·simp
 rw [<- List.take_append_drop (idxW x Q) Q] at h;rcases List.mem_append.1 h with h|h
 ·exact List.mem_append.2 (.inl h)
 exact List.mem_append.2 (.inr (List.mem_cons_of_mem _ h))
theorem insW_length (x:Wy) (Q:List Wy):(insW x Q).length=Q.length+1:=by have:=idxW_le x Q;unfold insW;simp;omega
theorem idxW_before {x:Wy}:∀ {Q:List Wy} {j:Nat} {y:Wy},j<idxW x Q->Q[j]?=some y->wlt y x
 | [],j,y,h,_=>by simp [idxW] at h
 | z::Q,j,y,h,hy=>by
   unfold idxW at h;split at h
   ·rename_i hz;cases j with
    | zero=>simp at hy;subst hy;exact wltB_iff.1 hz
    | succ j=>exact idxW_before (x:=x) (Q:=Q) (j:=j) (by omega) (by simpa using hy)
   omega
theorem idxW_at {x:Wy}:∀ {Q:List Wy} {y:Wy},Q[idxW x Q]?=some y->¬ wlt y x
 | [],y,h=>by simp at h
 | z::Q,y,h=>by
   unfold idxW at h;split at h
   ·exact idxW_at (by simpa using h)
   rename_i hz;simp at h;subst h;exact fun e=>hz (wltB_iff.2 e)
theorem idxW_after {x:Wy} {Q:List Wy} (hs:Q.Pairwise wlt) {j:Nat} {y:Wy} (hj:idxW x Q<=j) (hy:Q[j]?=some y):¬ wlt y x:=by
 have hjl:=(List.getElem?_eq_some_iff.1 hy).1;have h1:Q[idxW x Q]?=some Q[idxW x Q]:=List.getElem?_eq_getElem (by omega);have h2:=idxW_at h1;by_cases he:j=idxW x Q
 ·subst he;rw [h1] at hy;cases hy
  exact h2
 have h3:=List.pairwise_iff_getElem.1 hs (idxW x Q) j (by omega) hjl (by omega);have h4:Q[j]=y:=(List.getElem?_eq_some_iff.1 hy).2;rw [h4] at h3;exact fun e=>h2 (h3.trans e)
theorem wlt.tri {x y:Wy} (h:x.edge≠y.edge) (hn:¬ wlt y x):wlt x y:=by unfold wlt at *;omega
theorem insW_sorted {x:Wy} {Q:List Wy} (hs:Q.Pairwise wlt) (hn:∀ y∈Q,y.edge≠x.edge):(insW x Q).Pairwise wlt:=by
 unfold insW;rw [List.pairwise_append];refine ⟨List.Pairwise.sublist (List.take_sublist _ _) hs,?_,?_⟩
 ·rw [List.pairwise_cons];refine ⟨fun y hy=>?_,List.Pairwise.sublist (List.drop_sublist _ _) hs⟩;obtain ⟨j,hj⟩:=List.mem_iff_getElem?.1 hy;rw [List.getElem?_drop] at hj;exact wlt.tri (fun e=>hn y (List.mem_of_mem_drop hy) e.symm) (idxW_after hs (by omega) hj)
 intro a ha b hb;obtain ⟨i,hi⟩:=List.mem_iff_getElem?.1 ha;have hil:=(List.getElem?_eq_some_iff.1 hi).1;rw [List.length_take] at hil;rw [List.getElem?_take_of_lt (by omega)] at hi;have h1:=idxW_before (x:=x) (Q:=Q) (j:=i) (by omega) hi;rcases List.mem_cons.1 hb with rfl|hb
 ·exact h1
 obtain ⟨j,hj⟩:=List.mem_iff_getElem?.1 hb;rw [List.getElem?_drop] at hj;exact h1.trans (wlt.tri (fun e=>hn b (List.mem_of_mem_drop hb) e.symm) (idxW_after hs (by omega) hj))
theorem NodeOK.skip {cls:List (List Int)} {t:Nat} {Q:List Wy} {y:Wy} (h:NodeOK cls t true Q) (hy:(mgW cls)[t - 1]?=some y) {l:List Int} (hl:cls[y.edge]?=some l) (hn:l[y.rank+1]?=none):NodeOK cls t false Q:=by
 have h2:=h.pos rfl;have hst:=stS_succ hy;rw [show t - 1+1=t by omega] at hst;have hyr:=(mgW_cand hy).1;refine ⟨h.le,h.sorted,fun x=>?_,fun e=>by cases e⟩;rw [h.mem x];constructor
 ·rintro ⟨h3,h4⟩;exact ⟨h3,fun e=>by cases e⟩
 rintro ⟨h3,_⟩;refine ⟨h3,fun _ z hz=>?_⟩;rw [hy] at hz;cases hz
 intro e;obtain ⟨q1,m,q2,q3⟩:=h3;rw [hst] at q1;unfold up at q1;rw [if_pos e,<- hyr] at q1;rw [e,hl] at q2;cases q2
 rw [q1,hn] at q3;cases q3
theorem NodeOK.push {cls:List (List Int)} {t:Nat} {Q:List Wy} {y:Wy} (h:NodeOK cls t true Q) (hy:(mgW cls)[t - 1]?=some y) {l:List Int} (hl:cls[y.edge]?=some l) {c:Int} (hn:l[y.rank+1]?=some c):NodeOK cls t false (insW ⟨c,y.edge,y.rank+1⟩ Q):=by
 have h2:=h.pos rfl;have hst:=stS_succ hy;rw [show t - 1+1=t by omega] at hst;have hyr:=(mgW_cand hy).1;have hedge:∀ x∈Q,x.edge≠y.edge:=fun x hx=>((h.mem x).1 hx).2 rfl y hy;have hnew:Cand cls (stS cls t) ⟨c,y.edge,y.rank+1⟩:=by refine ⟨?_,l,hl,hn⟩;rw [hst];unfold up;rw [if_pos rfl,<- hyr]
 refine ⟨h.le,insW_sorted h.sorted hedge,fun x=>?_,fun e=>by cases e⟩;rw [insW_mem,h.mem x];constructor
 ·rintro (rfl|⟨h3,_⟩)
  ·exact ⟨hnew,fun e=>by cases e⟩
  exact ⟨h3,fun e=>by cases e⟩
 rintro ⟨h3,_⟩;by_cases e:x.edge=y.edge
 ·exact .inl (Cand.eq h3 hnew e)
 refine .inr ⟨h3,fun _ z hz=>?_⟩;rw [hy] at hz;cases hz
 exact e
def begQ (cls:List (List Int)) (k:Nat) (Q:List Wy):Prop:=Q.Pairwise wlt/\∀ x,x∈Q↔Cand cls zro x/\x.edge<k
theorem begQ_zero (cls:List (List Int)):begQ cls 0 []:=⟨.nil,fun x=>by simp⟩
theorem begQ_skip {cls:List (List Int)} {k:Nat} {Q:List Wy} (h:begQ cls k Q) {l:List Int} (hl:cls[k]?=some l) (hn:l[0]?=none):begQ cls (k+1) Q:=by
 refine ⟨h.1,fun x=>?_⟩;rw [h.2 x];constructor
 ·rintro ⟨h1,h2⟩;exact ⟨h1,by omega⟩
 rintro ⟨h1,h2⟩;refine ⟨h1,?_⟩;by_cases e:x.edge=k
 ·obtain ⟨q1,m,q2,q3⟩:=h1;rw [e,hl] at q2;cases q2
  rw [q1,show zro x.edge=0 from rfl,hn] at q3;cases q3
 omega
theorem begQ_put {cls:List (List Int)} {k:Nat} {Q:List Wy} (h:begQ cls k Q) {l:List Int} (hl:cls[k]?=some l) {c:Int} (hn:l[0]?=some c):begQ cls (k+1) (insW ⟨c,k,0⟩ Q):=by
 have hnew:Cand cls zro ⟨c,k,0⟩:=⟨rfl,l,hl,hn⟩;refine ⟨insW_sorted h.1 (fun y hy=>?_),fun x=>?_⟩
 ·have:=((h.2 y).1 hy).2;show y.edge≠k;omega
 rw [insW_mem,h.2 x];constructor
 ·rintro (rfl|⟨h1,h2⟩)
  ·exact ⟨hnew,Nat.lt_succ_self _⟩
  exact ⟨h1,by omega⟩
 rintro ⟨h1,h2⟩;by_cases e:x.edge=k
 ·exact .inl (Cand.eq h1 hnew e)
 exact .inr ⟨h1,by omega⟩
theorem begQ_end {cls:List (List Int)} {Q:List Wy} (h:begQ cls cls.length Q):NodeOK cls 0 false Q:=by
 refine ⟨Nat.zero_le _,h.1,fun x=>?_,fun e=>by cases e⟩;rw [h.2 x];constructor
 ·rintro ⟨h1,_⟩;exact ⟨h1,fun e=>by cases e⟩
 rintro ⟨h1,_⟩;refine ⟨h1,?_⟩;obtain ⟨_,l,q,_⟩:=h1;exact (List.getElem?_eq_some_iff.1 q).1
end Go.Abs.Wall
