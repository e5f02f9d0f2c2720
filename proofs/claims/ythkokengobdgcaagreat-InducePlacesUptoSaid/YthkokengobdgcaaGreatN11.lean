/- What is proved: small laws for the walks of this seat, and contracts of its functions. No condition but those each theorem names. -/
import Derived.Test.YthkokengobdgcaaGreatN9
import Derived.Test.YthkokengobdgcaaGreatN7
import Derived.Test.YthkokengobdgcaaGreatN10
set_option maxRecDepth 100000
set_option maxHeartbeats 2000000
set_option linter.unusedVariables false
set_option linter.unusedSimpArgs false
namespace Go.Abs.Wall
open Go Go.Abs Go.Proofs
structure Vld where
 cost:Int
 at_:Int
 err:Int
deriving DecidableEq
structure WsFit (ws:List Wrd):Prop where
 many:ws.length≤1048576
 cl:∀ w∈ws,w.form.clitics.length≤1048576
 us:∀ w∈ws,w.uses.length≤1048576
 text:∀ w∈ws,∀ u∈w.uses,u.text.length≤1048576
end Go.Abs.Wall
namespace Go.Abs.Wall
open Go Go.Abs Go.Proofs
structure EdgOK (n i:Nat) (x:Edg):Prop where
 to:x.to=i+x.word.uses.length
 lo:(i:Int)<x.to
 hi:x.to≤n
 cost:0≤x.cost∧x.cost≤18000
 fit:WrdFit x.word
structure GOK (g:List (List Edg)):Prop where
 few:g.length≤60
 many:∀ (i:Nat) es,g[i]?=some es→es.length≤2000
 edge:∀ (i:Nat) es,g[i]?=some es→∀ x∈es,EdgOK g.length i x
theorem graphM_len (H:Hou) (line:List Int):(graphM H line).length=line.length:=by simp [graphM]
theorem graphM_get {H:Hou} {line:List Int} {i:Nat} (hi:i<line.length):(graphM H line)[i]?=some (edgsAt H line i):=by rw [graphM,List.getElem?_map,List.getElem?_range hi];rfl
theorem growOK {H:Hou} {line:List Int} (h:growErr H line=0):LineOK H line∧sumL (graphM H line)≤2000∧GOK (graphM H line):=by
 unfold growErr at h
 split at h
 ·rename_i h1;exact absurd h h1
 rename_i h1
 split at h
 ·cases h
 rename_i h2
 have hL:=lineOK (H:=H) (line:=line) (by simpa using h1)
 refine ⟨hL,by omega,⟨by rw [graphM_len];exact hL.few,fun i es hes=>?_,fun i es hes x hx=>?_⟩⟩
 ·have h3:=sumL_take (g:=graphM H line) (i+1)
  rw [take_snoc hes,sumL_snoc] at h3
  omega
 ·have hi:i<line.length:=by have:=(List.getElem?_eq_some_iff.1 hes).1;rwa [graphM_len] at this
  rw [graphM_get hi] at hes
  cases hes
  obtain ⟨ha,hb,hc⟩:=edgsAt_mem hL.hou hL.signs (by omega) x hx
  have:=ha.to
  have:=ha.some
  have h5:=ha.cl
  have h6:=ha.few
  exact ⟨ha.to,by omega,by rw [graphM_len];omega,hc,⟨by omega,by omega⟩⟩
def graphL (H:Hou) (line:List Int):List (List Edg):=if growErr H line=0 then graphM H line else []
def c126:Cfg:=⟨[0,1,2,4,5,6,7,8,9,10,11,12,16,23,31,43],[],[],[],[],[]⟩
def c159:Cfg:=⟨[0,1,2,6,7,8,9,19,34,44],[],[],[],[],[]⟩
theorem refGraph (H:Hou) (line:List Int) (hf:HouFit H) (hl:line.length≤1048576) :
  QCall Tryz.prog 126 [.agg (encHou H),.sl 1 none (ints line)] [] (.tup [.sl 1 none ((graphL H line).map encEdgs),.int .i64 (growErr H line)]):=by
 refine QCall.of ?_
 refine fcalls (F:=Tryz.f126) c126 rfl rfl rfl mixed rfl fun X=>?_
 conv=>whnf
 repeat (refine QCall.k0 (refHouse H hf) ?_;conv=>whnf)
 refine ⟨fun h0=>?_,fun h0=>?_⟩<;>simp at h0
 ·have h1:lineErr H line=houErr H:=by rw [lineErr,if_pos h0]
  have he:growErr H line=houErr H:=by rw [growErr,h1,if_pos h0]
  conv=>whnf
  skip
  rw [graphL,he,if_neg h0]
  exact VLe.tup (.cons (VLe.nil (by decide)) (.cons (VLe.refl _) .nil))
 conv=>whnf
 repeat (refine QCall.k0 (refLineH hf h0 (line:=line) (by unfold LMAX;omega)) ?_;conv=>whnf)
 refine ⟨fun h1=>?_,fun h1=>?_⟩<;>simp at h1
 ·have he:growErr H line=lineErr H line:=by rw [growErr,if_pos h1]
  conv=>whnf
  skip
  rw [graphL,he,if_neg h1]
  exact VLe.tup (.cons (VLe.nil (by decide)) (.cons (VLe.refl _) .nil))
 have hL:=lineOK h1
 have hfew:=hL.few
 have hg:growErr H line=if 2000<sumL (graphM H line) then 2 else 0:=by rw [growErr,if_neg (by omega)]
 obtain ⟨G,hG⟩:∃ G,G=graphM H line:=⟨_,rfl⟩
 have hGl:G.length=line.length:=by rw [hG];exact graphM_len H line
 have hGi:∀ i,i<line.length→G[i]?=some (edgsAt H line i):=fun i hi=>by rw [hG];exact graphM_get hi
 rw [← hG] at hg
 conv=>whnf
 repeat (refine QCall.k0 (refTable H line hf hL) ?_;conv=>whnf)
 refine tloop rfl mixed [1,2,8,9,10,11] [] (fun m r h=>∃ (i:Nat) (v:AV) (hp:Heap),r=[(1,[],.sl 1 none (ints line)),(2,[],.iptr (encHou H)),(8,[],.sl 1 none ((line.map (usesAt H)).map encUses)),(9,[],v),(10,[],.int .i64 (sumL (G.take i):Nat)),(11,[],.int .i64 i)]∧h=hp∧m=line.length - i∧i≤line.length∧sumL (G.take i)≤2000∧Out 1 encEdgs (G.take i) v hp) ?_ ?_
 ·conv=>whnf
  exact ⟨_,_,Turn.refl _ _,_,0,_,[],by simp [sumL],rfl,rfl,by omega,by simp [sumL],.inl ⟨by simp,rfl,rfl⟩⟩
 ·rintro m r h' ⟨i,v,hp,rfl,rfl,rfl,hi,hsum,ho⟩
  conv=>whnf
  skip
  refine ⟨fun hi2=>?_,fun hi2=>?_⟩<;>simp at hi2
  ·have hgi:=hGi i hi2
   have htk:=take_snoc hgi
   have hsn:sumL (G.take (i+1))=sumL (G.take i)+(edgsAt H line i).length:=by rw [htk,sumL_snoc]
   have hst:=sumL_take (g:=G) (i+1)
   have hq:=refWordsQ H (line.map (usesAt H)) i (tabW_line hf hL (by omega))
   by_cases hb:(edgsAt H line i).length≤2000
   ·rw [refWords_fits hb] at hq
    have hel:((edgsAt H line i).map encEdg).length=(edgsAt H line i).length:=List.length_map _
    by_cases hbig:2000<sumL (G.take (i+1))
    ·have he:growErr H line=2:=by rw [hg,if_pos (by omega)]
     conv=>whnf
     repeat ((first|refine ⟨gP_of ⟨by omega,by omega⟩,?_⟩|refine QCall.k0 (hq) ?_);conv=>whnf)
     refine cT (by simp;omega) ?_
     conv=>whnf
     skip
     rw [graphL,he,if_neg (by decide)]
     exact VLe.tup (.cons (VLe.nil (by decide)) (.cons (VLe.refl _) .nil))
    ·rcases ho with ⟨he,rfl,rfl⟩|⟨q,rfl,rfl⟩
     all_goals
      conv=>whnf
      repeat ((first|refine ⟨gP_of ⟨by omega,by omega⟩,?_⟩|refine QCall.k0 (hq) ?_);conv=>whnf)
      refine cF (by simp;omega) ?_
      conv=>whnf
      repeat ((first|refine ⟨gP_of ⟨by omega,by omega⟩,?_⟩|(refine ⟨Nat.le_of_ble_eq_true rfl,fun q'=>?_⟩)|(refine ⟨(by simp;unfold AMAX;omega),fun q'=>⟨_,.here _,?_⟩⟩));conv=>whnf)
      rw [show ((sumL (G.take i):Nat):Int)+((((edgsAt H line i).map encEdg).length:Nat):Int)=((sumL (G.take (i+1)):Nat):Int) by rw [hsn,hel,Int.natCast_add]]
      refine ⟨_,_,Turn.refl _ _,_,(by omega),i+1,_,_,rfl,rfl,rfl,by omega,by omega,.inr ⟨q',?_,rfl⟩⟩
      rw [htk,List.map_append]
      first|done|rfl|(rw [he];done)|(rw [he];rfl)
   ·have hlg:=refWords_long (H:=H) (line:=line) (a:=i) (by omega)
    have he:growErr H line=2:=by rw [hg,if_pos (by omega)]
    have hel:((refWords H (line.map (usesAt H)) i).map encEdg).length=2001:=by rw [List.length_map,hlg]
    conv=>whnf
    repeat ((first|refine ⟨gP_of ⟨by omega,by omega⟩,?_⟩|refine QCall.k0 (hq) ?_);conv=>whnf)
    refine cT (by simp only [decide_eq_true_eq];omega) ?_
    conv=>whnf
    skip
    rw [graphL,he,if_neg (by decide)]
    exact VLe.tup (.cons (VLe.nil (by decide)) (.cons (VLe.refl _) .nil))
  ·rw [List.take_of_length_le (by omega)] at hsum ho
   have he:growErr H line=0:=by rw [hg,if_neg (by omega)]
   conv=>whnf
   skip
   rw [graphL,he,if_pos rfl,← hG]
   exact VLe.tup (.cons (ho.le (by decide)) (.cons (VLe.refl _) .nil))
end Go.Abs.Wall
namespace Go.Abs.Wall
open Go Go.Abs Go.Proofs
def encB (b:Bool):List AV:=[.bool b]
theorem encB_len:∀ b,(encB b).length=1:=fun _=>rfl
def markK (want:Nat→Nat→Bool) (a:Nat):List Edg→Nat→List Bool→List Bool
 | [],_,l=>l
 | x::t,k,l=>markK want a t (k+1) (if (l.getD a false&&want a k)=true then l.set x.to.toNat true else l)
def reachGo (want:Nat→Nat→Bool):List (List Edg)→Nat→List Bool→List Bool
 | [],_,l=>l
 | es::g,i,l=>reachGo want g (i+1) (markK want i es 0 l)
def reachM (g:List (List Edg)) (want:Nat→Nat→Bool):List Bool:=reachGo want g 0 ((List.replicate (g.length+1) false).set 0 true)
theorem markK_len (want:Nat→Nat→Bool) (a:Nat):∀ (es:List Edg) (k:Nat) (l:List Bool),(markK want a es k l).length=l.length
 | [],_,l=>rfl
 | x::t,k,l=>by
   unfold markK
   rw [markK_len want a t]
   split<;>simp
theorem reachGo_len (want:Nat→Nat→Bool):∀ (g:List (List Edg)) (i:Nat) (l:List Bool),(reachGo want g i l).length=l.length
 | [],_,l=>rfl
 | es::g,i,l=>by unfold reachGo;rw [reachGo_len want g,markK_len]
theorem reachM_len (g:List (List Edg)) (want:Nat→Nat→Bool):(reachM g want).length=g.length+1:=by unfold reachM;rw [reachGo_len];simp
theorem markK_off {want:Nat→Nat→Bool} {a:Nat}:∀ {es:List Edg} {k:Nat} {l:List Bool},l.getD a false=false→markK want a es k l=l
 | [],_,l,_=>rfl
 | x::t,k,l,h=>by
   unfold markK
   rw [if_neg (by rw [h];simp)]
   exact markK_off h
theorem getD_of {α:Type} {l:List α} {i:Nat} {x d:α} (h:l[i]?=some x):l.getD i d=x:=by rw [List.getD_eq_getElem?_getD,h];rfl
theorem boolRow0 (n:Nat):repC n [AV.bool false]=((List.replicate n false).map encB).flatten:=by
 rw [repC_one]
 induction n with
 | zero=>rfl
 | succ n ih=>rw [List.replicate_succ,List.replicate_succ,List.map_cons,List.flatten_cons,← ih];rfl
theorem boolRow {f:FuncId} {vs:List AV} {h:Heap} {l:List Bool} {n:Nat} (hn:l.length=n) (hf:ACalls Tryz.prog f vs [] (fun v h'=>∃ b Z,v=.osl b 0 n 1∧h'=(b,.vec (l.map encB).flatten)::Z)):QCall Tryz.prog f vs [] (.sl 1 none (l.map encB)):=by
 refine QCall.of (ACalls.frz hf ?_)
 rintro v h1 ⟨b,Z,rfl,rfl⟩
 exact ⟨b,_,Z,Z,_,.here _,FzH.refl _,fzEnc encB_len hn,VLe.refl _⟩
def wantE (pl nu:Int) (a k:Nat):Bool:=!decide ((a:Int)=pl)||!decide ((k:Int)=nu)
theorem refReached (g:List (List Edg)) (pl nu:Int) (hg:GOK g):QCall Tryz.prog 159 [.sl 1 none (g.map encEdgs),.int .i64 pl,.int .i64 nu] [] (.sl 1 none ((reachM g (wantE pl nu)).map encB)):=by
 have hfew:=hg.few
 refine boolRow (h:=[]) (reachM_len g _) ?_
 refine fcalls (F:=Tryz.f159) c159 rfl rfl rfl mixed rfl fun X=>?_
 conv=>whnf
 repeat ((first|(refine ⟨gP_of ⟨by rw [List.length_map];omega,by rw [List.length_map];omega⟩,?_⟩)|(refine ⟨⟨rfl,by rw [List.length_map];omega,by rw [List.length_map];omega⟩,fun b=>?_⟩));conv=>whnf)
 rw [boolRow0,show (((g.map encEdgs).length:Int)+1).toNat=g.length+1 by rw [List.length_map];omega]
 repeat ((first|(refine ixo (i:=0) (by omega) ?_)|(refine stE true (by decide) encB_len (i:=0) (by simp) (Nat.zero_add _) rfl (.here _) ?_));conv=>whnf)
 obtain ⟨l0,hl0⟩:∃ l,l=(List.replicate (g.length+1) false).set 0 true:=⟨_,rfl⟩
 have hrm:reachM g (wantE pl nu)=reachGo (wantE pl nu) g 0 l0:=by rw [hl0];rfl
 rw [← hl0,hrm]
 refine sloop rfl mixed [0,1,2,7,8] [] (fun m r h=>∃ (i:Nat) (l:List Bool),r=[(0,[],.sl 1 none (g.map encEdgs)),(1,[],.int .i64 pl),(2,[],.int .i64 nu),(7,[],.osl b 0 (g.length+1) 1),(8,[],.int .i64 i)]∧h=[(b,.vec (l.map encB).flatten)]∧m=g.length - i∧i≤g.length∧l.length=g.length+1∧reachGo (wantE pl nu) g 0 l0=reachGo (wantE pl nu) (g.drop i) i l) ?_ ?_
 ·conv=>whnf
  exact ⟨_,0,l0,rfl,rfl,rfl,by omega,by rw [hl0];simp,rfl⟩
 ·rintro m r h ⟨i,l,rfl,rfl,rfl,hi,hl,hgo⟩
  conv=>whnf
  skip
  refine ⟨fun hi2=>?_,fun hi2=>?_⟩<;>simp at hi2
  ·obtain ⟨es,hes⟩:=get_lt hi2
   have hmany:=hg.many i es hes
   rw [drop_cons hes,reachGo] at hgo
   conv=>whnf
   skip
   refine sloop rfl mixed [0,1,2,7,8,9] [] (fun m r h=>∃ (k:Nat) (l:List Bool),r=[(0,[],.sl 1 none (g.map encEdgs)),(1,[],.int .i64 pl),(2,[],.int .i64 nu),(7,[],.osl b 0 (g.length+1) 1),(8,[],.int .i64 i),(9,[],.int .i64 k)]∧h=[(b,.vec (l.map encB).flatten)]∧m=es.length - k∧k≤es.length∧l.length=g.length+1∧reachGo (wantE pl nu) g 0 l0=reachGo (wantE pl nu) (g.drop (i+1)) (i+1) (markK (wantE pl nu) i (es.drop k) k l)) ?_ ?_
   ·conv=>whnf
    exact ⟨_,0,l,rfl,rfl,rfl,by omega,hl,hgo⟩
   ·clear hgo hl
    rintro m r h ⟨k,l,rfl,rfl,rfl,hk,hl,hgo⟩
    obtain ⟨li,hli⟩:=get_lt (l:=l) (i:=i) (by omega)
    conv=>whnf
    repeat ((first|refine ix (by assumption) ?_|(refine ixo (i:=i) (by omega) ?_)|(refine ldE encB_len (.head _) (Nat.zero_add _) hli ?_));conv=>whnf)
    have hgd:=getD_of (d:=false) hli
    refine ⟨fun hc=>?_,fun hc=>?_⟩
    ·have hc:(decide ((k:Int)<((es.map encEdg).length:Int))&&li)=true:=hc
     rw [List.length_map,Bool.and_eq_true,decide_eq_true_eq] at hc
     obtain ⟨x,hx⟩:=get_lt (l:=es) (i:=k) (by omega)
     have hxo:=hg.edge i es hes x (List.mem_of_getElem? hx)
     have h1:=hxo.lo
     have h2:=hxo.hi
     rw [drop_cons hx,markK,hgd,hc.2,Bool.true_and] at hgo
     conv=>whnf
     skip
     refine ⟨fun hw=>?_,fun hw=>?_⟩
     ·have hw:wantE pl nu i k=true:=hw
      rw [if_pos hw] at hgo
      conv=>whnf
      repeat ((first|refine ⟨gP_of ⟨by omega,by omega⟩,?_⟩|refine ix (by assumption) ?_|(refine ⟨x.to.toNat,gP_of ⟨by omega,by omega⟩,?_⟩)|(refine stE true (by decide) encB_len (i:=x.to.toNat) (by omega) (Nat.zero_add _) rfl (.here _) ?_));conv=>whnf)
      exact ⟨_,by omega,k+1,_,rfl,rfl,rfl,by omega,by rw [List.length_set];exact hl,hgo⟩
     ·have hw:wantE pl nu i k=false:=hw
      rw [if_neg (by rw [hw];decide)] at hgo
      conv=>whnf
      repeat (refine ⟨gP_of ⟨by omega,by omega⟩,?_⟩;conv=>whnf)
      exact ⟨_,by omega,k+1,_,rfl,rfl,rfl,by omega,hl,hgo⟩
    ·have hc:(decide ((k:Int)<((es.map encEdg).length:Int))&&li)=false:=hc
     rw [List.length_map,Bool.and_eq_false_iff,decide_eq_false_iff_not] at hc
     have hm:markK (wantE pl nu) i (es.drop k) k l=l:=by
      rcases hc with hc|hc
      ·rw [drop_nil (by omega)];rfl
      ·exact markK_off (by rw [hgd,hc])
     rw [hm] at hgo
     conv=>whnf
     repeat (refine ⟨gP_of ⟨by omega,by omega⟩,?_⟩;conv=>whnf)
     exact ⟨_,by omega,i+1,_,rfl,rfl,rfl,by omega,hl,hgo⟩
  ·rw [drop_nil hi2,reachGo] at hgo
   conv=>whnf
   skip
   exact ⟨b,[],rfl,by rw [hgo]⟩
theorem GOK.costs {g:List (List Edg)} (h:GOK g):∀ es∈g,∀ x∈es,0≤x.cost∧x.cost≤18000:=by
 intro es hes x hx
 obtain ⟨i,hi⟩:=List.mem_iff_getElem?.1 hes
 exact (h.edge i es hi x hx).cost
theorem GOK.rest {g:List (List Edg)} (h:GOK g) (i:Nat) (hi:i≤g.length):-1≤restV g i∧restV g i≤1080000:=by
 have h1:=restT_get g i hi
 have h2:=restT_bound g h.costs _ (List.mem_of_getElem? h1)
 have:=h.few
 omega
end Go.Abs.Wall
namespace Go.Abs.Wall
open Go Go.Abs Go.Proofs
def wantAll (a k:Nat):Bool:=true
theorem wantE_all:wantE (-1) (-1)=wantAll:=by
 funext a k
 unfold wantE wantAll
 rw [decide_eq_false (by omega)]
 rfl
def lastT:List Bool→Nat→Nat→Nat
 | [],_,far=>far
 | b::t,i,far=>lastT t (i+1) (if b=true then i else far)
def reachL (H:Hou) (line:List Int):Int:=if growErr H line=0 then lastT (reachM (graphM H line) wantAll) 0 0 else 0
def c125:Cfg:=⟨[0,1,2,4,5,6,7,8,9,10,18,25,31],[],[],[],[],[]⟩
end Go.Abs.Wall
