/- What is proved: small laws for the walks of this seat, and contracts of its functions. No condition but those each theorem names. -/
import Derived.Test.YtbmcnieifibckaaGreatN25
import Derived.Test.YtbmcnieifibckaaGreatN26
import Derived.Test.YtbmcnieifibckaaGreatN34
import Derived.Test.YtbmcnieifibckaaGreatN19
import Derived.Test.YtbmcnieifibckaaGreatN17
set_option maxRecDepth 100000
set_option maxHeartbeats 2000000
set_option linter.unusedVariables false
set_option linter.unusedSimpArgs false
namespace Go.Abs.Wall.Spl
open Go Go.Abs Go.Proofs Go.Abs.Wall
open Go.Abs.Wall.Lst (bestL listErr listL rdsOf pthR PathG rdV_path price_edge bestW)
theorem path_words {H:Hou} {line:List Int} (h:growErr H line=0):∀ (p:List Edg) (i:Nat),i≤(graphM H line).length→PathG (graphM H line) i p→p.length+i≤(graphM H line).length∧∀ x∈p,∃ l,priceE H l x.word=0
 | [],i,hi,hp=>⟨by simpa using hi,fun x hx=>by cases hx⟩
 | x::p,i,hi,hp=>by
   obtain ⟨es,h1,h2,h3⟩:=hp
   obtain ⟨_,_,hg⟩:=growOK h
   have ho:=hg.edge i es h1 x h2
   have h5:=ho.lo
   have h6:=ho.hi
   obtain ⟨k1,k2⟩:=path_words h p x.to.toNat (by omega) h3
   refine ⟨by rw [List.length_cons];omega,fun y hy=>?_⟩
   rcases List.mem_cons.1 hy with rfl|hy
   ·exact ⟨_,(price_edge h h1 h2).1⟩
   ·exact k2 y hy
theorem best_words {H:Hou} {line:List Int} (h:listErr H line 1=0):growErr H line=0∧(bestL H line).words.length≤60∧∀ w∈(bestL H line).words,∃ l,priceE H l w=0:=by
 have h0:=h
 unfold listErr at h0
 split at h0
 ·rename_i h1;exact absurd h0 h1
 rename_i h1
 have hge:growErr H line=0:=by omega
 obtain ⟨_,_,hg⟩:=growOK hge
 refine ⟨hge,?_⟩
 unfold bestL listL
 rw [if_pos h]
 unfold rdsOf
 cases hr:(rdV (graphM H line) 0).take (1:Int).toNat with
 | nil=>exact ⟨Nat.zero_le _,fun w hw=>by cases hw⟩
 | cons p t=>
   have hp:p∈rdV (graphM H line) 0:=List.mem_of_mem_take (by rw [hr];exact List.mem_cons_self ..)
   obtain ⟨g1,_⟩:=(rdV_path hg (graphM H line).length 0 (by omega) p).1 hp
   obtain ⟨k1,k2⟩:=path_words hge p.2 0 (Nat.zero_le _) g1
   have hfew:=hg.few
   show (p.2.map (·.word)).length≤60∧∀ w∈p.2.map (·.word),_
   refine ⟨by rw [List.length_map];omega,fun w hw=>?_⟩
   obtain ⟨x,hx,rfl⟩:=List.mem_map.1 hw
   exact k2 x hx
def clsC (us:List Use):Int:=(us.map fun u=>if u.kind=4 then (1:Int) else 0).sum
theorem spellGo_cls {p q:Prg} {u:Use}:∀ {l:List Cli} {c:Int},q∈spellGo p u l c→q.closed=p.closed
 | [],c,h=>by cases h
 | k::t,c,h=>by
   unfold spellGo at h
   rcases List.mem_append.1 h with h|h
   ·split at h
    ·rw [List.mem_singleton.1 h]
    ·cases h
   ·exact spellGo_cls h
theorem nextM_cls {s:Sp} {p q:Prg} {u:Use} (h:q∈Wall.nextM s p u):(u.kind=4→p.closed=false∧q.closed=true∧s.e.cls≠[])∧(u.kind≠4→q.closed=p.closed):=by
 unfold Wall.nextM at h
 split at h
 ·rename_i k1
  refine ⟨fun h4=>(by omega),fun _=>?_⟩
  unfold spellM at h
  split at h
  ·split at h
   ·rw [List.mem_singleton.1 h]
   ·cases h
  ·split at h
   ·exact spellGo_cls h
   ·cases h
 split at h
 ·refine ⟨fun h4=>(by omega),fun _=>?_⟩
  split at h
  ·cases h
  ·rw [List.mem_singleton.1 h]
 split at h
 ·refine ⟨fun h4=>(by omega),fun _=>?_⟩
  split at h
  ·cases h
  ·rw [List.mem_singleton.1 h]
 split at h
 ·rename_i k4
  refine ⟨fun _=>?_,fun hn=>absurd k4 hn⟩
  split at h
  ·cases h
  ·rename_i hb
   rw [Bool.not_eq_true] at hb
   unfold clBad at hb
   simp only [Bool.or_eq_false_iff,decide_eq_false_iff_not] at hb
   rw [List.mem_singleton.1 h]
   exact ⟨hb.1.1.1.1,rfl,hb.1.1.1.2⟩
 ·cases h
theorem run_cls {s:Sp}:∀ {us:List Use} {p q:Prg},RunP s p us q→clsC us=(q.closed.toNat:Int) - p.closed.toNat∧(0<clsC us→s.e.cls≠[])∧(hasK 4 us=true↔0<clsC us)∧0≤clsC us
 | [],p,q,h=>by
   have h:q=p:=h
   subst h
   refine ⟨by unfold clsC;simp,fun h=>(by unfold clsC at h;simp at h),?_,by unfold clsC;simp⟩
   unfold hasK clsC
   simp
 | u::us,p,q,h=>by
   obtain ⟨r,h1,h2⟩:=h
   obtain ⟨a1,a2,a3,a4⟩:=run_cls h2
   obtain ⟨b1,b2⟩:=nextM_cls h1
   have hc:clsC (u::us)=(if u.kind=4 then (1:Int) else 0)+clsC us:=by unfold clsC;rw [List.map_cons,List.sum_cons]
   have hh:hasK 4 (u::us)=(decide (u.kind=4)||hasK 4 us):=by unfold hasK;rw [List.any_cons];rfl
   by_cases h4:u.kind=4
   ·obtain ⟨c1,c2,c3⟩:=b1 h4
    rw [if_pos h4] at hc
    have hq:=Bool.toNat_le q.closed
    rw [c2] at a1
    have hz:(true.toNat:Int)=1:=rfl
    have hf:(p.closed.toNat:Int)=0:=by rw [c1];rfl
    refine ⟨by omega,fun _=>c3,?_,by omega⟩
    rw [hh,decide_eq_true h4,Bool.true_or]
    exact ⟨fun _=>by omega,fun _=>rfl⟩
   ·rw [if_neg h4,Int.zero_add] at hc
    rw [b2 h4] at a1
    rw [hc,hh,decide_eq_false h4,Bool.false_or]
    exact ⟨a1,a2,a3,a4⟩
theorem word_cls {H:Hou} {l:List Int} {w:Wrd} (h:priceE H l w=0):clsC w.uses=(if hasK 4 w.uses=true then 1 else 0)∧(hasK 4 w.uses=true→(entAt H.lex w.form.entry).cls≠[]):=by
 obtain ⟨_,_,hs⟩:=price_line h
 have hl:=spells_len hs
 unfold spellsM at hs
 rw [Bool.and_eq_true] at hs
 obtain ⟨_,p,hp,q,hr,_,_⟩:=(spGo_iff l w.uses [prg0] hl.2).1 hs.2
 rw [List.mem_singleton] at hp
 subst hp
 obtain ⟨a1,a2,a3,a4⟩:=run_cls hr
 have hq:=Bool.toNat_le q.closed
 have h0:(prg0.closed.toNat:Int)=0:=rfl
 cases hb:hasK 4 w.uses with
 | true=>
   have:=a3.1 hb
   exact ⟨by rw [if_pos rfl];omega,fun _=>a2 this⟩
 | false=>
   refine ⟨?_,fun h=>by cases h⟩
   rw [if_neg (by decide)]
   have:¬ 0<clsC w.uses:=fun h=>by rw [a3.2 h] at hb;cases hb
   omega
def addT (T:List Int) (s:Int):List Int:=T.set s.toNat (T.getD s.toNat 0+1)
structure LS where
 T:List Int
 a:Int
 b:Int
 c:Int
 d:Int
def clsW (H:Hou) (w:Wrd):Bool:=!decide ((entAt H.lex w.form.entry).cls=[])
def lrnW (H:Hou) (z:LS) (w:Wrd):LS:=⟨z.T,z.a+canU w.uses,z.b+areU w.uses,z.c+(if clsW H w=true then 1 else 0),z.d+clsC w.uses⟩
def lrnL (H:Hou) (z:LS) (line:List Int):LS:=(bestL H line).words.foldl (lrnW H) { z with T:=line.foldl addT z.T }
def lrnE (H:Hou):List (List Int)→Int
 | []=>0
 | l::t=>if listErr H l 1≠0 then listErr H l 1 else lrnE H t
def ls0 (H:Hou):LS:=⟨List.replicate H.list.signs.length 0,0,0,0,0⟩
def custM (a b:Int):Int:=if a=0 then 1 else if b=0 then 0 else if b=a then 2 else 1
def maxT (T:List Int):Int:=T.foldl max 0
def sgnT (m n:Int):Int:=if n=0 then -1 else min (m - n) 1000
def habL (z:LS):Hab:=⟨z.T.map (sgnT (maxT z.T)),custM z.a z.b,custM z.c z.d⟩
def learnE (H:Hou) (l:List (List Int)):Int:=if houErr H≠0 then houErr H else if 40<l.length then 2 else lrnE H l
def learnM (H:Hou) (l:List (List Int)):Hab:=if learnE H l=0 then habL (l.foldl (lrnL H) (ls0 H)) else ⟨[],0,0⟩
structure LSOK (H:Hou) (k m:Nat) (z:LS):Prop where
 len:z.T.length=H.list.signs.length
 t:∀ n∈z.T,0≤n∧n≤k
 a:0≤z.b∧z.b≤z.a∧z.a≤12*m
 c:0≤z.d∧z.d≤z.c∧z.c≤m
theorem addT_len (T:List Int) (s:Int):(addT T s).length=T.length:=by unfold addT;rw [List.length_set]
theorem addT_in {T:List Int} {k:Nat} (h:∀ n∈T,0≤n∧n≤k) (s:Int):∀ n∈addT T s,0≤n∧n≤((k+1:Nat):Int):=by
 intro n hn
 unfold addT at hn
 rcases List.mem_or_eq_of_mem_set hn with h1|rfl
 ·have:=h n h1
  push_cast;omega
 ·have:0≤T.getD s.toNat 0∧T.getD s.toNat 0≤k:=by
   rw [List.getD_eq_getElem?_getD]
   cases hq:T[s.toNat]? with
   | none=>exact ⟨by decide,by show (0:Int)≤k;omega⟩
   | some x=>exact h x (List.mem_of_getElem? hq)
  push_cast;omega
theorem LSOK.line {H:Hou} {k m:Nat} {z:LS} (h:LSOK H k m z) (s:Int):LSOK H (k+1) m { z with T:=addT z.T s }:=⟨by show (addT z.T s).length=_;rw [addT_len];exact h.len,addT_in h.t s,h.a,h.c⟩
theorem LSOK.word {H:Hou} {k m:Nat} {z:LS} (h:LSOK H k m z) {l:List Int} {w:Wrd} (hw:priceE H l w=0):LSOK H k (m+1) (lrnW H z w):=by
 obtain ⟨_,_,hs⟩:=price_line hw
 have hl:=spells_len hs
 have hc:=canU_in w.uses
 obtain ⟨h1,h2⟩:=word_cls hw
 have ha:=h.a
 have hd:=h.c
 refine ⟨h.len,h.t,?_,?_⟩
 ·show 0≤z.b+areU w.uses∧z.b+areU w.uses≤z.a+canU w.uses∧z.a+canU w.uses≤12*((m+1:Nat):Int)
  push_cast
  omega
 ·show 0≤z.d+clsC w.uses∧z.d+clsC w.uses≤z.c+(if clsW H w=true then 1 else 0)∧z.c+(if clsW H w=true then 1 else 0)≤((m+1:Nat):Int)
  rw [h1]
  cases hb:hasK 4 w.uses with
  | true=>
    have:clsW H w=true:=by unfold clsW;rw [decide_eq_false (h2 hb)];rfl
    rw [this]
    simp
    omega
  | false=>
    rw [if_neg (by decide)]
    split<;>push_cast<;>omega
end Go.Abs.Wall.Spl
namespace Go.Abs.Wall.Spl
open Go Go.Abs Go.Proofs Go.Abs.Wall
open Go.Abs.Wall.Lst (bestL listErr listL rdsOf pthR PathG rdV_path price_edge bestW)
def encLn (l:List Int):List AV:=[.sl 1 none (ints l)]
def encI (n:Int):List AV:=[.int .i64 n]
theorem encI_len (n:Int):(encI n).length=1:=rfl
theorem zeroRow (n:Nat):repC n [AV.int .i64 0]=((List.replicate n (0:Int)).map encI).flatten:=by
 unfold repC
 induction n with
 | zero=>rfl
 | succ n ih=>rw [List.replicate_succ,List.replicate_succ,List.map_cons,List.flatten_cons,List.flatten_cons,ih];rfl
def c87:Cfg:=⟨[0,1,4,5,8,11],[],[],[],[],[]⟩
def c43:Cfg:=⟨[0,1,2,4,5,6,7,8,9,10,11,13,14,15,17,19,20,21,22,23,25,27,31,36,43,44,45,46,56,59,60,61,62,73,74,75,76,100,105,117,118,119,120,127,128,129,130,134],[],[14,19],[],[],[]⟩
theorem spCustom (a b:Int):QCall Tryz.prog 87 [.int .i64 a,.int .i64 b] [] (.int .i64 (custM a b)):=by
 refine fcalls (F:=Tryz.f87) c87 rfl rfl rfl mixed rfl fun X=>?_
 conv=>whnf
 skip
 refine ⟨fun h0=>?_,fun h0=>?_⟩<;>simp at h0
 ·rw [custM,if_pos h0]
  conv=>whnf
  skip
  exact ⟨rfl,rfl⟩
 rw [custM,if_neg h0]
 conv=>whnf
 skip
 refine ⟨fun h1=>?_,fun h1=>?_⟩<;>simp at h1
 ·rw [if_pos h1]
  conv=>whnf
  skip
  exact ⟨rfl,rfl⟩
 rw [if_neg h1]
 conv=>whnf
 skip
 refine ⟨fun h2=>?_,fun h2=>?_⟩<;>simp at h2
 ·rw [if_pos h2]
  conv=>whnf
  skip
  exact ⟨rfl,rfl⟩
 ·rw [if_neg h2]
  conv=>whnf
  skip
  exact ⟨rfl,rfl⟩
theorem ls0_ok (H:Hou):LSOK H 0 0 (ls0 H):=⟨by unfold ls0;simp,fun n hn=>by unfold ls0 at hn;have:=(List.mem_replicate.1 hn).2;rw [this];exact ⟨by decide,by decide⟩,by simp [ls0],by simp [ls0]⟩
theorem LSOK.more {H:Hou} {k m k' m':Nat} {z:LS} (h:LSOK H k m z) (hk:k≤k') (hm:m≤m'):LSOK H k' m' z:=by
 have h1:=h.a
 have h2:=h.c
 exact ⟨h.len,fun n hn=>by have:=h.t n hn;omega,by omega,by omega⟩
set_option maxHeartbeats 4000000 in
theorem spLearnW (H:Hou) (lines:List (List Int)) (hf:HouFit H) (hl:lines.length≤1048576) (hll:∀ l∈lines,l.length≤1048576) :
  QCall Tryz.prog 43 [.agg (encHou H),.sl 1 none (lines.map encLn)] [] (.tup [.agg (encHab (learnM H lines)),.int .i64 (learnE H lines)]):=by
 have zer:∀ e:Int,VLe (.tup [.agg [.nilS,.int .i64 0,.int .i64 0],.int .i64 e]) (.tup [.agg (encHab ⟨[],0,0⟩),.int .i64 e]):=fun e=>VLe.tup (.cons (VLe.agg (.cons (VLe.nil (by decide)) (.cons (VLe.refl _) (.cons (VLe.refl _) .nil)))) (.cons (VLe.refl _) .nil))
 refine QCall.of ?_
 refine fcalls (F:=Tryz.f43) c43 rfl rfl rfl mixed rfl fun X=>?_
 conv=>whnf
 intro rb
 conv=>whnf
 repeat (refine QCall.k0 (checkHouse H hf) ?_;conv=>whnf)
 refine ⟨fun h0=>?_,fun h0=>?_⟩<;>simp at h0
 ·have he:learnE H lines=houErr H:=by unfold learnE;rw [if_pos h0]
  unfold learnM
  rw [he,if_neg h0]
  conv=>whnf
  repeat ((first|refine ⟨_,_,.head _,rfl,?_⟩|refine ⟨_,_,.here _,leOK,?_⟩);conv=>whnf)
  exact zer _
 conv=>whnf
 skip
 refine ⟨fun h1=>?_,fun h1=>?_⟩<;>simp at h1
 ·have he:learnE H lines=2:=by unfold learnE;rw [if_neg (by omega),if_pos (by omega)]
  unfold learnM
  rw [he,if_neg (by decide)]
  conv=>whnf
  repeat ((first|refine ⟨_,_,.head _,rfl,?_⟩|refine ⟨_,_,.here _,leOK,?_⟩);conv=>whnf)
  exact zer _
 have he0:learnE H lines=lrnE H lines:=by unfold learnE;rw [if_neg (by omega),if_neg (by omega)]
 have hH:=houOK h0
 have hmany:=(lstOK hH.lst).many
 have hsl:((H.list.signs.map encSgn).length:Int)=H.list.signs.length:=by rw [List.length_map]
 conv=>whnf
 repeat ((refine ⟨⟨rfl,by rw [hsl];omega,by rw [hsl];omega⟩,fun tb=>?_⟩);conv=>whnf)
 rw [show (((H.list.signs.map encSgn).length:Int)).toNat=H.list.signs.length by rw [hsl];omega,zeroRow]
 skip
 obtain ⟨Z,hZ⟩:∃ Z,Z=lines.foldl (lrnL H) (ls0 H):=⟨_,rfl⟩
 have hlm:learnM H lines=if learnE H lines=0 then habL Z else ⟨[],0,0⟩:=by unfold learnM;rw [hZ]
 refine tloop rfl mixed [2,4,7,8,9,10,11,43,44,45] [] (fun m r h=>∃ (i:Nat) (z:LS),r=[(2,[],.iptr (encHou H)),(4,[],.optr rb 0),(7,[],.osl tb 0 H.list.signs.length 1),(8,[],.int .i64 z.a),(9,[],.int .i64 z.b),(10,[],.int .i64 z.c),(11,[],.int .i64 z.d),(43,[],.sl 1 none (lines.map encLn)),(44,[],.int .i64 (lines.map encLn).length),(45,[],.int .i64 i)]∧h=(tb,.vec (z.T.map encI).flatten)::(rb,.vec [.nilS,.int .i64 0,.int .i64 0])::[]∧m=lines.length - i∧i≤lines.length∧LSOK H (60*i) (60*i) z∧lrnE H lines=lrnE H (lines.drop i)∧Z=(lines.drop i).foldl (lrnL H) z) ?_ ?_
 ·conv=>whnf
  exact ⟨_,_,Turn.refl _ _,_,0,ls0 H,rfl,rfl,rfl,by omega,ls0_ok H,rfl,hZ⟩
 ·rintro m r h' ⟨i,z,rfl,rfl,rfl,hi,hz,hE,hF⟩
  have hza:=hz.a
  have hzc:=hz.c
  conv=>whnf
  refine ⟨fun hc=>?_,fun hc=>?_⟩<;>simp at hc
  ·obtain ⟨line,hline⟩:=get_lt hc
   have hlb:=hll line (List.mem_of_getElem? hline)
   rw [drop_cons hline,lrnE] at hE
   rw [drop_cons hline,List.foldl_cons] at hF
   conv=>whnf
   repeat ((first|refine ix (by assumption) ?_|refine QCall.k0 (bestW H line hf hlb) ?_|refine ⟨_,_,Rem.here _,⟨Nat.le_of_ble_eq_true rfl,rfl⟩,?_⟩|intro (nb:Nat));conv=>whnf)
   refine ⟨fun h2=>?_,fun h2=>?_⟩<;>simp at h2
   ·rw [if_pos h2] at hE
    rw [hlm,he0,hE,if_neg h2]
    conv=>whnf
    repeat ((first|(refine ⟨_,_,.there (.here _),leOK,?_⟩)|(refine ⟨_,_,.tail _ (.head _),rfl,?_⟩));conv=>whnf)
    exact zer _
   rw [if_neg (by omega)] at hE
   obtain ⟨hge,hwl,hwp⟩:=best_words h2
   have hLO:=lineOK (Lst.grow_line hge)
   have hfew:=hLO.few
   have hsg:=hLO.signs
   obtain ⟨ws,hws⟩:∃ ws,ws=(bestL H line).words:=⟨_,rfl⟩
   rw [← hws] at hwl hwp
   have hF:Z=(lines.drop (i+1)).foldl (lrnL H) (ws.foldl (lrnW H) { z with T:=line.foldl addT z.T }):=by rw [hF,hws];rfl
   conv=>whnf
   skip
   refine tloop rfl mixed [2,4,7,8,9,10,11,14,43,44,45,59,60,61] [] (fun m r h=>∃ (j:Nat) (T:List Int),r=[(2,[],.iptr (encHou H)),(4,[],.optr rb 0),(7,[],.osl tb 0 H.list.signs.length 1),(8,[],.int .i64 z.a),(9,[],.int .i64 z.b),(10,[],.int .i64 z.c),(11,[],.int .i64 z.d),(14,[],.iptr (encRdg (bestL H line))),(43,[],.sl 1 none (lines.map encLn)),(44,[],.int .i64 (lines.map encLn).length),(45,[],.int .i64 i),(59,[],.sl 1 none (ints line)),(60,[],.int .i64 (ints line).length),(61,[],.int .i64 j)]∧h=(tb,.vec (T.map encI).flatten)::(rb,.vec [.nilS,.int .i64 0,.int .i64 0])::[]∧m=line.length - j∧j≤line.length∧LSOK H (60*i+j) (60*i) { z with T:=T }∧line.foldl addT z.T=(line.drop j).foldl addT T) ?_ ?_
   ·conv=>whnf
    exact ⟨_,_,Turn.refl _ _,_,0,z.T,rfl,rfl,rfl,by omega,hz,rfl⟩
   ·rintro m r h' ⟨j,T,rfl,rfl,rfl,hj,hT,hTf⟩
    have hTl:T.length=H.list.signs.length:=hT.len
    conv=>whnf
    refine ⟨fun hc2=>?_,fun hc2=>?_⟩<;>simp [ints_length] at hc2
    ·obtain ⟨sg,hs⟩:=get_lt hc2
     have hsi:=hsg sg (List.mem_of_getElem? hs)
     obtain ⟨tv,htv⟩:=get_lt (l:=T) (i:=sg.toNat) (by omega)
     have htb:=hT.t tv (List.mem_of_getElem? htv)
     have hgd:T.getD sg.toNat 0=tv:=getD_of htv
     rw [drop_cons hs,List.foldl_cons] at hTf
     conv=>whnf
     repeat ((first|refine ⟨gP_of ⟨by omega,by omega⟩,?_⟩|refine ix (by assumption) ?_|(refine ⟨sg.toNat,gP_of ⟨by omega,by omega⟩,?_⟩)|(refine ldE encI_len (.head _) (by omega) htv ?_)|(refine stE (tv+1) (by decide) encI_len (i:=sg.toNat) (by omega) (by omega) rfl (.here _) ?_));conv=>whnf)
     refine ⟨_,_,Turn.refl _ _,_,(by omega),j+1,addT T sg,rfl,?_,rfl,by omega,(hT.line sg).more (by omega) (Nat.le_refl _),hTf⟩
     unfold addT
     rw [hgd]
    ·rw [drop_nil (by omega)] at hTf
     have hTf:line.foldl addT z.T=T:=hTf
     rw [hTf] at hF
     conv=>whnf
     skip
     refine tloop rfl mixed [2,4,7,8,9,10,11,43,44,45,73,74,75] [] (fun m r h=>∃ (k:Nat) (y:LS),r=[(2,[],.iptr (encHou H)),(4,[],.optr rb 0),(7,[],.osl tb 0 H.list.signs.length 1),(8,[],.int .i64 y.a),(9,[],.int .i64 y.b),(10,[],.int .i64 y.c),(11,[],.int .i64 y.d),(43,[],.sl 1 none (lines.map encLn)),(44,[],.int .i64 (lines.map encLn).length),(45,[],.int .i64 i),(73,[],.sl 4 none (ws.map encWrd)),(74,[],.int .i64 (ws.map encWrd).length),(75,[],.int .i64 k)]∧h=(tb,.vec (y.T.map encI).flatten)::(rb,.vec [.nilS,.int .i64 0,.int .i64 0])::[]∧m=ws.length - k∧k≤ws.length∧LSOK H (60*i+60) (60*i+k) y∧Z=(lines.drop (i+1)).foldl (lrnL H) ((ws.drop k).foldl (lrnW H) y)) ?_ ?_
     ·conv=>whnf
      exact ⟨_,_,Turn.refl _ _,_,0,{ z with T:=T },by rw [hws];rfl,rfl,rfl,by omega,hT.more (by omega) (by omega),hF⟩
     ·clear hF
      rintro m r h' ⟨k,y,rfl,rfl,rfl,hk,hy,hF⟩
      have hya:=hy.a
      have hyc:=hy.c
      conv=>whnf
      refine ⟨fun hc3=>?_,fun hc3=>?_⟩<;>simp at hc3
      ·obtain ⟨w,hw⟩:=get_lt hc3
       obtain ⟨l2,hpr⟩:=hwp w (List.mem_of_getElem? hw)
       obtain ⟨_,hfe,hsp⟩:=price_line hpr
       have hln:=spells_len hsp
       have hfo:=frmOK hfe
       have hcu:=canU_in w.uses
       have hct:=spCounts w.uses (by omega)
       have hhs:=spHas w.uses 4 (by unfold LMAX;omega)
       obtain ⟨c1,c2⟩:=word_cls hpr
       rw [drop_cons hw,List.foldl_cons] at hF
       conv=>whnf
       repeat ((first|refine ⟨gP_of ⟨by omega,by omega⟩,?_⟩|refine ix (by assumption) ?_|refine QCall.k0 (hct) ?_|(refine ixn w.form.entry.toNat (by have:=hfo.entry;omega) (entAt_get hfo.entry.1 hfo.entry.2) ?_)|refine ⟨_,_,Rem.here _,⟨Nat.le_of_ble_eq_true rfl,rfl⟩,?_⟩|intro (nb:Nat));conv=>whnf)
       refine ⟨fun q1=>?_,fun q1=>?_⟩
       ·have hcw:clsW H w=true:=q1
        conv=>whnf
        repeat ((first|refine ⟨gP_of ⟨by omega,by omega⟩,?_⟩|refine QCall.k0 (hhs) ?_);conv=>whnf)
        refine ⟨fun q2=>?_,fun q2=>?_⟩
        ·rw [if_pos q2] at c1
         conv=>whnf
         repeat (refine ⟨gP_of ⟨by omega,by omega⟩,?_⟩;conv=>whnf)
         exact ⟨_,_,Turn.refl _ _,_,(by omega),k+1,lrnW H y w,by unfold lrnW;rw [c1,hcw];rfl,rfl,rfl,by omega,(hy.word hpr).more (Nat.le_refl _) (by omega),hF⟩
        ·rw [if_neg (by rw [q2];decide)] at c1
         conv=>whnf
         repeat (refine ⟨gP_of ⟨by omega,by omega⟩,?_⟩;conv=>whnf)
         exact ⟨_,_,Turn.refl _ _,_,(by omega),k+1,lrnW H y w,by unfold lrnW;rw [c1,hcw,Int.add_zero];rfl,rfl,rfl,by omega,(hy.word hpr).more (Nat.le_refl _) (by omega),hF⟩
       ·have hcw:clsW H w=false:=q1
        have hno:hasK 4 w.uses=false:=by
         rw [← Bool.not_eq_true]
         intro hq
         have:=c2 hq
         unfold clsW at hcw
         rw [decide_eq_false this] at hcw
         cases hcw
        rw [if_neg (by rw [hno];decide)] at c1
        conv=>whnf
        repeat (refine ⟨gP_of ⟨by omega,by omega⟩,?_⟩;conv=>whnf)
        exact ⟨_,_,Turn.refl _ _,_,(by omega),k+1,lrnW H y w,by unfold lrnW;rw [c1,hcw,Int.add_zero,if_neg (by decide),Int.add_zero];rfl,rfl,rfl,by omega,(hy.word hpr).more (Nat.le_refl _) (by omega),hF⟩
      ·rw [drop_nil (by omega)] at hF
       conv=>whnf
       repeat (refine ⟨gP_of ⟨by omega,by omega⟩,?_⟩;conv=>whnf)
       exact ⟨_,_,Turn.refl _ _,_,(by omega),i+1,y,rfl,rfl,rfl,by omega,hy.more (by omega) (by omega),hE,hF⟩
  ·rw [drop_nil (by omega)] at hE hF
   have hE:lrnE H lines=0:=hE
   have hF:Z=z:=hF
   subst hF
   rw [hlm,he0,hE,if_pos rfl]
   have hTl:=hz.len
   conv=>whnf
   repeat ((first|refine QCall.k0 (spCustom Z.a Z.b) ?_|refine QCall.k0 (spCustom Z.c Z.d) ?_|(intro (cb:Nat))|refine ⟨_,_,.here _,leOK,?_⟩);conv=>whnf)
   have hti:∀ n∈Z.T,0≤n∧n≤2400:=fun n hn=>by have:=hz.t n hn;omega
   refine tloop rfl mixed [4,7,22,23,117,118,119] [] (fun m r h=>∃ (j:Nat) (mx:Int) (cb:Nat),r=[(4,[],.optr rb 0),(7,[],.osl tb 0 H.list.signs.length 1),(22,[],.optr cb 0),(23,[],.int .i64 mx),(117,[],.osl tb 0 H.list.signs.length 1),(118,[],.int .i64 H.list.signs.length),(119,[],.int .i64 j)]∧h=(cb,.vec [.nilS,.int .i64 (custM Z.a Z.b),.int .i64 (custM Z.c Z.d)])::(tb,.vec (Z.T.map encI).flatten)::(rb,.vec [.nilS,.int .i64 0,.int .i64 0])::[]∧m=H.list.signs.length - j∧j≤H.list.signs.length∧(0≤mx∧mx≤2400)∧maxT Z.T=(Z.T.drop j).foldl max mx) ?_ ?_
   ·conv=>whnf
    exact ⟨_,_,Turn.refl _ _,_,0,0,cb,rfl,rfl,rfl,by omega,⟨by omega,by omega⟩,rfl⟩
   ·rintro m r h' ⟨j,mx,cb,rfl,rfl,rfl,hj,hmx,hmf⟩
    conv=>whnf
    refine ⟨fun hc2=>?_,fun hc2=>?_⟩<;>simp at hc2
    ·obtain ⟨n,hn⟩:=get_lt (l:=Z.T) (i:=j) (by omega)
     have hnb:=hti n (List.mem_of_getElem? hn)
     rw [drop_cons hn,List.foldl_cons] at hmf
     conv=>whnf
     repeat ((first|refine ⟨gP_of ⟨by omega,by omega⟩,?_⟩|(refine ixo (i:=j) (by omega) ?_)|(refine ldE encI_len (.tail _ (.head _)) (by omega) hn ?_));conv=>whnf)
     exact ⟨_,_,Turn.refl _ _,_,(by omega),j+1,max mx n,cb,rfl,rfl,rfl,by omega,⟨by omega,by omega⟩,hmf⟩
    ·rw [drop_nil (by omega)] at hmf
     have hmf:maxT Z.T=mx:=hmf
     conv=>whnf
     skip
     refine tloop rfl mixed [4,22,23,127,128,129] [] (fun m r h=>∃ (j:Nat) (sv:AV) (sh:Heap) (cb:Nat),r=[(4,[],.optr rb 0),(22,[],.optr cb 0),(23,[],.int .i64 mx),(127,[],.osl tb 0 H.list.signs.length 1),(128,[],.int .i64 H.list.signs.length),(129,[],.int .i64 j)]∧h=(cb,.vec [sv,.int .i64 (custM Z.a Z.b),.int .i64 (custM Z.c Z.d)])::(tb,.vec (Z.T.map encI).flatten)::(rb,.vec [.nilS,.int .i64 0,.int .i64 0])::sh∧m=H.list.signs.length - j∧j≤H.list.signs.length∧Out 1 encI ((Z.T.take j).map (sgnT mx)) sv sh) ?_ ?_
     ·conv=>whnf
      exact ⟨_,_,Turn.refl _ _,_,0,.nilS,[],cb,rfl,rfl,rfl,by omega,.inl ⟨rfl,rfl,rfl⟩⟩
     ·rintro m r h' ⟨j,sv,sh,cb,rfl,rfl,rfl,hj,ho⟩
      conv=>whnf
      refine ⟨fun hc3=>?_,fun hc3=>?_⟩<;>simp at hc3
      ·obtain ⟨n,hn⟩:=get_lt (l:=Z.T) (i:=j) (by omega)
       have hnb:=hti n (List.mem_of_getElem? hn)
       have hsn:(Z.T.take (j+1)).map (sgnT mx)=(Z.T.take j).map (sgnT mx)++[sgnT mx n]:=by rw [take_snoc hn,List.map_append];rfl
       have hlo:(((Z.T.take j).map (sgnT mx)).map encI).length≤200:=by rw [List.length_map,List.length_map,List.length_take];omega
       rcases ho with ⟨he,rfl,rfl⟩|⟨q,rfl,rfl⟩
       all_goals
        conv=>whnf
        repeat ((first|(refine ixo (i:=j) (by omega) ?_)|(refine ldE encI_len (.tail _ (.head _)) (by omega) hn ?_));conv=>whnf)
        refine ⟨fun q0=>?_,fun q0=>?_⟩<;>simp at q0
        ·have hsv:sgnT mx n = -1:=by unfold sgnT;rw [if_pos q0]
         rw [hsv] at hsn
         conv=>whnf
         repeat ((first|refine ⟨gP_of ⟨by omega,by omega⟩,?_⟩|(refine ⟨Nat.le_of_ble_eq_true rfl,fun q'=>?_⟩)|(refine ⟨(by rw [List.length_append,List.length_singleton];unfold AMAX;omega),fun q'=>⟨_,.there (.there (.there (.here _))),?_⟩⟩)|(refine ⟨_,_,.there (.here _),leOK,?_⟩)|(refine ⟨_,_,.here _,leOK,?_⟩)|refine ⟨_,_,.head _,rfl,?_⟩);conv=>whnf)
         first
          | exact ⟨_,_,Turn.refl _ _,_,(by omega),j+1,_,[(q',.tok)],cb,rfl,rfl,rfl,by omega,.inr ⟨q',by rw [hsn,List.map_append];rfl,rfl⟩⟩
          | exact ⟨_,_,Turn.perm (List.perm_middle (l₁:=[_,_,_])).symm,_,(by omega),j+1,_,[(q',.tok)],cb,rfl,rfl,rfl,by omega,.inr ⟨q',by rw [hsn,he];rfl,rfl⟩⟩
        ·have hsv:sgnT mx n=min (mx - n) 1000:=by unfold sgnT;rw [if_neg q0]
         rw [hsv] at hsn
         conv=>whnf
         repeat ((first|refine ⟨gP_of ⟨by omega,by omega⟩,?_⟩|(refine ⟨Nat.le_of_ble_eq_true rfl,fun q'=>?_⟩)|(refine ⟨(by rw [List.length_append,List.length_singleton];unfold AMAX;omega),fun q'=>⟨_,.there (.there (.there (.here _))),?_⟩⟩)|(refine ⟨_,_,.there (.here _),leOK,?_⟩)|(refine ⟨_,_,.here _,leOK,?_⟩)|refine ⟨_,_,.head _,rfl,?_⟩);conv=>whnf)
         first
          | exact ⟨_,_,Turn.refl _ _,_,(by omega),j+1,_,[(q',.tok)],cb,rfl,rfl,rfl,by omega,.inr ⟨q',by rw [hsn,List.map_append];rfl,rfl⟩⟩
          | exact ⟨_,_,Turn.perm (List.perm_middle (l₁:=[_,_,_])).symm,_,(by omega),j+1,_,[(q',.tok)],cb,rfl,rfl,rfl,by omega,.inr ⟨q',by rw [hsn,he];rfl,rfl⟩⟩
      ·rw [List.take_of_length_le (by omega)] at ho
       unfold habL
       rw [hmf]
       conv=>whnf
       repeat ((first|(refine ⟨_,_,.there (.there (.here _)),leOK,?_⟩)|(refine ⟨_,_,.tail _ (.tail _ (.head _)),rfl,?_⟩)|refine ⟨_,_,.head _,rfl,?_⟩);conv=>whnf)
       exact VLe.tup (.cons (VLe.agg (.cons (ho.le (by decide)) (.cons (VLe.refl _) (.cons (VLe.refl _) .nil)))) (.cons (VLe.refl _) .nil))
end Go.Abs.Wall.Spl
