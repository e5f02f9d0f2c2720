/- What is proved: small laws for the walks of this seat, and contracts of its functions. No condition but those each theorem names. -/
import Derived.Test.YtmkmflcemegikaaGreatN4
import Derived.Test.YtmkmflcemegikaaGreatN10
import Derived.Test.YtmkmflcemegikaaGreatN7
import Derived.Test.YtmkmflcemegikaaGreatN21
import Derived.Test.YtmkmflcemegikaaGreatN20
set_option maxRecDepth 100000
set_option maxHeartbeats 2000000
set_option linter.unusedVariables false
set_option linter.unusedSimpArgs false
namespace Go.Abs.Wall
open Go Go.Abs Go.Proofs
def cliX (x:Lex) (l:List Int):List UInt8:=(l.map fun c=>61::(cliAt x c).text).flatten
def stmX (x:Lex) (f:Frm):List UInt8:=(entAt x f.entry).root++(if 0≤f.ending then 46::(ednAt x f.ending).text else [])
def txtM (x:Lex) (f:Frm):List UInt8:=stmX x f++cliX x f.clitics
theorem cliX_snoc {x:Lex} {l:List Int} {c:Int}:cliX x (l++[c])=cliX x l++([61]++(cliAt x c).text):=by
 unfold cliX;simp
theorem cliX_bound {x:Lex} (hx:LexOK x):∀ {l:List Int},(∀ c∈l,0≤c∧c<x.clitics.length)→(cliX x l).length≤5*l.length
 | [],_=>by simp [cliX]
 | c::l,h=>by
   have ih:=cliX_bound hx (l:=l) fun d hd=>h d (by simp [hd])
   have hc:=h c (by simp)
   have hw:=sndOK_len (hx.cliAt hc.1 hc.2).text
   unfold cliX at ih ⊢
   simp only [List.map_cons,List.flatten_cons,List.length_append,List.length_cons]
   omega
theorem stmX_bound {x:Lex} {f:Frm} (h:FrmOK x f):(stmX x f).length≤13:=by
 have h1:=sndOK_len (h.lex.entAt h.entry.1 h.entry.2).root
 unfold stmX
 split
 ·rename_i he
  have hel:f.ending<x.endings.length:=by rcases h.ending with h|h<;>omega
  have h2:=sndOK_len (h.lex.ednAt he hel).text
  simp only [List.length_append,List.length_cons]
  omega
 ·simp only [List.length_append,List.length_nil]
  omega
theorem txtM_bound {x:Lex} {f:Frm} (h:FrmOK x f):(txtM x f).length≤28:=by
 have h1:=stmX_bound h
 have h2:=cliX_bound h.lex (l:=f.clitics) h.cli
 have h3:=h.few
 unfold txtM
 rw [List.length_append]
 omega
theorem sndM_bound {x:Lex} {f:Frm} (h:FrmOK x f):(sndM x f).length≤28:=by
 have h1:=h.stem
 have h2:=cliT_bound h.lex (l:=f.clitics) h.cli
 have h3:=h.few
 unfold sndM
 rw [List.length_append]
 omega
theorem join_snoc {sep y:List UInt8} {l:List (List UInt8)}:Lib.join (l++[y]) sep=if l=[] then y else Lib.join l sep++sep++y:=by
 cases l with
 | nil=>rw [List.nil_append,Lib.join_one,if_pos rfl]
 | cons x r=>
   rw [if_neg (by simp),List.cons_append,Lib.join_cons,Lib.join_cons]
   unfold Lib.joinTail
   simp
theorem join_bound {sep:List UInt8} {B:Nat}:∀ {l:List (List UInt8)},(∀ s∈l,s.length≤B)→(Lib.join l sep).length≤(B+sep.length)*l.length
 | [],_=>by simp [Lib.join_nil]
 | x::r,h=>by
   rw [Lib.join_cons]
   have h1:=h x (by simp)
   have h2:∀ {r:List (List UInt8)},(∀ s∈r,s.length≤B)→(Lib.joinTail sep r).length≤(B+sep.length)*r.length:=by
    intro r
    induction r with
    | nil=>intro _;simp [Lib.joinTail]
    | cons y t ih=>
      intro h
      have i1:=ih fun s hs=>h s (by simp [hs])
      have i2:=h y (by simp)
      unfold Lib.joinTail at i1 ⊢
      simp only [List.map_cons,List.flatten_cons,List.length_append,List.length_cons]
      rw [Nat.mul_succ]
      omega
   have h3:=h2 fun s hs=>h s (List.mem_cons_of_mem _ hs)
   rw [List.length_append,List.length_cons,Nat.mul_succ]
   omega
def fgo (x:Lex):List Wrd→Int
 | []=>0
 | w::t=>if frmErr x w.form≠0 then frmErr x w.form else fgo x t
def formsE (H:Hou) (ws:List Wrd):Int:=if houErr H≠0 then houErr H else if 60<ws.length then 2 else fgo H.lex ws
def formsL (H:Hou) (ws:List Wrd) (S:Frm→List UInt8):List (List UInt8):=if formsE H ws=0 then ws.map fun w=>S w.form else []
theorem fgo_ok {x:Lex}:∀ {l:List Wrd},fgo x l=0→∀ w∈l,frmErr x w.form=0
 | [],_,w,hw=>by cases hw
 | a::t,h,w,hw=>by
   unfold fgo at h
   split at h
   ·rename_i h1;exact absurd h h1
   ·rename_i h1
    rcases List.mem_cons.1 hw with rfl|hw
    ·simpa using h1
    ·exact fgo_ok h w hw
theorem formsE_ok {H:Hou} {ws:List Wrd} (h:formsE H ws=0):ws.length≤60∧∀ w∈ws,frmErr H.lex w.form=0:=by
 unfold formsE at h
 split at h
 ·rename_i h1;exact absurd h h1
 split at h
 ·cases h
 ·exact ⟨by omega,fgo_ok h⟩
theorem formsL_ok {H:Hou} {ws:List Wrd} {S:Frm→List UInt8} (hS:∀ f,frmErr H.lex f=0→(S f).length≤28):(formsL H ws S).length≤60∧∀ s∈formsL H ws S,s.length≤28:=by
 unfold formsL
 split
 ·rename_i h
  obtain ⟨h1,h2⟩:=formsE_ok h
  refine ⟨by rw [List.length_map];exact h1,fun s hs=>?_⟩
  obtain ⟨w,hw,rfl⟩:=List.mem_map.1 hs
  exact hS _ (h2 w hw)
 ·exact ⟨by simp,fun s hs=>by cases hs⟩
def c17:Cfg:=⟨[0,1,2,3,4,5,7,17,29,30,31,32],[],[],[],[],[]⟩
def c16:Cfg:=⟨[0,1,2,3],[],[],[],[],[]⟩
def c20:Cfg:=⟨[0,1,2,3,4],[],[],[],[],[]⟩
def c15:Cfg:=⟨[0,1,2,3,6,7,8,9,11,12,16,20,21,22,23,24,33],[],[11],[],[],[]⟩
def c6:Cfg:=⟨[0,1,2,4,5,6,7],[],[],[],[],[]⟩
def c8:Cfg:=⟨[0,1,2,4,5,6,7],[],[],[],[],[]⟩
def c19:Cfg:=⟨[0,1,2,4,5,6,7,11,15,19,31],[],[],[],[(9,[0,1,2,3,4,5,6,7,8],[])],[]⟩
def c7:Cfg:=⟨[0,1,2,4,5,6,7,8,9,10,15,20,29,44,60],[],[9],[],[(17,[0,1,2,3,4,5,6,7,8,9,10,11,12,13,14],[])],[]⟩
def c9:Cfg:=⟨[0,1,2,4,5,6,7,8,9,15,20],[],[],[],[(8,[0,1,2,3,4,5,6,7,8,9,10,11,12],[])],[]⟩
def c3:Cfg:=⟨[0,1,2,4,5,6,7,8,11,32],[],[],[],[],[]⟩
theorem joinLaw:JoinLaw Tryz.prog 18:=
 ⟨fun bk o c xs sep w h1 h2 h3 h4 h5=>Any.strings_Join Tryz.laysJoin Tryz.builderExtra bk o c xs sep w h1 h2 h3 h4 h5,fun a c sep w=>Any.strings_Join_none Tryz.laysJoin Tryz.builderExtra a c sep w⟩
theorem joinW (xs:List (List UInt8)) (sep:List UInt8) (h:xs.length≤60) (hB:∀ s∈xs,s.length≤28) (hs:sep.length≤1):QCall Tryz.prog 18 [.sl 1 none (strV xs),.str sep] [] (.str (Lib.join xs sep)):=by
 refine join_acalls ⟨Tryz.f18,_,rfl,rfl,rfl⟩ joinLaw xs sep none ?_ (by omega)
 have h1:=join_bound (sep:=sep) hB
 have h2:(28+sep.length)*xs.length≤29*60:=Nat.mul_le_mul (by omega) h
 omega
theorem textW (x:Lex) (f:Frm) (h:FrmOK x f):QCall Tryz.prog 17 [.agg (encLex x),.agg (encFrm f)] [] (.str (txtM x f)):=by
 have hfew:=h.few
 have hst:=stmX_bound h
 have h1:=sndOK_len (h.lex.entAt h.entry.1 h.entry.2).root
 refine fcalls (F:=Tryz.f17) c17 rfl rfl rfl mixed rfl fun X=>?_
 conv=>whnf
 repeat ((refine ixn f.entry.toNat (by have:=h.entry;omega) (entAt_get h.entry.1 h.entry.2) ?_);conv=>whnf)
 refine ⟨fun he=>?_,fun he=>?_⟩<;>simp at he
 ·have hel:f.ending<x.endings.length:=by rcases h.ending with h|h<;>omega
  have h2:=sndOK_len (h.lex.ednAt he hel).text
  have hsx:stmX x f=(entAt x f.entry).root++([46]++(ednAt x f.ending).text):=by rw [stmX,if_pos he];rfl
  have hl1:([46]++(ednAt x f.ending).text).length≤LMAX:=by simp [LMAX];omega
  have hl2:((entAt x f.entry).root++([46]++(ednAt x f.ending).text)).length≤LMAX:=by simp [LMAX];omega
  conv=>whnf
  repeat ((first|(refine ixn f.ending.toNat (by omega) (ednAt_get he hel) ?_)|(refine ⟨gP_of hl2,?_⟩)|(refine ⟨gP_of hl1,?_⟩));conv=>whnf)
  refine sloop rfl mixed [2,5,29,30,31] [] (fun m r h=>∃ (i:Nat) (t:List UInt8),r=[(2,[],.iptr (encLex x)),(5,[],.str t),(29,[],.sl 1 none (ints f.clitics)),(30,[],.int .i64 (ints f.clitics).length),(31,[],.int .i64 i)]∧h=[]∧m=f.clitics.length - i∧i≤f.clitics.length∧t=stmX x f++cliX x (f.clitics.take i)) ?_ ?_
  ·conv=>whnf
   exact ⟨_,0,_,rfl,rfl,rfl,by omega,by rw [hsx];simp [cliX]⟩
  ·rintro m r h' ⟨i,t,rfl,rfl,rfl,hi,hn⟩
   conv=>whnf
   refine ⟨fun hi2=>?_,fun hi2=>?_⟩<;>simp at hi2
   ·obtain ⟨c,hc⟩:=get_lt hi2
    have hcc:=h.cli c (List.mem_of_getElem? hc)
    have hcw:=sndOK_len (h.lex.cliAt hcc.1 hcc.2).text
    have hb:=cliX_bound h.lex (l:=f.clitics.take i) fun d hd=>h.cli d (List.mem_of_mem_take hd)
    rw [List.length_take] at hb
    have hs:=take_snoc hc
    have hl1:([61]++(cliAt x c).text).length≤LMAX:=by simp [LMAX];omega
    have hl:(t++([61]++(cliAt x c).text)).length≤LMAX:=by rw [hn];simp [LMAX];omega
    conv=>whnf
    repeat ((first|refine ⟨gP_of ⟨by omega,by omega⟩,?_⟩|refine ix (by assumption) ?_|(refine ixn c.toNat (by omega) (cliAt_get hcc.1 hcc.2) ?_)|(refine ⟨gP_of hl,?_⟩)|(refine ⟨gP_of hl1,?_⟩));conv=>whnf)
    exact ⟨_,by omega,i+1,_,rfl,rfl,rfl,by omega,by rw [hs,cliX_snoc,hn,List.append_assoc]⟩
   ·rw [List.take_of_length_le hi2] at hn
    conv=>whnf
    skip
    rw [hn]
    exact ⟨rfl,rfl⟩
 ·have hsx:stmX x f=(entAt x f.entry).root:=by rw [stmX,if_neg (by omega),List.append_nil]
  conv=>whnf
  skip
  refine sloop rfl mixed [2,5,29,30,31] [] (fun m r h=>∃ (i:Nat) (t:List UInt8),r=[(2,[],.iptr (encLex x)),(5,[],.str t),(29,[],.sl 1 none (ints f.clitics)),(30,[],.int .i64 (ints f.clitics).length),(31,[],.int .i64 i)]∧h=[]∧m=f.clitics.length - i∧i≤f.clitics.length∧t=stmX x f++cliX x (f.clitics.take i)) ?_ ?_
  ·conv=>whnf
   exact ⟨_,0,_,rfl,rfl,rfl,by omega,by rw [hsx];simp [cliX]⟩
  ·rintro m r h' ⟨i,t,rfl,rfl,rfl,hi,hn⟩
   conv=>whnf
   refine ⟨fun hi2=>?_,fun hi2=>?_⟩<;>simp at hi2
   ·obtain ⟨c,hc⟩:=get_lt hi2
    have hcc:=h.cli c (List.mem_of_getElem? hc)
    have hcw:=sndOK_len (h.lex.cliAt hcc.1 hcc.2).text
    have hb:=cliX_bound h.lex (l:=f.clitics.take i) fun d hd=>h.cli d (List.mem_of_mem_take hd)
    rw [List.length_take] at hb
    have hs:=take_snoc hc
    have hl1:([61]++(cliAt x c).text).length≤LMAX:=by simp [LMAX];omega
    have hl:(t++([61]++(cliAt x c).text)).length≤LMAX:=by rw [hn];simp [LMAX];omega
    conv=>whnf
    repeat ((first|refine ⟨gP_of ⟨by omega,by omega⟩,?_⟩|refine ix (by assumption) ?_|(refine ixn c.toNat (by omega) (cliAt_get hcc.1 hcc.2) ?_)|(refine ⟨gP_of hl,?_⟩)|(refine ⟨gP_of hl1,?_⟩));conv=>whnf)
    exact ⟨_,by omega,i+1,_,rfl,rfl,rfl,by omega,by rw [hs,cliX_snoc,hn,List.append_assoc]⟩
   ·rw [List.take_of_length_le hi2] at hn
    conv=>whnf
    skip
    rw [hn]
    exact ⟨rfl,rfl⟩
theorem text1W (H:Hou) (f:Frm) (h:frmErr H.lex f=0):QCall Tryz.prog 16 [.agg (encFrm f),.iptr (encHou H)] [] (.str (txtM H.lex f)):=by
 refine fcalls (F:=Tryz.f16) c16 rfl rfl rfl mixed rfl fun X=>?_
 conv=>whnf
 repeat (refine QCall.k0 (textW H.lex f (frmOK h)) ?_;conv=>whnf)
 exact ⟨rfl,rfl⟩
theorem sounds1W (H:Hou) (f:Frm) (hf:HouFit H) (h:frmErr H.lex f=0):QCall Tryz.prog 20 [.agg (encFrm f),.iptr (encHou H)] [] (.str (sndM H.lex f)):=by
 have hs:=SoundsW H.lex f hf.lex (by have:=(frmOK h).few;unfold LMAX;omega)
 rw [if_pos h] at hs
 refine fcalls (F:=Tryz.f20) c20 rfl rfl rfl mixed rfl fun X=>?_
 conv=>whnf
 repeat (refine QCall.k0 (hs) ?_;conv=>whnf)
 exact ⟨rfl,rfl⟩
theorem formsW (H:Hou) (ws:List Wrd) (hf:HouFit H) (hl:ws.length≤1048576) (hc:∀ w∈ws,w.form.clitics.length≤1048576) (fn:Nat) (cap:AV) (S:Frm→List UInt8) (hS:∀ f,frmErr H.lex f=0→QCall Tryz.prog fn [.agg (encFrm f),cap] [] (.str (S f))) :
  QCall Tryz.prog 15 [.agg (encHou H),.sl 4 none (ws.map encWrd),.fn fn [cap]] [] (.tup [.sl 1 none (strV (formsL H ws S)),.int .i64 (formsE H ws)]):=by
 refine QCall.of ?_
 refine fcalls (F:=Tryz.f15) c15 rfl rfl rfl mixed rfl fun X=>?_
 conv=>whnf
 repeat (refine QCall.k0 (checkHouse H hf) ?_;conv=>whnf)
 refine ⟨fun h0=>?_,fun h0=>?_⟩<;>simp at h0
 ·have he:formsE H ws=houErr H:=by rw [formsE,if_pos h0]
  conv=>whnf
  skip
  rw [formsL,he,if_neg h0]
  exact VLe.tup (.cons (VLe.nil (by decide)) (.cons (VLe.refl _) .nil))
 conv=>whnf
 refine ⟨fun h2=>?_,fun h2=>?_⟩<;>simp at h2
 ·have he:formsE H ws=2:=by rw [formsE,if_neg (by omega),if_pos (by omega)]
  conv=>whnf
  skip
  rw [formsL,he,if_neg (by decide)]
  exact VLe.tup (.cons (VLe.nil (by decide)) (.cons (VLe.refl _) .nil))
 have he:formsE H ws=fgo H.lex ws:=by rw [formsE,if_neg (by omega),if_neg (by omega)]
 conv=>whnf
 skip
 refine tloop rfl mixed [2,3,9,21,22,23] [] (fun m r h=>∃ (i:Nat) (v:AV) (hp:Heap),r=[(2,[],.fn fn [cap]),(3,[],.iptr (encHou H)),(9,[],v),(21,[],.sl 4 none (ws.map encWrd)),(22,[],.int .i64 (ws.map encWrd).length),(23,[],.int .i64 i)]∧h=hp∧m=ws.length - i∧i≤ws.length∧fgo H.lex ws=fgo H.lex (ws.drop i)∧Out 1 (fun s=>[AV.str s]) ((ws.take i).map fun w=>S w.form) v hp) ?_ ?_
 ·conv=>whnf
  exact ⟨_,_,Turn.refl _ _,_,0,.nilS,[],rfl,rfl,rfl,by omega,rfl,.inl ⟨rfl,rfl,rfl⟩⟩
 ·rintro m r h' ⟨i,v,hp,rfl,rfl,rfl,hi,hg,ho⟩
  conv=>whnf
  refine ⟨fun hi2=>?_,fun hi2=>?_⟩<;>simp at hi2
  ·obtain ⟨w,hw⟩:=get_lt hi2
   have hwc:=hc w (List.mem_of_getElem? hw)
   rw [drop_cons hw,fgo] at hg
   conv=>whnf
   repeat ((first|refine ix (by assumption) ?_|refine QCall.k0 (checkForm H.lex w.form hf.lex (by unfold LMAX;omega)) ?_|refine ⟨_,_,Rem.here _,⟨Nat.le_of_ble_eq_true rfl,rfl⟩,?_⟩|intro (nb:Nat));conv=>whnf)
   refine ⟨fun hq=>?_,fun hq=>?_⟩<;>simp at hq
   ·rw [if_pos hq] at hg
    conv=>whnf
    skip
    rw [formsL,he,hg,if_neg hq]
    exact VLe.tup (.cons (VLe.nil (by decide)) (.cons (VLe.refl _) .nil))
   ·rw [if_neg (by omega)] at hg
    have hcl:=hS w.form hq
    have hs:(ws.take (i+1)).map (fun w=>S w.form)=(ws.take i).map (fun w=>S w.form)++[S w.form]:=by rw [take_snoc hw,List.map_append];rfl
    have hlen:((ws.take i).map fun w=>S w.form).length≤60:=by rw [List.length_map,List.length_take];omega
    rcases ho with ⟨hLn,rfl,rfl⟩|⟨q,rfl,rfl⟩
    all_goals
     conv=>whnf
     repeat ((first|refine ⟨gP_of ⟨by omega,by omega⟩,?_⟩|refine QCall.k0 (hcl) ?_|(refine ⟨Nat.le_of_ble_eq_true rfl,fun q'=>?_⟩)|(refine ⟨(by rw [List.length_append,List.length_map];simp at hlen ⊢;unfold AMAX;omega),fun q'=>⟨_,.here _,?_⟩⟩));conv=>whnf)
     refine ⟨_,_,Turn.refl _ _,_,(by omega),i+1,_,[(q',.tok)],rfl,rfl,rfl,by omega,hg,.inr ⟨q',?_,rfl⟩⟩
     rw [hs,List.map_append]
     first|done|rfl|(rw [hLn];done)|(rw [hLn];rfl)
  ·rw [List.take_of_length_le hi2] at ho
   rw [drop_nil hi2,fgo] at hg
   have h9:formsE H ws=0:=he.trans hg
   have hF:formsL H ws S=ws.map fun w=>S w.form:=if_pos h9
   conv=>whnf
   skip
   rw [hF,h9]
   exact VLe.tup (.cons (ho.le (by decide)) (.cons (VLe.refl _) .nil))
theorem TextW (H:Hou) (ws:List Wrd) (hf:HouFit H) (hl:ws.length≤1048576) (hc:∀ w∈ws,w.form.clitics.length≤1048576) :
  QCall Tryz.prog 6 [.agg (encHou H),.sl 4 none (ws.map encWrd)] [] (.tup [.str (Lib.join (formsL H ws (txtM H.lex)) [32]),.int .i64 (formsE H ws)]):=by
 have hfo:=formsW H ws hf hl hc 16 (.iptr (encHou H)) (txtM H.lex) (fun f h=>text1W H f h)
 obtain ⟨h1,h2⟩:=formsL_ok (H:=H) (ws:=ws) (S:=txtM H.lex) fun f h=>txtM_bound (frmOK h)
 have hj:=joinW (formsL H ws (txtM H.lex)) [32] h1 h2 (by decide)
 refine fcalls (F:=Tryz.f6) c6 rfl rfl rfl mixed rfl fun X=>?_
 conv=>whnf
 repeat ((first|refine QCall.k0 (hfo) ?_|refine QCall.k0 (hj) ?_);conv=>whnf)
 exact ⟨rfl,rfl⟩
theorem SoundsA (H:Hou) (ws:List Wrd) (hf:HouFit H) (hl:ws.length≤1048576) (hc:∀ w∈ws,w.form.clitics.length≤1048576) :
  QCall Tryz.prog 8 [.agg (encHou H),.sl 4 none (ws.map encWrd)] [] (.tup [.str (Lib.join (formsL H ws (sndM H.lex)) []),.int .i64 (formsE H ws)]):=by
 have hfo:=formsW H ws hf hl hc 20 (.iptr (encHou H)) (sndM H.lex) (fun f h=>sounds1W H f hf h)
 obtain ⟨h1,h2⟩:=formsL_ok (H:=H) (ws:=ws) (S:=sndM H.lex) fun f h=>sndM_bound (frmOK h)
 have hj:=joinW (formsL H ws (sndM H.lex)) [] h1 h2 (by decide)
 refine fcalls (F:=Tryz.f8) c8 rfl rfl rfl mixed rfl fun X=>?_
 conv=>whnf
 repeat ((first|refine QCall.k0 (hfo) ?_|refine QCall.k0 (hj) ?_);conv=>whnf)
 exact ⟨rfl,rfl⟩
theorem checkWs (H:Hou) (ws:List Wrd) (hf:HouFit H) (hl:ws.length≤1048576) (hc:∀ w∈ws,w.form.clitics.length≤1048576):QCall Tryz.prog 19 [.agg (encHou H),.sl 4 none (ws.map encWrd)] [] (.int .i64 (formsE H ws)):=by
 refine fcalls (F:=Tryz.f19) c19 rfl rfl rfl mixed rfl fun X=>?_
 conv=>whnf
 repeat (refine QCall.k0 (refHouse H hf) ?_;conv=>whnf)
 refine ⟨fun h0=>?_,fun h0=>?_⟩<;>simp at h0
 ·conv=>whnf
  skip
  exact ⟨by rw [formsE,if_pos h0],rfl⟩
 conv=>whnf
 skip
 refine ⟨fun h2=>?_,fun h2=>?_⟩<;>simp at h2
 ·conv=>whnf
  skip
  exact ⟨by rw [formsE,if_neg (by omega),if_pos (by omega)],rfl⟩
 have he:formsE H ws=fgo H.lex ws:=by rw [formsE,if_neg (by omega),if_neg (by omega)]
 conv=>whnf
 skip
 refine sloop rfl mixed [1,2,6] [] (fun m r h=>∃ (i:Nat),r=[(1,[],.sl 4 none (ws.map encWrd)),(2,[],.iptr (encHou H)),(6,[],.int .i64 i)]∧h=[]∧m=ws.length - i∧i≤ws.length∧fgo H.lex ws=fgo H.lex (ws.drop i)) ?_ ?_
 ·conv=>whnf
  exact ⟨_,0,rfl,rfl,rfl,by omega,rfl⟩
 ·rintro m r h ⟨i,rfl,rfl,rfl,hi,hg⟩
  conv=>whnf
  skip
  refine ⟨fun hi2=>?_,fun hi2=>?_⟩<;>simp at hi2
  ·obtain ⟨w,hw⟩:=get_lt hi2
   have hwc:=hc w (List.mem_of_getElem? hw)
   rw [drop_cons hw,fgo] at hg
   conv=>whnf
   repeat ((first|refine ix (by assumption) ?_|refine gcall (refForm H.lex w.form hf.lex (by unfold LMAX;omega)) ?_|refine And.intro (by show drawOK (opsAt Tryz.f19 _) _=true;decide +kernel) ?_);conv=>whnf)
   refine ⟨fun hq=>?_,fun hq=>?_⟩<;>simp at hq
   ·rw [if_pos hq] at hg
    conv=>whnf
    skip
    exact ⟨by rw [he,hg],rfl⟩
   ·rw [if_neg (by omega)] at hg
    conv=>whnf
    repeat (refine ⟨gP_of ⟨by omega,by omega⟩,?_⟩;conv=>whnf)
    exact ⟨_,by omega,i+1,rfl,rfl,rfl,by omega,hg⟩
  ·rw [drop_nil hi2,fgo] at hg
   conv=>whnf
   skip
   exact ⟨by rw [he,hg],rfl⟩
theorem refTextW (H:Hou) (ws:List Wrd) (hf:HouFit H) (hl:ws.length≤1048576) (hc:∀ w∈ws,w.form.clitics.length≤1048576) :
  QCall Tryz.prog 7 [.agg (encHou H),.sl 4 none (ws.map encWrd)] [] (.tup [.str (Lib.join (formsL H ws (txtM H.lex)) [32]),.int .i64 (formsE H ws)]):=by
 refine fcalls (F:=Tryz.f7) c7 rfl rfl rfl mixed rfl fun X=>?_
 conv=>whnf
 repeat (refine QCall.k0 (checkWs H ws hf hl hc) ?_;conv=>whnf)
 refine ⟨fun h0=>?_,fun h0=>?_⟩<;>simp at h0
 ·conv=>whnf
  skip
  exact ⟨by rw [formsL,if_neg h0];rfl,rfl⟩
 obtain ⟨hn60,hfr⟩:=formsE_ok h0
 have hFL:formsL H ws (txtM H.lex)=ws.map fun w=>txtM H.lex w.form:=if_pos h0
 rw [hFL,h0]
 conv=>whnf
 skip
 refine sloop rfl mixed [1,2,7,8] [] (fun m r h=>∃ (i:Nat) (t:List UInt8),r=[(1,[],.sl 4 none (ws.map encWrd)),(2,[],.iptr (encHou H)),(7,[],.str t),(8,[],.int .i64 i)]∧h=[]∧m=ws.length - i∧i≤ws.length∧t=Lib.join ((ws.take i).map fun w=>txtM H.lex w.form) [32]) ?_ ?_
 ·conv=>whnf
  exact ⟨_,0,_,rfl,rfl,rfl,by omega,rfl⟩
 ·rintro m r h ⟨i,t,rfl,rfl,rfl,hi,ht⟩
  conv=>whnf
  skip
  refine ⟨fun hi2=>?_,fun hi2=>?_⟩<;>simp at hi2
  ·obtain ⟨w,hw⟩:=get_lt hi2
   have hF:=frmOK (hfr w (List.mem_of_getElem? hw))
   have hfew:=hF.few
   have h1:=sndOK_len (hF.lex.entAt hF.entry.1 hF.entry.2).root
   have hst:=stmX_bound hF
   have hs:(ws.take (i+1)).map (fun w=>txtM H.lex w.form)=(ws.take i).map (fun w=>txtM H.lex w.form)++[txtM H.lex w.form]:=by rw [take_snoc hw,List.map_append];rfl
   have hjb:=join_bound (sep:=[32]) (B:=28) (l:=(ws.take i).map fun w=>txtM H.lex w.form) fun s hs=>by
    obtain ⟨v,hv,rfl⟩:=List.mem_map.1 hs
    exact txtM_bound (frmOK (hfr v (List.mem_of_mem_take hv)))
   rw [← ht,List.length_map,List.length_take] at hjb
   have hjb2:(28+[(32:UInt8)].length)*min i ws.length≤29*60:=Nat.mul_le_mul (by decide) (by omega)
   obtain ⟨u,hu⟩:∃ u:List UInt8,u=if i=0 then t else t++[32]:=⟨_,rfl⟩
   have hul:u.length≤1741:=by
    rw [hu]
    split
    ·omega
    ·rw [List.length_append,List.length_cons,List.length_nil];omega
   obtain ⟨z,hzd⟩:∃ z:List UInt8,z=u++stmX H.lex w.form:=⟨_,rfl⟩
   have hzl:z.length≤1754:=by rw [hzd,List.length_append];omega
   have hend:z++cliX H.lex w.form.clitics=Lib.join ((ws.take (i+1)).map fun w=>txtM H.lex w.form) [32]:=by
    rw [hs,join_snoc,hzd,hu,ht]
    by_cases h:i=0
    ·subst h
     rw [if_pos rfl,if_pos (show List.map (fun w=>txtM H.lex w.form) (List.take 0 ws)=[] from rfl)]
     show (Lib.join [] [32]++_)++_=_
     rw [Lib.join_nil,List.nil_append];rfl
    ·rw [if_neg h,if_neg (by intro e;have:=congrArg List.length e;rw [List.length_map,List.length_take,List.length_nil] at this;omega),List.append_assoc];rfl
   conv=>whnf
   repeat ((first|refine ix (by assumption) ?_|refine ⟨_,_,Rem.here _,⟨Nat.le_of_ble_eq_true rfl,rfl⟩,?_⟩|intro (nb:Nat));conv=>whnf)
   have hlr:(u++(entAt H.lex w.form.entry).root).length≤LMAX:=by simp [LMAX];omega
   have hls:(t++[32]).length≤LMAX:=by simp [LMAX];omega
   refine ⟨fun h3=>?_,fun h3=>?_⟩<;>simp at h3
   ·have hue:u=t++[32]:=by rw [hu,if_neg (by omega)]
    conv=>whnf
    repeat ((first|(refine ⟨gP_of hls,?_⟩)|(refine ⟨gP_of (by rw [← hue];exact hlr),?_⟩)|(refine ixn w.form.entry.toNat (by have:=hF.entry;omega) (entAt_get hF.entry.1 hF.entry.2) ?_));conv=>whnf)
    rw [← hue]
    refine ⟨fun he=>?_,fun he=>?_⟩<;>simp at he
    ·have hel:w.form.ending<H.lex.endings.length:=by rcases hF.ending with h|h<;>omega
     have h2:=sndOK_len (hF.lex.ednAt he hel).text
     have hsx:stmX H.lex w.form=(entAt H.lex w.form.entry).root++([46]++(ednAt H.lex w.form.ending).text):=by rw [stmX,if_pos he];rfl
     have hl1:([46]++(ednAt H.lex w.form.ending).text).length≤LMAX:=by simp [LMAX];omega
     have hl2:((u++(entAt H.lex w.form.entry).root)++([46]++(ednAt H.lex w.form.ending).text)).length≤LMAX:=by simp [LMAX];omega
     conv=>whnf
     repeat ((first|(refine ixn w.form.ending.toNat (by omega) (ednAt_get he hel) ?_)|(refine ⟨gP_of hl2,?_⟩)|(refine ⟨gP_of hl1,?_⟩));conv=>whnf)
     have hz:(u++(entAt H.lex w.form.entry).root)++([46]++(ednAt H.lex w.form.ending).text)=z:=by rw [hzd,hsx,List.append_assoc]
     refine sloop rfl mixed [1,2,7,8,9,10] [] (fun m r h=>∃ (k:Nat) (t:List UInt8),r=[(1,[],.sl 4 none (ws.map encWrd)),(2,[],.iptr (encHou H)),(7,[],.str t),(8,[],.int .i64 i),(9,[],.iptr (encFrm w.form)),(10,[],.int .i64 k)]∧h=[]∧m=w.form.clitics.length - k∧k≤w.form.clitics.length∧t=z++cliX H.lex (w.form.clitics.take k)) ?_ ?_
     ·conv=>whnf
      exact ⟨_,0,_,rfl,rfl,rfl,by omega,by rw [hz];simp [cliX]⟩
     ·rintro m r h' ⟨k,t,rfl,rfl,rfl,hk,hn⟩
      conv=>whnf
      skip
      refine ⟨fun hk2=>?_,fun hk2=>?_⟩<;>simp at hk2
      ·obtain ⟨c,hcl⟩:=get_lt hk2
       have hcc:=hF.cli c (List.mem_of_getElem? hcl)
       have hcw:=sndOK_len (hF.lex.cliAt hcc.1 hcc.2).text
       have hb:=cliX_bound hF.lex (l:=w.form.clitics.take k) fun d hd=>hF.cli d (List.mem_of_mem_take hd)
       rw [List.length_take] at hb
       have hs:=take_snoc hcl
       have hl1:([61]++(cliAt H.lex c).text).length≤LMAX:=by simp [LMAX];omega
       have hl2:(t++([61]++(cliAt H.lex c).text)).length≤LMAX:=by rw [hn];simp [LMAX];omega
       conv=>whnf
       repeat ((first|refine ⟨gP_of ⟨by omega,by omega⟩,?_⟩|refine ix (by assumption) ?_|(refine ixn c.toNat (by omega) (cliAt_get hcc.1 hcc.2) ?_)|(refine ⟨gP_of hl2,?_⟩)|(refine ⟨gP_of hl1,?_⟩)|refine And.intro (by show drawOK (opsAt Tryz.f7 _) _=true;decide +kernel) ?_);conv=>whnf)
       exact ⟨_,by omega,k+1,_,rfl,rfl,rfl,by omega,by rw [hs,cliX_snoc,hn,List.append_assoc]⟩
      ·rw [List.take_of_length_le hk2] at hn
       conv=>whnf
       repeat (refine ⟨gP_of ⟨by omega,by omega⟩,?_⟩;conv=>whnf)
       exact ⟨_,by omega,i+1,_,rfl,rfl,rfl,by omega,by rw [hn];exact hend⟩
    ·have hsx:stmX H.lex w.form=(entAt H.lex w.form.entry).root:=by rw [stmX,if_neg (by omega),List.append_nil]
     have hz:u++(entAt H.lex w.form.entry).root=z:=by rw [hzd,hsx]
     conv=>whnf
     skip
     refine sloop rfl mixed [1,2,7,8,9,10] [] (fun m r h=>∃ (k:Nat) (t:List UInt8),r=[(1,[],.sl 4 none (ws.map encWrd)),(2,[],.iptr (encHou H)),(7,[],.str t),(8,[],.int .i64 i),(9,[],.iptr (encFrm w.form)),(10,[],.int .i64 k)]∧h=[]∧m=w.form.clitics.length - k∧k≤w.form.clitics.length∧t=z++cliX H.lex (w.form.clitics.take k)) ?_ ?_
     ·conv=>whnf
      exact ⟨_,0,_,rfl,rfl,rfl,by omega,by rw [hz];simp [cliX]⟩
     ·rintro m r h' ⟨k,t,rfl,rfl,rfl,hk,hn⟩
      conv=>whnf
      skip
      refine ⟨fun hk2=>?_,fun hk2=>?_⟩<;>simp at hk2
      ·obtain ⟨c,hcl⟩:=get_lt hk2
       have hcc:=hF.cli c (List.mem_of_getElem? hcl)
       have hcw:=sndOK_len (hF.lex.cliAt hcc.1 hcc.2).text
       have hb:=cliX_bound hF.lex (l:=w.form.clitics.take k) fun d hd=>hF.cli d (List.mem_of_mem_take hd)
       rw [List.length_take] at hb
       have hs:=take_snoc hcl
       have hl1:([61]++(cliAt H.lex c).text).length≤LMAX:=by simp [LMAX];omega
       have hl2:(t++([61]++(cliAt H.lex c).text)).length≤LMAX:=by rw [hn];simp [LMAX];omega
       conv=>whnf
       repeat ((first|refine ⟨gP_of ⟨by omega,by omega⟩,?_⟩|refine ix (by assumption) ?_|(refine ixn c.toNat (by omega) (cliAt_get hcc.1 hcc.2) ?_)|(refine ⟨gP_of hl2,?_⟩)|(refine ⟨gP_of hl1,?_⟩)|refine And.intro (by show drawOK (opsAt Tryz.f7 _) _=true;decide +kernel) ?_);conv=>whnf)
       exact ⟨_,by omega,k+1,_,rfl,rfl,rfl,by omega,by rw [hs,cliX_snoc,hn,List.append_assoc]⟩
      ·rw [List.take_of_length_le hk2] at hn
       conv=>whnf
       repeat (refine ⟨gP_of ⟨by omega,by omega⟩,?_⟩;conv=>whnf)
       exact ⟨_,by omega,i+1,_,rfl,rfl,rfl,by omega,by rw [hn];exact hend⟩
   ·have hue:u=t:=by rw [hu,if_pos (by omega)]
    conv=>whnf
    repeat ((first|(refine ⟨gP_of (by rw [← hue];exact hlr),?_⟩)|(refine ixn w.form.entry.toNat (by have:=hF.entry;omega) (entAt_get hF.entry.1 hF.entry.2) ?_));conv=>whnf)
    rw [← hue]
    refine ⟨fun he=>?_,fun he=>?_⟩<;>simp at he
    ·have hel:w.form.ending<H.lex.endings.length:=by rcases hF.ending with h|h<;>omega
     have h2:=sndOK_len (hF.lex.ednAt he hel).text
     have hsx:stmX H.lex w.form=(entAt H.lex w.form.entry).root++([46]++(ednAt H.lex w.form.ending).text):=by rw [stmX,if_pos he];rfl
     have hl1:([46]++(ednAt H.lex w.form.ending).text).length≤LMAX:=by simp [LMAX];omega
     have hl2:((u++(entAt H.lex w.form.entry).root)++([46]++(ednAt H.lex w.form.ending).text)).length≤LMAX:=by simp [LMAX];omega
     conv=>whnf
     repeat ((first|(refine ixn w.form.ending.toNat (by omega) (ednAt_get he hel) ?_)|(refine ⟨gP_of hl2,?_⟩)|(refine ⟨gP_of hl1,?_⟩));conv=>whnf)
     have hz:(u++(entAt H.lex w.form.entry).root)++([46]++(ednAt H.lex w.form.ending).text)=z:=by rw [hzd,hsx,List.append_assoc]
     refine sloop rfl mixed [1,2,7,8,9,10] [] (fun m r h=>∃ (k:Nat) (t:List UInt8),r=[(1,[],.sl 4 none (ws.map encWrd)),(2,[],.iptr (encHou H)),(7,[],.str t),(8,[],.int .i64 i),(9,[],.iptr (encFrm w.form)),(10,[],.int .i64 k)]∧h=[]∧m=w.form.clitics.length - k∧k≤w.form.clitics.length∧t=z++cliX H.lex (w.form.clitics.take k)) ?_ ?_
     ·conv=>whnf
      exact ⟨_,0,_,rfl,rfl,rfl,by omega,by rw [hz];simp [cliX]⟩
     ·rintro m r h' ⟨k,t,rfl,rfl,rfl,hk,hn⟩
      conv=>whnf
      skip
      refine ⟨fun hk2=>?_,fun hk2=>?_⟩<;>simp at hk2
      ·obtain ⟨c,hcl⟩:=get_lt hk2
       have hcc:=hF.cli c (List.mem_of_getElem? hcl)
       have hcw:=sndOK_len (hF.lex.cliAt hcc.1 hcc.2).text
       have hb:=cliX_bound hF.lex (l:=w.form.clitics.take k) fun d hd=>hF.cli d (List.mem_of_mem_take hd)
       rw [List.length_take] at hb
       have hs:=take_snoc hcl
       have hl1:([61]++(cliAt H.lex c).text).length≤LMAX:=by simp [LMAX];omega
       have hl2:(t++([61]++(cliAt H.lex c).text)).length≤LMAX:=by rw [hn];simp [LMAX];omega
       conv=>whnf
       repeat ((first|refine ⟨gP_of ⟨by omega,by omega⟩,?_⟩|refine ix (by assumption) ?_|(refine ixn c.toNat (by omega) (cliAt_get hcc.1 hcc.2) ?_)|(refine ⟨gP_of hl2,?_⟩)|(refine ⟨gP_of hl1,?_⟩)|refine And.intro (by show drawOK (opsAt Tryz.f7 _) _=true;decide +kernel) ?_);conv=>whnf)
       exact ⟨_,by omega,k+1,_,rfl,rfl,rfl,by omega,by rw [hs,cliX_snoc,hn,List.append_assoc]⟩
      ·rw [List.take_of_length_le hk2] at hn
       conv=>whnf
       repeat (refine ⟨gP_of ⟨by omega,by omega⟩,?_⟩;conv=>whnf)
       exact ⟨_,by omega,i+1,_,rfl,rfl,rfl,by omega,by rw [hn];exact hend⟩
    ·have hsx:stmX H.lex w.form=(entAt H.lex w.form.entry).root:=by rw [stmX,if_neg (by omega),List.append_nil]
     have hz:u++(entAt H.lex w.form.entry).root=z:=by rw [hzd,hsx]
     conv=>whnf
     skip
     refine sloop rfl mixed [1,2,7,8,9,10] [] (fun m r h=>∃ (k:Nat) (t:List UInt8),r=[(1,[],.sl 4 none (ws.map encWrd)),(2,[],.iptr (encHou H)),(7,[],.str t),(8,[],.int .i64 i),(9,[],.iptr (encFrm w.form)),(10,[],.int .i64 k)]∧h=[]∧m=w.form.clitics.length - k∧k≤w.form.clitics.length∧t=z++cliX H.lex (w.form.clitics.take k)) ?_ ?_
     ·conv=>whnf
      exact ⟨_,0,_,rfl,rfl,rfl,by omega,by rw [hz];simp [cliX]⟩
     ·rintro m r h' ⟨k,t,rfl,rfl,rfl,hk,hn⟩
      conv=>whnf
      skip
      refine ⟨fun hk2=>?_,fun hk2=>?_⟩<;>simp at hk2
      ·obtain ⟨c,hcl⟩:=get_lt hk2
       have hcc:=hF.cli c (List.mem_of_getElem? hcl)
       have hcw:=sndOK_len (hF.lex.cliAt hcc.1 hcc.2).text
       have hb:=cliX_bound hF.lex (l:=w.form.clitics.take k) fun d hd=>hF.cli d (List.mem_of_mem_take hd)
       rw [List.length_take] at hb
       have hs:=take_snoc hcl
       have hl1:([61]++(cliAt H.lex c).text).length≤LMAX:=by simp [LMAX];omega
       have hl2:(t++([61]++(cliAt H.lex c).text)).length≤LMAX:=by rw [hn];simp [LMAX];omega
       conv=>whnf
       repeat ((first|refine ⟨gP_of ⟨by omega,by omega⟩,?_⟩|refine ix (by assumption) ?_|(refine ixn c.toNat (by omega) (cliAt_get hcc.1 hcc.2) ?_)|(refine ⟨gP_of hl2,?_⟩)|(refine ⟨gP_of hl1,?_⟩)|refine And.intro (by show drawOK (opsAt Tryz.f7 _) _=true;decide +kernel) ?_);conv=>whnf)
       exact ⟨_,by omega,k+1,_,rfl,rfl,rfl,by omega,by rw [hs,cliX_snoc,hn,List.append_assoc]⟩
      ·rw [List.take_of_length_le hk2] at hn
       conv=>whnf
       repeat (refine ⟨gP_of ⟨by omega,by omega⟩,?_⟩;conv=>whnf)
       exact ⟨_,by omega,i+1,_,rfl,rfl,rfl,by omega,by rw [hn];exact hend⟩
  ·rw [List.take_of_length_le hi2] at ht
   conv=>whnf
   skip
   rw [ht]
   exact ⟨rfl,rfl⟩
theorem refSoundsA (H:Hou) (ws:List Wrd) (hf:HouFit H) (hl:ws.length≤1048576) (hc:∀ w∈ws,w.form.clitics.length≤1048576) :
  QCall Tryz.prog 9 [.agg (encHou H),.sl 4 none (ws.map encWrd)] [] (.tup [.str (Lib.join (formsL H ws (sndM H.lex)) []),.int .i64 (formsE H ws)]):=by
 refine fcalls (F:=Tryz.f9) c9 rfl rfl rfl mixed rfl fun X=>?_
 conv=>whnf
 repeat (refine QCall.k0 (checkWs H ws hf hl hc) ?_;conv=>whnf)
 refine ⟨fun h0=>?_,fun h0=>?_⟩<;>simp at h0
 ·conv=>whnf
  skip
  exact ⟨by rw [formsL,if_neg h0];rfl,rfl⟩
 obtain ⟨hn60,hfr⟩:=formsE_ok h0
 have hFL:formsL H ws (sndM H.lex)=ws.map fun w=>sndM H.lex w.form:=if_pos h0
 rw [hFL,h0]
 conv=>whnf
 skip
 refine sloop rfl mixed [1,2,7,8] [] (fun m r h=>∃ (i:Nat) (t:List UInt8),r=[(1,[],.sl 4 none (ws.map encWrd)),(2,[],.iptr (encHou H)),(7,[],.str t),(8,[],.int .i64 i)]∧h=[]∧m=ws.length - i∧i≤ws.length∧t=Lib.join ((ws.take i).map fun w=>sndM H.lex w.form) []) ?_ ?_
 ·conv=>whnf
  exact ⟨_,0,_,rfl,rfl,rfl,by omega,rfl⟩
 ·rintro m r h ⟨i,t,rfl,rfl,rfl,hi,ht⟩
  conv=>whnf
  skip
  refine ⟨fun hi2=>?_,fun hi2=>?_⟩<;>simp at hi2
  ·obtain ⟨w,hw⟩:=get_lt hi2
   have h9:=hfr w (List.mem_of_getElem? hw)
   have hF:=frmOK h9
   have hfew:=hF.few
   have hsb:=sndM_bound hF
   have hrs:=refSoundsF H.lex w.form hf.lex (by unfold LMAX;omega)
   rw [if_pos h9] at hrs
   have hs:(ws.take (i+1)).map (fun w=>sndM H.lex w.form)=(ws.take i).map (fun w=>sndM H.lex w.form)++[sndM H.lex w.form]:=by rw [take_snoc hw,List.map_append];rfl
   have hjb:=join_bound (sep:=[]) (B:=28) (l:=(ws.take i).map fun w=>sndM H.lex w.form) fun s hs=>by
    obtain ⟨v,hv,rfl⟩:=List.mem_map.1 hs
    exact sndM_bound (frmOK (hfr v (List.mem_of_mem_take hv)))
   rw [← ht,List.length_map,List.length_take] at hjb
   have hjb2:(28+([]:List UInt8).length)*min i ws.length≤28*60:=Nat.mul_le_mul (by decide) (by omega)
   have hll:(t++sndM H.lex w.form).length≤LMAX:=by rw [List.length_append];unfold LMAX;omega
   have hend:t++sndM H.lex w.form=Lib.join ((ws.take (i+1)).map fun w=>sndM H.lex w.form) []:=by
    rw [hs,join_snoc,ht]
    split
    ·rename_i h;rw [h,Lib.join_nil,List.nil_append]
    ·rw [List.append_nil]
   conv=>whnf
   repeat ((first|refine ⟨gP_of ⟨by omega,by omega⟩,?_⟩|refine ix (by assumption) ?_|refine gcall (hrs) ?_|(refine ⟨gP_of hll,?_⟩)|refine And.intro (by show drawOK (opsAt Tryz.f9 _) _=true;decide +kernel) ?_);conv=>whnf)
   exact ⟨_,by omega,i+1,_,rfl,rfl,rfl,by omega,hend⟩
  ·rw [List.take_of_length_le hi2] at ht
   conv=>whnf
   skip
   rw [ht]
   exact ⟨rfl,rfl⟩
theorem readTextsL (H:Hou) (ws:List Wrd) (hf:HouFit H) (hl:ws.length≤1048576) (hc:∀ w∈ws,w.form.clitics.length≤1048576):QCall Tryz.prog 3 [.agg (encHou H),.sl 4 none (ws.map encWrd)] [] (.bool true):=by
 refine QCall.of' ?_
 refine fcalls (F:=Tryz.f3) c3 rfl rfl rfl mixed rfl fun X=>?_
 conv=>whnf
 skip
 refine ⟨fun hq=>?_,fun hq=>?_⟩<;>simp at hq
 ·conv=>whnf
  repeat (refine QCall.k0 (worksW) ?_;conv=>whnf)
 conv=>whnf
 repeat ((first|refine QCall.k0 (TextW H ws hf hl hc) ?_|refine QCall.k0 (refTextW H ws hf hl hc) ?_);conv=>whnf)
 refine cF (by simp) ?_
 conv=>whnf
 repeat ((first|refine QCall.k0 (SoundsA H ws hf hl hc) ?_|refine QCall.k0 (refSoundsA H ws hf hl hc) ?_|refine gcall (worksW) ?_);conv=>whnf)
 exact congrArg AV.bool (by simp)
end Go.Abs.Wall
namespace Go.Abs.Wall.Lst
open Go Go.Abs Go.Proofs Go.Abs.Wall
theorem lastT_spec:∀ (R:List Bool) (i far:Nat),far≤i→(∀ j,R.getD j false=true→i+j≤lastT R i far)∧far≤lastT R i far∧(lastT R i far=far∨∃ j,R.getD j false=true∧lastT R i far=i+j)
 | [],i,far,h=>⟨fun j hj=>by simp at hj,Nat.le_refl _,.inl rfl⟩
 | b::t,i,far,h=>by
   unfold lastT
   cases b with
   | true=>
     obtain ⟨h1,h2,h3⟩:=lastT_spec t (i+1) i (by omega)
     rw [if_pos rfl]
     refine ⟨fun j hj=>?_,by omega,.inr ?_⟩
     ·cases j with
      | zero=>omega
      | succ j=>have:=h1 j (by simpa using hj);omega
     ·rcases h3 with h3|⟨j,h3,h4⟩
      ·exact ⟨0,rfl,by omega⟩
      ·exact ⟨j+1,by simpa using h3,by omega⟩
   | false=>
     obtain ⟨h1,h2,h3⟩:=lastT_spec t (i+1) far (by omega)
     rw [if_neg (by decide)]
     refine ⟨fun j hj=>?_,h2,?_⟩
     ·cases j with
      | zero=>simp at hj
      | succ j=>have:=h1 j (by simpa using hj);omega
     ·rcases h3 with h3|⟨j,h3,h4⟩
      ·exact .inl h3
      ·exact .inr ⟨j+1,by simpa using h3,by omega⟩
theorem reach_spec {H:Hou} {line:List Int} (h:growErr H line=0):∃ n:Nat,reachL H line=n∧n≤line.length∧RP (graphM H line) wantAll n∧∀ j,j≤line.length→RP (graphM H line) wantAll j→j≤n:=by
 obtain ⟨-,-,hg⟩:=growOK h
 have hl:=graphM_len H line
 obtain ⟨h1,h2,h3⟩:=lastT_spec (reachM (graphM H line) wantAll) 0 0 (Nat.le_refl _)
 refine ⟨lastT (reachM (graphM H line) wantAll) 0 0,by unfold reachL;rw [if_pos h],?_,?_,fun j hj hr=>?_⟩
 ·rcases h3 with h3|⟨j,h3,h4⟩
  ·omega
  ·have hj:j<(reachM (graphM H line) wantAll).length:=by
    rcases Nat.lt_or_ge j (reachM (graphM H line) wantAll).length with h5|h5
    ·exact h5
    ·rw [List.getD_eq_getElem?_getD,List.getElem?_eq_none h5] at h3;cases h3
   rw [reachM_len,hl] at hj
   omega
 ·rcases h3 with h3|⟨j,h3,h4⟩
  ·rw [h3];exact .zero
  ·have hj:j<(reachM (graphM H line) wantAll).length:=by
    rcases Nat.lt_or_ge j (reachM (graphM H line) wantAll).length with h5|h5
    ·exact h5
    ·rw [List.getD_eq_getElem?_getD,List.getElem?_eq_none h5] at h3;cases h3
   rw [reachM_len] at hj
   rw [h4,Nat.zero_add]
   exact (reachM_iff hg wantAll (by omega)).1 h3
 ·have:=h1 j ((reachM_iff hg wantAll (by omega)).2 hr)
  omega
theorem up_len {α:Type} {r:α→α→Prop} (hi:∀ a,¬ r a a) (ht:∀ a b c,r a b→r b c→r a c):∀ {l m:List α},l.Pairwise r→m.Pairwise r→(∀ x∈l,x∈m)→l.length≤m.length
 | [],m,_,_,_=>Nat.zero_le _
 | a::l,m,hl,hm,h=>by
   rw [List.pairwise_cons] at hl
   obtain ⟨m1,m2,rfl⟩:=List.append_of_mem (h a (by simp))
   rw [List.pairwise_append,List.pairwise_cons] at hm
   have:=up_len hi ht hl.2 hm.2.1.2 fun x hx=>by
    have hax:=hl.1 x hx
    rcases List.mem_append.1 (h x (by simp [hx])) with h1|h1
    ·exact absurd (ht _ _ _ (hm.2.2 x h1 a (by simp)) hax) (hi _)
    ·rcases List.mem_cons.1 h1 with rfl|h1
     ·exact absurd hax (hi _)
     ·exact h1
   simp only [List.length_append,List.length_cons]
   omega
theorem line_take {H:Hou} {line:List Int} (h:lineErr H line=0) (k:Nat):lineErr H (line.take k)=0:=by
 unfold lineErr at h ⊢
 split at h
 ·rename_i h1;exact absurd h h1
 rename_i h1
 split at h
 ·cases h
 rename_i h2
 split at h
 ·cases h
 rename_i h3
 rw [if_neg h1,if_neg (by rw [List.length_take];omega),if_neg]
 rw [Bool.not_eq_true,List.any_eq_false] at h3 ⊢
 exact fun s hs=>h3 s (List.mem_of_mem_take hs)
theorem edg_take {H:Hou} {line:List Int} (h:lineErr H line=0) {k i:Nat} (hi:i≤(line.take k).length) {x:Edg} (hx:x∈edgsAt H (line.take k) i):x∈edgsAt H line i:=by
 have hle:=line_lex h
 have hkl:(line.take k).length≤line.length:=by rw [List.length_take];omega
 obtain ⟨⟨h1,h2,h3⟩,h4⟩:=(edgsAt_iff (lineOK (line_take h k)) hle hi).1 hx
 refine (edgsAt_iff (lineOK h) hle (by omega)).2 ⟨⟨h1,by omega,?_⟩,h4⟩
 rw [List.length_take] at h2
 have:((line.take k).drop i).take x.word.uses.length=(line.drop i).take x.word.uses.length:=by
  rw [List.drop_take,List.take_take]
  congr 1
  omega
 rwa [this] at h3
theorem sumL_le:∀ {g g':List (List Edg)},g.length≤g'.length→(∀ (i:Nat) es es',g[i]?=some es→g'[i]?=some es'→es.length≤es'.length)→sumL g≤sumL g'
 | [],g',_,_=>Nat.zero_le _
 | a::g,[],h,_=>by simp at h
 | a::g,b::g',h,he=>by
   have ih:=sumL_le (g:=g) (g':=g') (by simpa using h) fun i es es' h1 h2=>he (i+1) es es' (by simpa using h1) (by simpa using h2)
   have h0:=he 0 a b rfl rfl
   unfold sumL at ih ⊢
   simp only [List.map_cons,List.sum_cons]
   omega
theorem grow_take {H:Hou} {line:List Int} (h:growErr H line=0) (k:Nat):growErr H (line.take k)=0:=by
 have hl:=grow_line h
 have hlk:=line_take hl k
 have hsum:=(growOK h).2.1
 unfold growErr
 rw [if_neg (by omega),if_neg]
 have:sumL (graphM H (line.take k))≤sumL (graphM H line):=by
  refine sumL_le (by rw [graphM_len,graphM_len,List.length_take];omega) fun i es es' h1 h2=>?_
  have hi:=(List.getElem?_eq_some_iff.1 h1).1
  rw [graphM_len] at hi
  have hi2:i<line.length:=by rw [List.length_take] at hi;omega
  rw [graphM_get hi] at h1
  rw [graphM_get hi2] at h2
  cases h1
  cases h2
  exact up_len (α:=Edg) (r:=fun x y=>wrdCmp x.word y.word<0) (fun a=>zW.c.irr a.word) (fun a b c=>zW.c.tr a.word b.word c.word) (edgsAt_up (lineOK hlk) i) (edgsAt_up (lineOK hl) i) fun x hx=>edg_take hl (by omega) hx
 omega
theorem rp_take {H:Hou} {line:List Int} (h:lineErr H line=0) {k j:Nat} (hr:RP (graphM H (line.take k)) wantAll j):RP (graphM H line) wantAll j:=by
 induction hr with
 | zero=>exact .zero
 | @step i m es x h1 h2 h3 h4 ih=>
   have hi:=(List.getElem?_eq_some_iff.1 h2).1
   rw [graphM_len] at hi
   rw [graphM_get hi] at h2
   cases h2
   have hx:=edg_take h (by omega) (List.mem_of_getElem? h3)
   obtain ⟨m',hm'⟩:=List.mem_iff_getElem?.1 hx
   exact .step ih (graphM_get (by rw [List.length_take] at hi;omega)) hm' rfl
theorem reach_take {H:Hou} {line:List Int} (h:growErr H line=0) (k:Nat):reachL H (line.take k)≤reachL H line∧reachL H (line.take k)≤k∧0≤reachL H (line.take k):=by
 obtain ⟨n,h1,h2,h3,h4⟩:=reach_spec h
 obtain ⟨m,g1,g2,g3,g4⟩:=reach_spec (grow_take h k)
 have:=h4 m (by rw [List.length_take] at g2;omega) (rp_take (grow_line h) g3)
 rw [List.length_take] at g2
 omega
theorem reach_end {H:Hou} {line:List Int} (h:growErr H line=0):listErr H line 1=0↔reachL H line=line.length:=by
 obtain ⟨n,h1,h2,h3,h4⟩:=reach_spec h
 obtain ⟨-,-,hg⟩:=growOK h
 have hl:=graphM_len H line
 have hrd:rdV (graphM H line) 0≠[]↔RP (graphM H line) wantAll line.length:=by
  constructor
  ·intro hne
   obtain ⟨p,t,hp⟩:=List.exists_cons_of_ne_nil hne
   have:=((rdV_path hg (graphM H line).length 0 (Nat.zero_add _) p).1 (by rw [hp];simp)).1
   have:=path_rp (want:=wantAll) .zero this fun _ _ _ _ _ _ _=>rfl
   rwa [hl] at this
  ·intro hr hne
   obtain ⟨l0,hp,-⟩:=rp_path hr [] (by show line.length=_;omega)
   have:=(rdV_path hg (graphM H line).length 0 (Nat.zero_add _) (sumC (l0++[]),l0++[])).2 ⟨hp,rfl⟩
   rw [hne] at this
   cases this
 unfold listErr
 rw [if_neg (by omega),if_pos (by decide)]
 constructor
 ·intro h5
  split at h5
  ·cases h5
  ·rename_i h6
   have:=h4 _ (Nat.le_refl _) (hrd.1 h6)
   omega
 ·intro h5
  rw [if_neg (hrd.2 (by rwa [show line.length=n by omega]))]
theorem list_52 {H:Hou} {line:List Int} (h:growErr H line=0) (h1:listErr H line 1≠0):listErr H line 1=52:=by
 unfold listErr at h1 ⊢
 rw [if_neg (by omega),if_pos (by decide)] at h1 ⊢
 split at h1
 ·rename_i h2;rw [if_pos h2]
 ·exact absurd rfl h1
theorem best_frm {H:Hou} {line:List Int} (h:listErr H line 1=0):∀ w∈(bestL H line).words,frmErr H.lex w.form=0:=by
 obtain ⟨r,l,h1,h2⟩:=list_first h
 obtain ⟨-,p,-,h4,h5,-⟩:=mem_list h (i:=0) (r:=r) (by rw [h1];rfl)
 have hl:=grow_line (list_ok h).1
 have key:∀ (l:List Edg) (i:Nat),i≤line.length→PathG (graphM H line) i l→∀ x∈l,frmErr H.lex x.word.form=0:=by
  intro l
  induction l with
  | nil=>intro i _ _ x hx;cases hx
  | cons y l ih=>
    rintro i hi ⟨es,hes,hy,hp⟩ x hx
    have hlt:=(List.getElem?_eq_some_iff.1 hes).1
    rw [graphM_len] at hlt
    rw [graphM_get hlt] at hes
    cases hes
    obtain ⟨⟨g1,g2,_⟩,g4⟩:=(edgsAt_iff (lineOK hl) (line_lex hl) hi).1 hy
    rcases List.mem_cons.1 hx with rfl|hx
    ·exact g1
    ·have hto:y.to.toNat=i+y.word.uses.length:=(congrArg (fun e:Edg=>e.to.toNat) g4).trans (by show ((i:Int)+y.word.uses.length).toNat=_;omega)
     rw [hto] at hp
     exact ih _ g2 hp x hx
 rw [h2,h4]
 intro w hw
 obtain ⟨x,hx,rfl⟩:=List.mem_map.1 hw
 exact key _ 0 (Nat.zero_le _) h5 x hx
end Go.Abs.Wall.Lst
namespace Go.Abs.Wall.Lst
open Go Go.Abs Go.Proofs Go.Abs.Wall
theorem r64_of {x:Int} (h1:-9223372036854775808≤x) (h2:x≤9223372036854775807):IntKind.i64.has x:=⟨h1,h2⟩
theorem fgo_of {x:Lex}:∀ {l:List Wrd},(∀ w∈l,frmErr x w.form=0)→fgo x l=0
 | [],_=>rfl
 | w::t,h=>by
   unfold fgo
   rw [if_neg (by rw [h w (by simp)];decide)]
   exact fgo_of fun v hv=>h v (by simp [hv])
def c4:Cfg:=⟨[0,1,2,4,5,6,7,8,9,10,11,12,13,14,15,20,31,88,90,108,125],[],[9],[],[(6,[0,1,2,3,4,5,6,7,8,9,10,11,12,13,14,15,16],[]),(7,[0,1,2,3,4,5,6,7,8,9,10,11],[]),(18,[0,1,2,3,4,5,6,7,8,9,10,11,12,13,14],[])],[]⟩
theorem readReachesL (H:Hou) (line:List Int) (k:Int) (hf:HouFit H) (hl:line.length≤1048576) (hk:IntKind.i64.has k):QCall Tryz.prog 4 [.agg (encCas ⟨H,line⟩),.int .i64 k] [] (.bool true):=by
 refine QCall.of' ?_
 refine fcalls (F:=Tryz.f4) c4 rfl rfl rfl mixed rfl fun X=>?_
 conv=>whnf
 repeat (refine QCall.k0 (largeW H line) ?_;conv=>whnf)
 refine ⟨fun hq=>?_,fun hq=>?_⟩
 ·conv=>whnf
  repeat (refine QCall.k0 (worksW) ?_;conv=>whnf)
  done
 conv=>whnf
 repeat (refine QCall.k0 (ReachW H line hf hl) ?_;conv=>whnf)
 refine ⟨fun h0=>?_,fun h0=>?_⟩<;>simp at h0
 ·conv=>whnf
  repeat (refine QCall.k0 (worksW) ?_;conv=>whnf)
  done
 have hil:((ints line).length:Int)=line.length:=by rw [ints_length]
 have hL0:0<(line.length:Int)+1:=by omega
 obtain ⟨t1,ht1⟩:∃ t,t=k.tmod ((line.length:Int)+1):=⟨_,rfl⟩
 have hb1:-((line.length:Int)+1)<t1∧t1<(line.length:Int)+1:=by rw [ht1];exact ⟨Int.lt_tmod_of_pos _ hL0,Int.tmod_lt_of_pos _ hL0⟩
 obtain ⟨t2,ht2⟩:∃ t,t=(t1+line.length+1).tmod ((line.length:Int)+1):=⟨_,rfl⟩
 have hb2:0≤t2∧t2<(line.length:Int)+1:=by rw [ht2];exact ⟨Int.tmod_nonneg _ (by omega),Int.tmod_lt_of_pos _ hL0⟩
 obtain ⟨s,rfl⟩:=Int.eq_ofNat_of_zero_le hb2.1
 have hs1:IntKind.i64.has (k.tmod (((ints line).length:Int)+1)):=by
  rw [hil,← ht1]
  exact r64_of (by omega) (by omega)
 have hs2:IntKind.i64.has (k.tmod (((ints line).length:Int)+1)+((ints line).length:Int)):=by
  rw [hil,← ht1]
  exact r64_of (by omega) (by omega)
 have hs3:IntKind.i64.has (k.tmod (((ints line).length:Int)+1)+((ints line).length:Int)+1):=by
  rw [hil,← ht1]
  exact r64_of (by omega) (by omega)
 have hs4:IntKind.i64.has ((k.tmod (((ints line).length:Int)+1)+((ints line).length:Int)+1).tmod (((ints line).length:Int)+1)):=by
  rw [hil,← ht1,← ht2]
  exact r64_of (by omega) (by omega)
 have hs0:IntKind.i64.has (((ints line).length:Int)+1):=by
  rw [hil]
  exact r64_of (by omega) (by omega)
 have hidx:(k.tmod (((ints (⟨H,line⟩:Cas).line).length:Int)+1)+((ints (⟨H,line⟩:Cas).line).length:Int)+1).tmod (((ints (⟨H,line⟩:Cas).line).length:Int)+1)=(s:Int):=by
  show (k.tmod (((ints line).length:Int)+1)+((ints line).length:Int)+1).tmod (((ints line).length:Int)+1)=(s:Int)
  rw [hil,← ht1,← ht2]
 conv=>whnf
 repeat ((first|refine ⟨gP_of ⟨by omega,by omega⟩,?_⟩|(refine ⟨gP_of hs0,?_⟩)|(refine ⟨gP_of hs2,?_⟩)|(refine ⟨gP_of hs3,?_⟩)|refine And.intro (by show drawOK (opsAt Tryz.f4 _) _=true;decide +kernel) ?_);conv=>whnf)
 rw [hidx]
 refine ⟨gP_of ⟨by omega,by omega,by rw [ints_length];show (s:Int)≤line.length;omega⟩,?_⟩
 have hsl:List.drop (Int.toNat 0) (List.take ((s:Int)).toNat (ints (⟨H,line⟩:Cas).line))=ints (line.take s):=by
  show List.drop 0 (List.take s (ints line))=_
  rw [List.drop_zero]
  unfold ints
  rw [List.map_take]
 have hR:=ReachW H (line.take s) hf (by rw [List.length_take];omega)
 have hgk:=grow_take h0 s
 obtain ⟨hr1,hr2,hr3⟩:=reach_take h0 s
 conv=>whnf
 rw [hsl]
 refine ⟨_,gP_of hR,?_⟩
 conv=>whnf
 repeat ((first|refine QCall.k0 (bestW H line hf hl) ?_|refine ⟨_,_,Rem.here _,⟨Nat.le_of_ble_eq_true rfl,rfl⟩,?_⟩|intro (nb:Nat));conv=>whnf)
 have hre:=reach_end h0
 have hcnd:(!decide (growErr H (line.take s)=0)||decide (reachL H line<reachL H (line.take s))||decide ((s:Int)<reachL H (line.take s))||!decide (decide (listErr H line 1=0)=decide (reachL H line=((ints (⟨H,line⟩:Cas).line).length:Int))))=false:=by
  show (!decide (growErr H (line.take s)=0)||decide (reachL H line<reachL H (line.take s))||decide ((s:Int)<reachL H (line.take s))||!decide (decide (listErr H line 1=0)=decide (reachL H line=((ints line).length:Int))))=false
  rw [hgk,hil]
  have e1:decide (reachL H line<reachL H (line.take s))=false:=decide_eq_false (by omega)
  have e2:decide ((s:Int)<reachL H (line.take s))=false:=decide_eq_false (by omega)
  have e3:decide (listErr H line 1=0)=decide (reachL H line=(line.length:Int)):=by
   by_cases h:listErr H line 1=0
   ·rw [decide_eq_true h,decide_eq_true (hre.1 h)]
   ·rw [decide_eq_false h,decide_eq_false fun e=>h (hre.2 e)]
  rw [e1,e2,e3]
  simp
 refine cF hcnd ?_
 conv=>whnf
 skip
 refine ⟨fun h1=>?_,fun h1=>?_⟩<;>simp at h1
 ·have h52:=list_52 h0 h1
  conv=>whnf
  repeat (refine gcall (worksW) ?_;conv=>whnf)
  exact congrArg AV.bool (by rw [h52];simp)
 have hfit:=bestL_fit (H:=H) (line:=line)
 obtain ⟨ws,hws⟩:∃ ws,ws=(bestL H line).words:=⟨_,rfl⟩
 have hfrm:∀ w∈ws,frmErr H.lex w.form=0:=by rw [hws];exact best_frm h1
 have hwl:ws.length≤60:=by rw [hws];exact hfit.1
 have hcl:∀ w∈ws,w.form.clitics.length≤1048576:=fun w hw=>by have:=(frmOK (hfrm w hw)).few;omega
 have hE:formsE H ws=0:=by
  unfold formsE
  rw [if_neg (by rw [grow_hou h0];decide),if_neg (by omega)]
  exact fgo_of hfrm
 have hL:formsL H ws (sndM H.lex)=ws.map fun w=>sndM H.lex w.form:=if_pos hE
 have hS:=SoundsA H ws hf (by omega) hcl
 rw [hE,hL] at hS
 have hrd:encRdg (bestL H line)=[.sl 4 none (ws.map encWrd),.int .i64 (bestL H line).cost]:=by rw [hws];rfl
 rw [hrd]
 conv=>whnf
 repeat (refine QCall.k0 (hS) ?_;conv=>whnf)
 refine sloop rfl mixed [2,6,9,11,12,13] [] (fun m r h=>∃ (i:Nat) (t:List UInt8),r=[(2,[],.iptr (encCas ⟨H,line⟩)),(6,[],.int .i64 0),(9,[],.iptr [.sl 4 none (ws.map encWrd),.int .i64 (bestL H line).cost]),(11,[],.str (Lib.join (ws.map fun w=>sndM H.lex w.form) [])),(12,[],.str t),(13,[],.int .i64 i)]∧h=[]∧m=ws.length - i∧i≤ws.length∧t=Lib.join ((ws.take i).map fun w=>sndM H.lex w.form) []) ?_ ?_
 ·conv=>whnf
  exact ⟨_,0,_,rfl,rfl,rfl,by omega,rfl⟩
 ·rintro m r h ⟨i,t,rfl,rfl,rfl,hi,ht⟩
  conv=>whnf
  skip
  refine ⟨fun hi2=>?_,fun hi2=>?_⟩<;>simp at hi2
  ·obtain ⟨w,hw⟩:=get_lt hi2
   have h9:=hfrm w (List.mem_of_getElem? hw)
   have hF:=frmOK h9
   have hfew:=hF.few
   have hsb:=sndM_bound hF
   have hrs:=SoundsW H.lex w.form hf.lex (by unfold LMAX;omega)
   rw [if_pos h9,h9] at hrs
   have hs:(ws.take (i+1)).map (fun w=>sndM H.lex w.form)=(ws.take i).map (fun w=>sndM H.lex w.form)++[sndM H.lex w.form]:=by rw [take_snoc hw,List.map_append];rfl
   have hjb:=join_bound (sep:=[]) (B:=28) (l:=(ws.take i).map fun w=>sndM H.lex w.form) fun s hs=>by
    obtain ⟨v,hv,rfl⟩:=List.mem_map.1 hs
    exact sndM_bound (frmOK (hfrm v (List.mem_of_mem_take hv)))
   rw [← ht,List.length_map,List.length_take] at hjb
   have hjb2:(28+([]:List UInt8).length)*min i ws.length≤28*60:=Nat.mul_le_mul (by decide) (by omega)
   have hll:(t++sndM H.lex w.form).length≤LMAX:=by rw [List.length_append];unfold LMAX;omega
   have hend:t++sndM H.lex w.form=Lib.join ((ws.take (i+1)).map fun w=>sndM H.lex w.form) []:=by
    rw [hs,join_snoc,ht]
    split
    ·rename_i h;rw [h,Lib.join_nil,List.nil_append]
    ·rw [List.append_nil]
   conv=>whnf
   repeat ((first|refine ix (by assumption) ?_|refine gcall (hrs) ?_|refine And.intro (by show drawOK (opsAt Tryz.f4 _) _=true;decide +kernel) ?_);conv=>whnf)
   refine cF (by simp) ?_
   conv=>whnf
   repeat ((first|refine ⟨gP_of ⟨by omega,by omega⟩,?_⟩|(refine ⟨gP_of hll,?_⟩));conv=>whnf)
   exact ⟨_,by omega,i+1,_,rfl,rfl,rfl,by omega,hend⟩
  ·rw [List.take_of_length_le hi2] at ht
   conv=>whnf
   repeat (refine gcall (worksW) ?_;conv=>whnf)
   exact congrArg AV.bool (by rw [ht];simp)
end Go.Abs.Wall.Lst
