/- What is proved: small laws for the walks of this seat, and contracts of its functions. No condition but those each theorem names. -/
import Derived.Test.YtddhcllidlclmaaGreatN19
import Derived.Test.YtddhcllidlclmaaGreatN20
import Derived.Test.YtddhcllidlclmaaGreatN16
import Derived.Test.YtddhcllidlclmaaGreatN10
import Derived.Test.YtddhcllidlclmaaGreatN17
import Derived.Test.YtddhcllidlclmaaGreatN7
import Derived.Test.YtddhcllidlclmaaGreatN8
set_option maxRecDepth 100000
set_option maxHeartbeats 2000000
set_option linter.unusedVariables false
set_option linter.unusedSimpArgs false
namespace Go.Abs.Wall.Lst
open Go Go.Abs Go.Proofs Go.Abs.Wall
def oneV (v:Val):Val:=⟨v.kind,v.text,1,1⟩
def resV (p:Int) (vs:List Val):List Val:=(vs.filter (inUse p)).map oneV
def resS (p:Int) (s:Sgn):Sgn:=⟨s.code,s.wide,s.high,s.even,resV p s.values⟩
def resL (p:Int) (l:Lst):Lst:=⟨1,l.signs.map (resS p)⟩
def resH (H:Hou):Hou:={ H with list:=resL H.period H.list,period:=1 }
theorem useGo_res (p:Int):∀ vs:List Val,useGo 1 (resV p vs)=useGo p vs
 | []=>rfl
 | v::t=>by
   have ih:=useGo_res p t
   unfold resV at ih ⊢
   rw [useGo]
   by_cases h:inUse p v=true
   ·rw [List.filter_cons_of_pos h,List.map_cons,useGo,ih,if_pos (show wthn p v.fr v.to=true from h),if_pos (show wthn 1 (oneV v).fr (oneV v).to=true from (by decide:wthn 1 1 1=true))]
    rfl
   ·rw [List.filter_cons_of_neg h,ih,if_neg (show ¬ wthn p v.fr v.to=true from h)]
    rfl
theorem sgnAt_res (H:Hou) (n:Int):sgnAt (resH H) n=resS H.period (sgnAt H n):=by
 show (H.list.signs.map (resS H.period)).getD n.toNat ⟨[],0,0,false,[]⟩=resS H.period (H.list.signs.getD n.toNat ⟨[],0,0,false,[]⟩)
 rw [List.getD_eq_getElem?_getD,List.getD_eq_getElem?_getD,List.getElem?_map]
 cases H.list.signs[n.toNat]?<;>rfl
theorem usesAt_res (H:Hou) (n:Int):usesAt (resH H) n=usesAt H n:=by
 unfold usesAt
 rw [sgnAt_res]
 unfold usesM
 show sortU (useGo 1 (resV H.period (sgnAt H n).values))=_
 rw [useGo_res]
theorem valsErr_all {l:Lst} {vs:List Val}:∀ {t:List Val} {i:Nat},vs.drop i=t→(∀ j v,i≤j→vs[j]?=some v→valErr l (vs.take j) v=0)→valsErr l vs t i=0
 | [],_,_,_=>rfl
 | a::t,i,hd,h=>by
   have ha:vs[i]?=some a:=by
    have:=congrArg (fun z=>z[0]?) hd
    simpa using this
   unfold valsErr
   rw [if_neg (by rw [h i a (Nat.le_refl _) ha];decide)]
   exact valsErr_all (by have:=congrArg List.tail hd;simpa [List.tail_drop] using this) fun j v hj hv=>h j v (by omega) hv
theorem pair_of {vs:List Val} (h:∀ (j k:Nat) v w,j<k→vs[j]?=some v→vs[k]?=some w→meetB w v=false):vs.Pairwise fun v w=>meetB w v=false:=by
 rw [List.pairwise_iff_getElem]
 intro i j hi hj hij
 exact h i j _ _ hij (List.getElem?_eq_getElem hi) (List.getElem?_eq_getElem hj)
theorem sgn_res {l:Lst} {s:Sgn} (h:sgnErr l s=0) (p:Int):sgnErr (resL p l) (resS p s)=0:=by
 unfold sgnErr at h
 split at h
 ·cases h
 rename_i h1
 split at h
 ·cases h
 rename_i h2
 have hg:=fun j v (hv:s.values[j]?=some v)=>valsErr_get (i:=0) rfl h j v (Nat.zero_le _) hv
 have hp:s.values.Pairwise fun v w=>meetB w v=false:=pair_of fun j k v w hj hv hw=>
  valErr_apart (hg k w hw) v (List.mem_of_getElem? (i:=j) (by rw [List.getElem?_take,if_pos hj,hv]))
 have hl:(resV p s.values).length≤s.values.length:=by unfold resV;rw [List.length_map];exact List.length_filter_le _ _
 have hq:(resV p s.values).Pairwise fun v w=>meetB w v=false:=by
  unfold resV
  rw [List.pairwise_map]
  have hf:(s.values.filter (inUse p)).Pairwise fun v w=>meetB w v=false:=hp.filter _
  rw [List.pairwise_iff_forall_sublist] at hf ⊢
  intro a b hs
  have ha:=(List.mem_filter.1 (hs.subset (List.mem_cons_self ..))).2
  have hb:=(List.mem_filter.1 (hs.subset (List.mem_cons_of_mem _ (List.mem_cons_self ..)))).2
  have hm:=hf hs
  unfold inUse at ha hb
  rw [wthn_iff] at ha hb
  unfold meetB at hm ⊢
  have e1:decide (b.fr≤a.to)=true:=decide_eq_true (by omega)
  have e2:decide (a.fr≤b.to)=true:=decide_eq_true (by omega)
  rw [e1,e2,Bool.and_true,Bool.and_true] at hm
  show (((decide (b.kind=a.kind)&&(decide (b.text=a.text)&&true))&&decide ((1:Int)≤1))&&decide ((1:Int)≤1))=false
  rw [hm]
  rfl
 unfold sgnErr
 rw [if_neg (show ¬ ((resS p s).wide<1∨12<(resS p s).wide∨(resS p s).high<1∨12<(resS p s).high) from h1),if_neg (by show ¬ 12<(resV p s.values).length;omega)]
 refine valsErr_all (i:=0) rfl fun j v _ hv=>?_
 have hvm:v∈resV p s.values:=List.mem_of_getElem? hv
 unfold resV at hvm
 obtain ⟨w,hw,rfl⟩:=List.mem_map.1 hvm
 obtain ⟨k,hk⟩:=List.mem_iff_getElem?.1 (List.mem_filter.1 hw).1
 have hwk:=hg k w hk
 unfold valErr at hwk ⊢
 split at hwk
 ·cases hwk
 rename_i h3
 rw [if_neg (show ¬ ((oneV w).kind<1∨3<(oneV w).kind∨textOK (oneV w).kind (oneV w).text=false) from h3),if_neg (by show ¬ ((1:Int)<1∨(1:Int)<1∨(1:Int)<1);omega),if_neg]
 rw [Bool.not_eq_true,List.any_eq_false]
 intro x hx
 obtain ⟨i,hi⟩:=List.mem_iff_getElem?.1 hx
 have hij:i<j:=by
  have:=(List.getElem?_eq_some_iff.1 hi).1
  rw [List.length_take] at this
  omega
 rw [List.getElem?_take_of_lt hij] at hi
 rw [List.pairwise_iff_getElem] at hq
 have hi:(resV p s.values)[i]?=some x:=hi
 have hv:(resV p s.values)[j]?=some (oneV w):=hv
 obtain ⟨a1,e1⟩:=List.getElem?_eq_some_iff.1 hi
 obtain ⟨a2,e2⟩:=List.getElem?_eq_some_iff.1 hv
 have:=hq i j a1 a2 hij
 rw [e1,e2] at this
 rw [this]
 decide
theorem lst_res {l:Lst} (h:lstErr l=0) (p:Int):lstErr (resL p l)=0:=by
 unfold lstErr at h ⊢
 split at h
 ·cases h
 rename_i h1
 split at h
 ·cases h
 rw [if_neg (by show ¬ 200<(l.signs.map (resS p)).length;rw [List.length_map];exact h1),if_neg (by show ¬ ((1:Int)<1∨9<(1:Int));omega)]
 have hgo:∀ (t:List Sgn) (seen:List (List UInt8)),lstGo l t seen=0→lstGo (resL p l) (t.map (resS p)) seen=0:=by
  intro t
  induction t with
  | nil=>intro seen _;rfl
  | cons s t ih=>
    intro seen hs
    unfold lstGo at hs
    split at hs
    ·cases hs
    rename_i h2
    split at hs
    ·rename_i h3;exact absurd hs h3
    rename_i h3
    rw [List.map_cons]
    unfold lstGo
    rw [if_neg (show ¬ (codeOK (resS p s).code=false∨(resS p s).code∈seen) from h2),if_neg (by rw [sgn_res (by simpa using h3)];decide)]
    exact ih _ hs
 exact hgo _ _ h
theorem hou_res {H:Hou} (h:lstErr H.list=0) (hp:1≤H.period∧H.period≤H.list.periods):houErr (resH H)=houErr H:=by
 have h1:lstErr (resH H).list=0:=lst_res h _
 unfold houErr
 rw [h1,h,wthn_iff.2 hp,show wthn (resH H).period 1 (resH H).list.periods=true from (by decide:wthn 1 1 1=true)]
 rfl
theorem spGo_res (H:Hou) (f:Frm) (cl:List Int):∀ (line:List Int) (us:List Use) (st:List Prg),spGo (resH H) (spOf (resH H) f) cl line us st=spGo H (spOf H f) cl line us st
 | [],[],st=>rfl
 | [],_::_,st=>rfl
 | _::_,[],st=>rfl
 | n::t,u::us,st=>by
   unfold spGo
   rw [usesAt_res,spGo_res H f cl t us]
   rfl
theorem spells_res (H:Hou) (line:List Int) (w:Wrd):spellsM (resH H) line w=spellsM H line w:=by
 unfold spellsM
 rw [spGo_res]
theorem line_res {H:Hou} (h:lstErr H.list=0) (hp:1≤H.period∧H.period≤H.list.periods) (line:List Int):lineErr (resH H) line=lineErr H line:=by
 unfold lineErr
 rw [hou_res h hp]
 have:(resH H).list.signs.length=H.list.signs.length:=by show (H.list.signs.map _).length=_;rw [List.length_map]
 rw [this]
theorem up_eq {α:Type} {r:α→α→Prop} (hi:∀ a,¬ r a a) (ht:∀ a b c,r a b→r b c→r a c):∀ {l m:List α},l.Pairwise r→m.Pairwise r→(∀ x,x∈l↔x∈m)→l=m
 | [],[],_,_,_=>rfl
 | [],b::m,_,_,h=>by have:=(h b).2 (List.mem_cons_self ..);cases this
 | a::l,[],_,_,h=>by have:=(h a).1 (List.mem_cons_self ..);cases this
 | a::l,b::m,hl,hm,h=>by
   rw [List.pairwise_cons] at hl hm
   have hab:a=b:=by
    rcases List.mem_cons.1 ((h a).1 (List.mem_cons_self ..)) with e|h1
    ·exact e
    rcases List.mem_cons.1 ((h b).2 (List.mem_cons_self ..)) with e|h2
    ·exact e.symm
    exact absurd (ht _ _ _ (hl.1 b h2) (hm.1 a h1)) (hi a)
   subst hab
   rw [up_eq hi ht hl.2 hm.2 fun x=>?_]
   constructor
   ·intro hx
    rcases List.mem_cons.1 ((h x).1 (List.mem_cons_of_mem _ hx)) with e|h1
    ·subst e;exact absurd (hl.1 _ hx) (hi _)
    ·exact h1
   ·intro hx
    rcases List.mem_cons.1 ((h x).2 (List.mem_cons_of_mem _ hx)) with e|h1
    ·subst e;exact absurd (hm.1 _ hx) (hi _)
    ·exact h1
theorem edgs_res {H:Hou} {line:List Int} (h0:lineErr H line=0) {i:Nat} (hi:i≤line.length):edgsAt (resH H) line i=edgsAt H line i:=by
 have hL:=lineOK h0
 have hle:=line_lex h0
 have h1:lineErr (resH H) line=0:=(line_res hL.hou.lst hL.hou.period line).trans h0
 have hL2:=lineOK h1
 have hm:∀ x:Edg,x∈edgsAt (resH H) line i↔x∈edgsAt H line i:=by
  intro x
  rw [edgsAt_iff hL2 hle hi,edgsAt_iff hL hle hi,spells_res]
  exact Iff.rfl
 have hu:=edgsAt_up hL2 i
 have hv:=edgsAt_up hL i
 generalize edgsAt (resH H) line i=l at *
 generalize edgsAt H line i=m at *
 exact up_eq (α:=Edg) (r:=fun x y=>wrdCmp x.word y.word<0) (fun a=>zW.c.irr a.word) (fun a b c=>zW.c.tr a.word b.word c.word) hu hv hm
theorem graph_res {H:Hou} {line:List Int} (h0:lineErr H line=0):graphM (resH H) line=graphM H line:=by
 unfold graphM
 refine List.map_congr_left fun i hi=>?_
 have:=List.mem_range.1 hi
 exact edgs_res h0 (by omega)
theorem list_res {H:Hou} (h:lstErr H.list=0) (hp:1≤H.period∧H.period≤H.list.periods) (line:List Int) (most:Int):listErr (resH H) line most=listErr H line most∧listL (resH H) line most=listL H line most:=by
 by_cases h0:lineErr H line=0
 ·have hg:=graph_res h0
  have hge:growErr (resH H) line=growErr H line:=by
   unfold growErr
   rw [line_res h hp,hg]
  have hle:listErr (resH H) line most=listErr H line most:=by
   unfold listErr
   rw [hge,hg]
  refine ⟨hle,?_⟩
  unfold listL
  rw [hle,hg]
 ·have hge:growErr (resH H) line=growErr H line:=by
   unfold growErr
   rw [line_res h hp,if_pos h0,if_pos h0]
  have hne:growErr H line≠0:=by unfold growErr;rw [if_pos h0];exact h0
  have hle:listErr (resH H) line most=listErr H line most:=by
   unfold listErr
   rw [hge,if_pos hne,if_pos hne]
  refine ⟨hle,?_⟩
  have hnz:listErr H line most≠0:=by unfold listErr;rw [if_pos hne];exact hne
  unfold listL
  rw [hle,if_neg hnz,if_neg hnz]
end Go.Abs.Wall.Lst
namespace Go.Abs.Wall.Lst
open Go Go.Abs Go.Proofs Go.Abs.Wall
def c44:Cfg:=⟨[0,1,2,3,4,5,10,20,37,50],[],[],[],[(8,[0,1,2,3,4,5,6,7,8,9,10],[]),(9,[0,1,2,3,4,5,6,7,8,9,10,11],[])],[]⟩
def c45:Cfg:=⟨[0,1,4,5,10,14,25],[],[],[],[(6,[0,1,2,3,4,5,6,7,8],[])],[]⟩
def c16:Cfg:=⟨[0,1,4,5,10,14,42],[],[],[],[(6,[0,1,2,3,4,5,6,7,8,9,10,11,12,13,14,15,16,17,18,19,20,21,22,23,24,25],[])],[]⟩
def c34:Cfg:=⟨[0,1,2],[],[],[],[],[]⟩
def c11:Cfg:=⟨[0,1,2],[],[],[],[],[]⟩
def c36:Cfg:=⟨[0,1,2,3,4,5,13],[21],[2],[],[],[]⟩
def c37:Cfg:=⟨[0,1,2],[3,7,11],[2],[],[],[]⟩
def c13:Cfg:=⟨[0,1,2],[1],[2],[],[],[]⟩
def c39:Cfg:=⟨[0,1,2,4,12],[],[],[],[],[]⟩
def c40:Cfg:=⟨[0,1,2,4],[],[],[],[],[]⟩
def c14:Cfg:=⟨[0,1,2,4,5,6,7,8,10,11,13,17,24,29,30,31,32,36,37,38,39,44],[],[],[],[],[]⟩
theorem topForms (f:Frm) (hf:f.clitics.length≤1048576):QCall Tryz.prog 44 [.agg (encFrm f),.agg (encFrm f)] [] (.int .i64 0):=by
 refine fcalls (F:=Tryz.f44) c44 rfl rfl rfl mixed rfl fun X=>?_
 conv=>whnf
 skip
 refine cF (by simp) ?_
 conv=>whnf
 skip
 refine cF (by simp) ?_
 conv=>whnf
 skip
 refine sloop rfl mixed [2,3,5] [] (fun m r h=>∃ (i:Nat),r=[(2,[],.iptr (encFrm f)),(3,[],.iptr (encFrm f)),(5,[],.int .i64 i)]∧h=[]∧m=f.clitics.length - i∧i≤f.clitics.length) ?_ ?_
 ·conv=>whnf
  exact ⟨_,0,rfl,rfl,rfl,by omega⟩
 ·rintro m r h ⟨i,rfl,rfl,rfl,hi⟩
  conv=>whnf
  skip
  refine ⟨fun hc=>?_,fun hc=>?_⟩
  ·have hc:(decide ((i:Int)<((ints f.clitics).length:Int))&&decide ((i:Int)<((ints f.clitics).length:Int)))=true:=hc
   simp [ints_length] at hc
   obtain ⟨x,hx⟩:=get_lt hc
   conv=>whnf
   repeat ((first|refine ix (by assumption) ?_|refine And.intro (by show drawOK (opsAt Tryz.f44 _) _=true;decide +kernel) ?_);conv=>whnf)
   refine cF (by simp) ?_
   conv=>whnf
   repeat (refine ⟨gP_of ⟨by omega,by omega⟩,?_⟩;conv=>whnf)
   exact ⟨_,by omega,i+1,rfl,rfl,rfl,by omega⟩
  ·conv=>whnf
   repeat (refine ⟨gP_of ⟨by omega,by omega⟩,?_⟩;conv=>whnf)
   exact ⟨by simp,rfl⟩
theorem topUses (l:List Use) (hl:l.length≤1048576):QCall Tryz.prog 45 [.sl 2 none (l.map encUse),.sl 2 none (l.map encUse)] [] (.bool true):=by
 refine fcalls (F:=Tryz.f45) c45 rfl rfl rfl mixed rfl fun X=>?_
 conv=>whnf
 skip
 refine cF (by simp) ?_
 conv=>whnf
 skip
 refine sloop rfl mixed [0,1,5] [] (fun m r h=>∃ (i:Nat),r=[(0,[],.sl 2 none (l.map encUse)),(1,[],.sl 2 none (l.map encUse)),(5,[],.int .i64 i)]∧h=[]∧m=l.length - i∧i≤l.length) ?_ ?_
 ·conv=>whnf
  exact ⟨_,0,rfl,rfl,rfl,by omega⟩
 ·rintro m r h ⟨i,rfl,rfl,rfl,hi⟩
  conv=>whnf
  refine ⟨fun hc=>?_,fun hc=>?_⟩<;>simp at hc
  ·obtain ⟨x,hx⟩:=get_lt hc
   conv=>whnf
   repeat ((first|refine ix (by assumption) ?_|(refine ⟨plainUse,?_⟩)|refine And.intro (by show drawOK (opsAt Tryz.f45 _) _=true;decide +kernel) ?_);conv=>whnf)
   refine cF (by show (!useEq x x)=false;rw [useEq_iff];simp) ?_
   conv=>whnf
   repeat (refine ⟨gP_of ⟨by omega,by omega⟩,?_⟩;conv=>whnf)
   exact ⟨_,by omega,i+1,rfl,rfl,rfl,by omega⟩
  ·conv=>whnf
   exact ⟨rfl,rfl⟩
theorem topWords (l:List Wrd) (hl:l.length≤1048576) (hf:∀ w∈l,Wall.WrdFit w):QCall Tryz.prog 16 [.sl 4 none (l.map encWrd),.sl 4 none (l.map encWrd)] [] (.bool true):=by
 refine fcalls (F:=Tryz.f16) c16 rfl rfl rfl mixed rfl fun X=>?_
 conv=>whnf
 skip
 refine cF (by simp) ?_
 conv=>whnf
 skip
 refine sloop rfl mixed [0,1,5] [] (fun m r h=>∃ (i:Nat),r=[(0,[],.sl 4 none (l.map encWrd)),(1,[],.sl 4 none (l.map encWrd)),(5,[],.int .i64 i)]∧h=[]∧m=l.length - i∧i≤l.length) ?_ ?_
 ·conv=>whnf
  exact ⟨_,0,rfl,rfl,rfl,by omega⟩
 ·rintro m r h ⟨i,rfl,rfl,rfl,hi⟩
  conv=>whnf
  refine ⟨fun hc=>?_,fun hc=>?_⟩<;>simp at hc
  ·obtain ⟨x,hx⟩:=get_lt hc
   have hxf:=hf x (List.mem_of_getElem? hx)
   conv=>whnf
   repeat ((first|refine ix (by assumption) ?_|refine gcall (topForms x.form hxf.cl) ?_|refine gcall (topUses x.uses (by have:=hxf.us;omega)) ?_|refine And.intro (by show drawOK (opsAt Tryz.f16 _) _=true;decide +kernel) ?_);conv=>whnf)
   refine cF (by simp) ?_
   conv=>whnf
   repeat (refine ⟨gP_of ⟨by omega,by omega⟩,?_⟩;conv=>whnf)
   exact ⟨_,by omega,i+1,rfl,rfl,rfl,by omega⟩
  ·conv=>whnf
   exact ⟨rfl,rfl⟩
theorem topSmall (l:Lst) (hl:LstFit l):QCall Tryz.prog 34 [.agg (encLst l)] [] (.bool (decide ((l.signs.length:Int)≤12)&&decide (lstErr l=0))):=by
 refine fcalls (F:=Tryz.f34) c34 rfl rfl rfl mixed rfl fun X=>?_
 conv=>whnf
 repeat (refine gcall (refCheck l hl) ?_;conv=>whnf)
 refine ⟨congrArg AV.bool ?_,rfl⟩
 rw [List.length_map]
def homeM (H:Hou):Bool:=((((decide ((H.list.signs.length:Int)≤12)&&decide (lstErr H.list=0))&&decide ((H.lex.entries.length:Int)≤12))&&decide ((H.lex.endings.length:Int)≤4))&&decide ((H.lex.clitics.length:Int)≤4))&&decide (lexErr H.lex=0)
theorem topHomely (H:Hou) (hf:HouFit H):QCall Tryz.prog 11 [.agg (encHou H)] [] (.bool (homeM H)):=by
 refine fcalls (F:=Tryz.f11) c11 rfl rfl rfl mixed rfl fun X=>?_
 conv=>whnf
 repeat ((first|refine QCall.k0 (topSmall H.list hf.list) ?_|refine gcall (refLex H.lex hf.lex) ?_);conv=>whnf)
 refine ⟨congrArg AV.bool ?_,rfl⟩
 unfold homeM
 rw [List.length_map,List.length_map,List.length_map]
theorem topCopyL (l:Lst) (h0:lstErr l=0):QCall Tryz.prog 36 [.agg (encLst l)] [] (.agg (encLst l)):=by
 have hmany:=(lstOK h0).many
 refine QCall.of ?_
 refine fcalls (F:=Tryz.f36) c36 rfl rfl rfl mixed rfl fun X=>?_
 conv=>whnf
 intro b2
 conv=>whnf
 repeat ((first|refine ⟨_,_,.here _,leOK,?_⟩|intro (nb:Nat));conv=>whnf)
 refine tloop rfl mixed [1,2,3,4] [] (fun m r h=>∃ (i:Nat) (mb:Nat) (v:AV) (hp:Heap),r=[(1,[],.iptr (encLst l)),(2,[],.optr b2 0),(3,[],.optr mb 0),(4,[],.int .i64 i)]∧h=(mb,.vec [.int .i64 l.periods,v])::(b2,.vec [.int .i64 0,.nilS])::hp∧m=l.signs.length - i∧i≤l.signs.length∧Out 5 encSgn (l.signs.take i) v hp) ?_ ?_
 ·conv=>whnf
  exact ⟨_,_,Turn.refl _ _,_,0,nb,.nilS,[],rfl,rfl,rfl,by omega,.inl ⟨rfl,rfl,rfl⟩⟩
 ·rintro m r h' ⟨i,mb,v,hp,rfl,rfl,rfl,hi,ho⟩
  conv=>whnf
  skip
  refine ⟨fun hz=>?_,fun hz=>?_⟩<;>simp at hz
  ·obtain ⟨s,hs⟩:=get_lt hz
   have hsf:=(lstOK h0).each s (List.mem_of_getElem? hs)
   have hfew:=hsf.few
   have hsn:l.signs.take (i+1)=l.signs.take i++[s]:=take_snoc hs
   have hse:∀ q2:Nat,VsLe [.str s.code,.int .i64 s.wide,.int .i64 s.high,.bool s.even,.sl 4 (some q2) (s.values.map encVal)] (encSgn s):=fun q2=>.cons (VLe.refl _) (.cons (VLe.refl _) (.cons (VLe.refl _) (.cons (VLe.refl _) (.cons VLe.sl .nil))))
   rcases ho with ⟨hLn,rfl,rfl⟩|⟨q,rfl,rfl⟩
   ·conv=>whnf
    repeat ((first|refine ⟨gP_of ⟨by omega,by omega⟩,?_⟩|refine ix (by assumption) ?_|(refine ⟨by rw [List.nil_append,List.length_map];unfold AMAX;omega,fun q2=>⟨_,.here _,?_⟩⟩)|(refine ⟨Nat.le_of_ble_eq_true rfl,fun q3=>?_⟩)|(refine ⟨_,_,.tail _ (.tail _ (.head _)),rfl,?_⟩)|(refine ⟨_,_,.tail _ (.head _),rfl,?_⟩)|(refine ⟨_,_,.there (.here _),leOK,?_⟩)|(refine ⟨_,_,.there (.there (.there (.here _))),leOK,?_⟩)|refine ⟨_,_,.here _,leOK,?_⟩|intro (nb:Nat));conv=>whnf)
    refine ⟨_,_,Turn.trans (Turn.cells (ys:=[.int .i64 l.periods,.sl 5 (some q3) [encSgn s]]) (.there (.there (.there (.here _)))) (.cons (VLe.refl _) (.cons (VLe.els (.cons (hse q2) .nil)) .nil))) (Turn.trans (Turn.sublist (.cons_cons _ (.cons _ (.cons _ (.cons_cons _ (.cons_cons _ .slnil)))))) (Turn.perm (List.perm_append_comm (l₁:=[_]) (l₂:=[_,_])))),_,(by omega),i+1,mb,_,[(q3,.tok)],rfl,rfl,rfl,by omega,.inr ⟨q3,by rw [hsn,hLn];rfl,rfl⟩⟩
   ·conv=>whnf
    repeat ((first|refine ⟨gP_of ⟨by omega,by omega⟩,?_⟩|refine ix (by assumption) ?_|(refine ⟨by rw [List.nil_append,List.length_map];unfold AMAX;omega,fun q2=>⟨_,.here _,?_⟩⟩)|(refine ⟨by rw [List.length_append,List.length_singleton,List.length_map,List.length_take];unfold AMAX;omega,fun q3=>⟨_,.there (.there (.there (.there (.here _)))),?_⟩⟩)|(refine ⟨_,_,.tail _ (.tail _ (.head _)),rfl,?_⟩)|(refine ⟨_,_,.tail _ (.head _),rfl,?_⟩)|(refine ⟨_,_,.there (.there (.here _)),leOK,?_⟩)|(refine ⟨_,_,.there (.here _),leOK,?_⟩)|refine ⟨_,_,.here _,leOK,?_⟩|intro (nb:Nat));conv=>whnf)
    refine ⟨_,_,Turn.trans (Turn.cells (ys:=[.int .i64 l.periods,.sl 5 (some q3) ((l.signs.take i).map encSgn++[encSgn s])]) (.there (.there (.here _))) (.cons (VLe.refl _) (.cons (VLe.els (VssLe.snoc (hse q2))) .nil))) (Turn.sublist (.cons _ (.cons _ (.cons_cons _ (.cons_cons _ (.cons_cons _ .slnil)))))),_,(by omega),i+1,mb,_,[(q3,.tok)],rfl,rfl,rfl,by omega,.inr ⟨q3,by rw [hsn,List.map_append];rfl,rfl⟩⟩
  ·rw [List.take_of_length_le (by omega)] at ho
   conv=>whnf
   repeat ((first|(refine ⟨_,_,.head _,rfl,?_⟩)|(refine ⟨_,_,.there (.here _),⟨Nat.le_of_ble_eq_true rfl,rfl⟩,?_⟩));conv=>whnf)
   exact VLe.agg (.cons (VLe.refl _) (.cons (ho.le (by decide)) .nil))
theorem topCopyX (x:Lex) (h0:lexErr x=0):QCall Tryz.prog 37 [.agg (encLex x)] [] (.agg (encLex x)):=by
 refine QCall.of ?_
 refine fcalls (F:=Tryz.f37) c37 rfl rfl rfl mixed rfl fun X=>?_
 conv=>whnf
 have hl1:=(lexOK h0).many
 intro b2
 conv=>whnf
 refine make_region rfl mixed [1,2,5,6,9,10] [0,4,8] [3,7,11,12,13] [] (by show drawOK (opsAt Tryz.f37 _) _=true;decide +kernel) ?_
 conv=>whnf
 skip
 have hb1:(x.entries.map encEnt).length≤AMAX:=by rw [List.length_map];unfold AMAX;omega
 have hb2:(x.endings.map encEdn).length≤AMAX:=by rw [List.length_map];unfold AMAX;omega
 have hb3:(x.clitics.map encCli).length≤AMAX:=by rw [List.length_map];unfold AMAX;omega
 iterate 6
  all_goals
   first
    | (refine ⟨by first|exact hb1|exact hb2|exact hb3,fun q=>⟨_,.here _,?_⟩⟩;conv=>whnf)
    | (refine ⟨by first|exact hb1|exact hb2|exact hb3,fun q=>⟨_,.there (.here _),?_⟩⟩;conv=>whnf)
    | (refine ⟨by first|exact hb1|exact hb2|exact hb3,fun q=>⟨_,.there (.there (.here _)),?_⟩⟩;conv=>whnf)
    | (refine ⟨by first|exact hb1|exact hb2|exact hb3,fun q=>⟨_,.there (.there (.there (.here _))),?_⟩⟩;conv=>whnf)
    | ((first
        | refine ⟨by decide +kernel,?_,?_,?_,trivial⟩
        | refine ⟨by decide +kernel,?_,?_,trivial⟩
        | refine ⟨by decide +kernel,?_,trivial⟩)<;>((conv=>whnf);refine ⟨by first|decide +kernel|rfl,?_⟩;(conv=>whnf);first
        | (intro (q:Nat);conv=>whnf)
        | (refine ⟨by first|exact hb1|exact hb2|exact hb3,fun q=>⟨_,.here _,?_⟩⟩;conv=>whnf)
        | (refine ⟨by first|exact hb1|exact hb2|exact hb3,fun q=>⟨_,.there (.here _),?_⟩⟩;conv=>whnf)
        | (refine ⟨by first|exact hb1|exact hb2|exact hb3,fun q=>⟨_,.there (.there (.here _)),?_⟩⟩;conv=>whnf)
        | (refine ⟨by first|exact hb1|exact hb2|exact hb3,fun q=>⟨_,.there (.there (.there (.here _))),?_⟩⟩;conv=>whnf)))
 all_goals
  refine ⟨_,_,.there (.there (.there (.here _))),⟨Nat.le_of_ble_eq_true rfl,Nat.le_of_ble_eq_true rfl⟩,?_⟩
  refine ⟨_,_,Turn.refl _ _,?_⟩
  conv=>whnf
  repeat ((refine ⟨_,_,.tail _ (.tail _ (.tail _ (.head _))),rfl,?_⟩);conv=>whnf)
  exact VLe.agg (.cons VLe.sl (.cons VLe.sl (.cons VLe.sl .nil)))
theorem topCopied (H:Hou) (h1:lstErr H.list=0) (h2:lexErr H.lex=0):QCall Tryz.prog 13 [.agg (encHou H)] [] (.agg (encHou H)):=by
 refine QCall.of ?_
 refine fcalls (F:=Tryz.f13) c13 rfl rfl rfl mixed rfl fun X=>?_
 conv=>whnf
 intro b1
 conv=>whnf
 repeat ((first|refine QCall.k0 (topCopyL H.list h1) ?_|refine QCall.k0 (topCopyX H.lex h2) ?_|refine ⟨_,_,Rem.here _,⟨Nat.le_of_ble_eq_true rfl,rfl⟩,?_⟩|refine ⟨_,_,.tail _ (.head _),rfl,?_⟩|refine ⟨_,_,.there (.here _),leOK,?_⟩|intro (nb:Nat));conv=>whnf)
 exact fun c u hr=>hr
theorem topPer (l:Lst) (p:Int):QCall Tryz.prog 39 [.agg (encLst l),.int .i64 p] [] (.int .i64 (if wthn p 1 l.periods=true then 0 else 13)):=by
 refine fcalls (F:=Tryz.f39) c39 rfl rfl rfl mixed rfl fun X=>?_
 conv=>whnf
 skip
 have hw:wthn p 1 l.periods=true↔¬ (p<1∨l.periods<p):=by rw [wthn_iff];omega
 refine ⟨fun hc=>?_,fun hc=>?_⟩
 ·have hc:(decide (p<1)||decide (l.periods<p))=true:=hc
  rw [Bool.or_eq_true,decide_eq_true_eq,decide_eq_true_eq] at hc
  conv=>whnf
  exact ⟨by rw [if_neg (fun h=>hw.1 h hc)],rfl⟩
 ·have hc:(decide (p<1)||decide (l.periods<p))=false:=hc
  rw [Bool.or_eq_false_iff,decide_eq_false_iff_not,decide_eq_false_iff_not] at hc
  conv=>whnf
  exact ⟨by rw [if_pos (hw.2 (by omega))],rfl⟩
theorem topInUse (v:Val) (p:Int):QCall Tryz.prog 40 [.agg (encVal v),.int .i64 p] [] (.bool (inUse p v)):=by
 refine fcalls (F:=Tryz.f40) c40 rfl rfl rfl mixed rfl fun X=>?_
 conv=>whnf
 skip
 refine ⟨congrArg AV.bool ?_,rfl⟩
 unfold inUse
 rw [Bool.eq_iff_iff,Bool.and_eq_true,decide_eq_true_eq,decide_eq_true_eq,wthn_iff]
def restE (l:Lst) (p:Int):Int:=if wthn p 1 l.periods=true then 0 else 13
def restL (l:Lst) (p:Int):Lst:=if restE l p=0 then resL p l else ⟨0,[]⟩
theorem topRestrict (l:Lst) (p:Int) (hl:LstFit l) (h0:lstErr l=0):QCall Tryz.prog 14 [.agg (encLst l),.int .i64 p] [] (.tup [.agg (encLst (restL l p)),.int .i64 (restE l p)]):=by
 have hmany:=(lstOK h0).many
 refine QCall.of ?_
 refine fcalls (F:=Tryz.f14) c14 rfl rfl rfl mixed rfl fun X=>?_
 conv=>whnf
 intro b2
 conv=>whnf
 repeat (refine QCall.k0 (signsCheck l hl) ?_;conv=>whnf)
 refine cF (by rw [h0];rfl) ?_
 conv=>whnf
 repeat (refine QCall.k0 (topPer l p) ?_;conv=>whnf)
 refine ⟨fun hz=>?_,fun hz=>?_⟩
 ·have hw:¬ wthn p 1 l.periods=true:=fun h=>by rw [if_pos h] at hz;cases hz
  have hE:restE l p=13:=if_neg hw
  have hL:restL l p=⟨0,[]⟩:=if_neg (by rw [hE];decide)
  rw [if_neg hw,hE,hL]
  conv=>whnf
  repeat ((first|refine ⟨_,_,.head _,rfl,?_⟩|refine ⟨_,_,.here _,leOK,?_⟩);conv=>whnf)
  exact VLe.tup (.cons (VLe.agg (.cons (VLe.refl _) (.cons (VLe.nil (by decide)) .nil))) (.cons (VLe.refl _) .nil))
 ·have hw:wthn p 1 l.periods=true:=by
   cases h:wthn p 1 l.periods
   ·rw [h] at hz;cases hz
   ·rfl
  have hE:restE l p=0:=if_pos hw
  have hL:restL l p=resL p l:=if_pos hE
  rw [if_pos hw,hE,hL]
  conv=>whnf
  repeat ((first|refine ⟨_,_,.here _,leOK,?_⟩|intro (nb:Nat));conv=>whnf)
  refine tloop rfl mixed [1,4,8,29,30,31] [] (fun m r h=>∃ (i:Nat) (mb:Nat) (v:AV) (hp:Heap),r=[(1,[],.int .i64 p),(4,[],.optr b2 0),(8,[],.optr mb 0),(29,[],.sl 5 none (l.signs.map encSgn)),(30,[],.int .i64 (l.signs.map encSgn).length),(31,[],.int .i64 i)]∧h=(mb,.vec [.int .i64 1,v])::(b2,.vec [.int .i64 0,.nilS])::hp∧m=l.signs.length - i∧i≤l.signs.length∧Out 5 encSgn ((l.signs.take i).map (resS p)) v hp) ?_ ?_
  ·conv=>whnf
   exact ⟨_,_,Turn.refl _ _,_,0,nb,.nilS,[],rfl,rfl,rfl,by omega,.inl ⟨rfl,rfl,rfl⟩⟩
  ·rintro m r h' ⟨i,mb,v,hp,rfl,rfl,rfl,hi,ho⟩
   conv=>whnf
   refine ⟨fun hz2=>?_,fun hz2=>?_⟩<;>simp at hz2
   ·obtain ⟨s,hs⟩:=get_lt hz2
    have hsf:=(lstOK h0).each s (List.mem_of_getElem? hs)
    have hfew:=hsf.few
    have hsn:(l.signs.take (i+1)).map (resS p)=(l.signs.take i).map (resS p)++[resS p s]:=by rw [take_snoc hs,List.map_append];rfl
    conv=>whnf
    repeat ((first|refine ix (by assumption) ?_|refine ⟨_,_,.head _,rfl,?_⟩|refine ⟨_,_,.here _,leOK,?_⟩|intro (nb:Nat));conv=>whnf)
    refine tloop rfl mixed [1,4,8,10,11,29,30,31,36,37,38] [] (fun m r h=>∃ (j:Nat) (ms:Nat) (v2:AV) (hp2:Heap),r=[(1,[],.int .i64 p),(4,[],.optr b2 0),(8,[],.optr mb 0),(10,[],.optr ms 0),(11,[],v2),(29,[],.sl 5 none (l.signs.map encSgn)),(30,[],.int .i64 (l.signs.map encSgn).length),(31,[],.int .i64 i),(36,[],.sl 4 none (s.values.map encVal)),(37,[],.int .i64 (s.values.map encVal).length),(38,[],.int .i64 j)]∧h=hp2++((ms,.vec (encSgn s))::(mb,.vec [.int .i64 1,v])::(b2,.vec [.int .i64 0,.nilS])::hp)∧m=s.values.length - j∧j≤s.values.length∧Out 4 encVal (resV p (s.values.take j)) v2 hp2) ?_ ?_
    ·conv=>whnf
     exact ⟨_,_,Turn.refl _ _,_,0,nb,.nilS,[],rfl,rfl,rfl,by omega,.inl ⟨rfl,rfl,rfl⟩⟩
    ·rintro m r h' ⟨j,ms,v2,hp2,rfl,rfl,rfl,hj,ho2⟩
     conv=>whnf
     refine ⟨fun hz3=>?_,fun hz3=>?_⟩<;>simp at hz3
     ·obtain ⟨x,hx⟩:=get_lt hz3
      have hsn2:s.values.take (j+1)=s.values.take j++[x]:=take_snoc hx
      have hst:resV p (s.values.take (j+1))=if inUse p x then resV p (s.values.take j)++[oneV x] else resV p (s.values.take j):=by
       unfold resV
       rw [hsn2,List.filter_append]
       by_cases h:inUse p x=true
       ·rw [if_pos h,List.filter_cons_of_pos h,List.map_append];rfl
       ·rw [if_neg h,List.filter_cons_of_neg h,List.map_append];simp
      have hlen:(resV p (s.values.take j)).length≤12:=by unfold resV;rw [List.length_map];refine Nat.le_trans (List.length_filter_le _ _) ?_;rw [List.length_take];omega
      rcases ho2 with ⟨he,rfl,rfl⟩|⟨q,rfl,rfl⟩
      ·conv=>whnf
       repeat ((first|refine ix (by assumption) ?_|refine QCall.k0 (topInUse x p) ?_|refine ⟨_,_,.head _,rfl,?_⟩|refine ⟨_,_,.here _,leOK,?_⟩|intro (nb:Nat));conv=>whnf)
       refine ⟨fun hu=>?_,fun hu=>?_⟩
       ·rw [if_pos hu] at hst
        conv=>whnf
        repeat ((first|refine ⟨gP_of ⟨by omega,by omega⟩,?_⟩|(refine ⟨_,_,.here _,⟨Nat.le_of_ble_eq_true rfl,Nat.le_of_ble_eq_true rfl⟩,?_⟩)|(refine ⟨Nat.le_of_ble_eq_true rfl,fun q3=>?_⟩)|refine ⟨_,_,.head _,rfl,?_⟩);conv=>whnf)
        refine ⟨_,_,Turn.sublist (.cons_cons _ (.cons _ (List.Sublist.refl _))),_,(by omega),j+1,ms,_,[(q3,.tok)],rfl,rfl,rfl,by omega,.inr ⟨q3,by rw [hst,he];rfl,rfl⟩⟩
       ·rw [if_neg (by rw [hu];decide)] at hst
        conv=>whnf
        repeat (refine ⟨gP_of ⟨by omega,by omega⟩,?_⟩;conv=>whnf)
        refine ⟨_,_,Turn.sublist (.cons _ (List.Sublist.refl _)),_,(by omega),j+1,ms,_,[],rfl,rfl,rfl,by omega,.inl ⟨hst.trans he,rfl,rfl⟩⟩
      ·conv=>whnf
       repeat ((first|refine ix (by assumption) ?_|refine QCall.k0 (topInUse x p) ?_|refine ⟨_,_,.head _,rfl,?_⟩|refine ⟨_,_,.here _,leOK,?_⟩|intro (nb:Nat));conv=>whnf)
       refine ⟨fun hu=>?_,fun hu=>?_⟩
       ·rw [if_pos hu] at hst
        conv=>whnf
        repeat ((first|refine ⟨gP_of ⟨by omega,by omega⟩,?_⟩|(refine ⟨_,_,.here _,⟨Nat.le_of_ble_eq_true rfl,Nat.le_of_ble_eq_true rfl⟩,?_⟩)|(refine ⟨by rw [List.length_append,List.length_singleton,List.length_map];unfold AMAX;omega,fun q3=>⟨_,.there (.here _),?_⟩⟩)|refine ⟨_,_,.head _,rfl,?_⟩);conv=>whnf)
        refine ⟨_,_,Turn.sublist (.cons _ (List.Sublist.refl _)),_,(by omega),j+1,ms,_,[(q3,.tok)],rfl,rfl,rfl,by omega,.inr ⟨q3,by rw [hst,List.map_append];rfl,rfl⟩⟩
       ·rw [if_neg (by rw [hu];decide)] at hst
        conv=>whnf
        repeat (refine ⟨gP_of ⟨by omega,by omega⟩,?_⟩;conv=>whnf)
        refine ⟨_,_,Turn.sublist (.cons _ (List.Sublist.refl _)),_,(by omega),j+1,ms,_,[(q,.tok)],rfl,rfl,rfl,by omega,.inr ⟨q,by rw [hst],rfl⟩⟩
     ·rw [List.take_of_length_le hz3] at ho2
      have hl2:=ho2.le (by decide)
      have hm3:(l.signs.take i).length≤200:=by rw [List.length_take];omega
      rcases ho2 with ⟨he2,rfl,rfl⟩|⟨q2,rfl,rfl⟩<;>rcases ho with ⟨he,rfl,rfl⟩|⟨q,rfl,rfl⟩
      all_goals
       have hse:=VsLe.cons (VLe.refl (.str s.code)) (.cons (VLe.refl (.int .i64 s.wide)) (.cons (VLe.refl (.int .i64 s.high)) (.cons (VLe.refl (.bool s.even)) (.cons hl2 .nil))))
       conv=>whnf
       repeat ((first|refine ⟨gP_of ⟨by omega,by omega⟩,?_⟩|(refine ⟨Nat.le_of_ble_eq_true rfl,fun q3=>?_⟩)|(refine ⟨_,_,.here _,⟨Nat.le_of_ble_eq_true rfl,Nat.le_of_ble_eq_true rfl⟩,?_⟩)|(refine ⟨_,_,.there (.here _),⟨Nat.le_of_ble_eq_true rfl,Nat.le_of_ble_eq_true rfl⟩,?_⟩)|(refine ⟨_,_,.there (.there (.here _)),⟨Nat.le_of_ble_eq_true rfl,Nat.le_of_ble_eq_true rfl⟩,?_⟩)|(refine ⟨_,_,.there (.there (.there (.here _))),⟨Nat.le_of_ble_eq_true rfl,Nat.le_of_ble_eq_true rfl⟩,?_⟩)|(refine ⟨_,_,.tail _ (.head _),rfl,?_⟩)|(refine ⟨_,_,.tail _ (.tail _ (.head _)),rfl,?_⟩)|(refine ⟨by rw [List.length_append,List.length_singleton,List.length_map,List.length_map];unfold AMAX;omega,fun q3=>⟨_,.there (.there (.there (.here _))),?_⟩⟩)|(refine ⟨by rw [List.length_append,List.length_singleton,List.length_map,List.length_map];unfold AMAX;omega,fun q3=>⟨_,.there (.there (.there (.there (.here _)))),?_⟩⟩)|refine ⟨_,_,.head _,rfl,?_⟩);conv=>whnf)
      ·refine ⟨_,_,Turn.trans (Turn.cells (ys:=[.int .i64 1,.sl 5 (some q3) [encSgn (resS p s)]]) (.there (.there (.here _))) (.cons (VLe.refl _) (.cons (VLe.els (.cons hse .nil)) .nil))) (Turn.trans (Turn.sublist (.cons_cons _ (.cons _ (.cons_cons _ (.cons_cons _ (.slnil)))))) (Turn.perm (List.perm_append_comm (l₁:=[_]) (l₂:=[_,_])))),_,(by omega),i+1,mb,_,[(q3,.tok)],rfl,rfl,rfl,by omega,.inr ⟨q3,by rw [hsn,he];rfl,rfl⟩⟩
      ·refine ⟨_,_,Turn.trans (Turn.cells (ys:=[.int .i64 1,.sl 5 (some q3) (((l.signs.take i).map (resS p)).map encSgn++[encSgn (resS p s)])]) (.there (.here _)) (.cons (VLe.refl _) (.cons (VLe.els (VssLe.snoc hse)) .nil))) (Turn.sublist (.cons _ (.cons_cons _ (.cons_cons _ (.cons_cons _ (.slnil)))))),_,(by omega),i+1,mb,_,[(q3,.tok)],rfl,rfl,rfl,by omega,.inr ⟨q3,by rw [hsn,List.map_append];rfl,rfl⟩⟩
      ·refine ⟨_,_,Turn.trans (Turn.cells (ys:=[.int .i64 1,.sl 5 (some q3) [encSgn (resS p s)]]) (.there (.there (.there (.here _)))) (.cons (VLe.refl _) (.cons (VLe.els (.cons hse .nil)) .nil))) (Turn.trans (Turn.sublist (.cons_cons _ (.cons _ (.cons _ (.cons_cons _ (.cons_cons _ (.slnil))))))) (Turn.perm (List.perm_append_comm (l₁:=[_]) (l₂:=[_,_])))),_,(by omega),i+1,mb,_,[(q3,.tok)],rfl,rfl,rfl,by omega,.inr ⟨q3,by rw [hsn,he];rfl,rfl⟩⟩
      ·refine ⟨_,_,Turn.trans (Turn.cells (ys:=[.int .i64 1,.sl 5 (some q3) (((l.signs.take i).map (resS p)).map encSgn++[encSgn (resS p s)])]) (.there (.there (.here _))) (.cons (VLe.refl _) (.cons (VLe.els (VssLe.snoc hse)) .nil))) (Turn.sublist (.cons _ (.cons _ (.cons_cons _ (.cons_cons _ (.cons_cons _ (.slnil))))))),_,(by omega),i+1,mb,_,[(q3,.tok)],rfl,rfl,rfl,by omega,.inr ⟨q3,by rw [hsn,List.map_append];rfl,rfl⟩⟩
   ·rw [List.take_of_length_le hz2] at ho
    conv=>whnf
    repeat ((first|(refine ⟨_,_,.head _,rfl,?_⟩)|(refine ⟨_,_,.tail _ (.head _),rfl,?_⟩)|(refine ⟨_,_,.there (.here _),⟨Nat.le_of_ble_eq_true rfl,Nat.le_of_ble_eq_true rfl⟩,?_⟩));conv=>whnf)
    exact VLe.tup (.cons (VLe.agg (.cons (VLe.refl _) (.cons (ho.le (by decide)) .nil))) (.cons (VLe.refl _) .nil))
end Go.Abs.Wall.Lst
namespace Go.Abs.Wall.Lst
open Go Go.Abs Go.Proofs Go.Abs.Wall
def exT:Hou:=⟨⟨1,[⟨[65,49],1,1,false,[⟨1,[110],1,1⟩]⟩]⟩,⟨[⟨[110],1,[],3⟩],[],[]⟩,⟨0,0,0,0,0⟩,1⟩
def exW:Wrd:=⟨⟨0,-1,[]⟩,[⟨1,[110]⟩]⟩
def exD:Edg:=⟨0,1,3,exW⟩
theorem exUses:usesAt exT 0=[⟨1,[110]⟩,⟨3,[110]⟩]:=by
 unfold usesAt
 rw [usesM_i]
 decide +kernel
theorem exEdgs:edgsAt exT [0] 0=[exD]:=by
 unfold edgsAt allAt
 have h1:(([0]:List Int).drop 0).take 12=[0]:=rfl
 rw [h1,List.map_cons,List.map_nil,exUses]
 have h2:wordsAll exT [[⟨1,[110]⟩,⟨3,[110]⟩]] 0=[exD]:=by decide +kernel
 rw [h2]
 unfold sortE sortL
 exact List.mergeSort_singleton _
theorem exGraph:graphM exT [0]=[[exD]]:=by
 show [edgsAt exT [0] 0]=_
 rw [exEdgs]
theorem exGrow:growErr exT [0]=0:=by
 unfold growErr
 have h1:lineErr exT [0]=0:=by decide +kernel
 rw [if_neg (by omega),exGraph]
 decide
theorem exRd:rdV [[exD]] 0=[(3,[exD])]:=by decide +kernel
theorem exBest:listErr exT [0] 1=0∧bestL exT [0]=⟨[exW],3⟩:=by
 have h1:listErr exT [0] 1=0:=by
  unfold listErr
  rw [exGrow,exGraph,exRd]
  decide
 refine ⟨h1,?_⟩
 unfold bestL listL
 rw [if_pos h1]
 unfold rdsOf
 rw [exGraph,exRd]
 rfl
def c12:Cfg:=⟨[0,1,2,3],[],[2],[],[],[]⟩
def c4:Cfg:=⟨[0,1,2,4,5,6,7,8,9,10,11,12,13,21,34,62,66,93],[],[5,6],[],[(17,[0,1,2,3,4,5,6,7,8,9,10,11,12,13,14,15,16,17,18,19,20,21,22,23,24],[])],[]⟩
theorem exTFit:HouFit exT:=by
 have h1:∀ s∈exT.list.signs,s.code.length≤LMAX∧s.values.length≤LMAX∧∀ v∈s.values,v.text.length≤LMAX:=by decide +kernel
 have h2:∀ e∈exT.lex.entries,e.root.length≤LMAX∧e.cls.length≤LMAX:=by decide +kernel
 have h3:∀ e∈exT.lex.endings,e.text.length≤LMAX∧e.name.length≤LMAX:=by decide +kernel
 have h4:∀ e∈exT.lex.clitics,e.text.length≤LMAX∧e.name.length≤LMAX:=by decide +kernel
 exact ⟨⟨by decide +kernel,fun s hs=>⟨(h1 s hs).1,(h1 s hs).2.1,(h1 s hs).2.2⟩⟩,⟨by decide +kernel,by decide +kernel,by decide +kernel,fun e he=>⟨(h2 e he).1,(h2 e he).2⟩,fun e he=>⟨(h3 e he).1,(h3 e he).2⟩,fun e he=>⟨(h4 e he).1,(h4 e he).2⟩⟩⟩
theorem topReads:QCall Tryz.prog 12 [] [] (.bool true):=by
 have hb:=bestW exT [0] exTFit (by decide)
 rw [exBest.1,exBest.2] at hb
 have hb2:QCall Tryz.prog 30 [.agg [.int .i64 1,.sl 5 none [[.str [65,49],.int .i64 1,.int .i64 1,.bool false,.sl 4 none [[.int .i64 1,.str [110],.int .i64 1,.int .i64 1]]]],.sl 4 none [[.str [110],.int .i64 1,.str [],.int .i64 3]],.nilS,.nilS,.int .i64 0,.int .i64 0,.int .i64 0,.int .i64 0,.int .i64 0,.int .i64 1],.sl 1 none [[.int .i64 0]]] [] (.tup [.agg (encRdg ⟨[exW],3⟩),.int .i64 0]):=
  QCall.args hb (.cons (VLe.agg (.cons (VLe.refl _) (.cons (VLe.refl _) (.cons (VLe.refl _) (.cons (VLe.nil (by decide)) (.cons (VLe.nil (by decide)) (VsLe.refl _))))))) (.cons (VLe.refl _) .nil))
 refine QCall.of ?_
 refine fcalls (F:=Tryz.f12) c12 rfl rfl rfl mixed rfl fun X=>?_
 conv=>whnf
 intro b1
 conv=>whnf
 repeat ((first|refine QCall.k0 (hb2) ?_|refine ⟨_,_,Rem.here _,⟨Nat.le_of_ble_eq_true rfl,rfl⟩,?_⟩|refine ⟨_,_,.head _,rfl,?_⟩|refine ⟨_,_,.here _,leOK,?_⟩|intro (nb:Nat));conv=>whnf)
 exact VLe.refl _
theorem res_fit {H:Hou} (hf:HouFit H):HouFit (resH H):=by
 refine ⟨⟨?_,fun s hs=>?_⟩,hf.lex⟩
 ·show (H.list.signs.map (resS H.period)).length≤LMAX
  rw [List.length_map]
  exact hf.list.signs
 ·obtain ⟨t,ht,rfl⟩:=List.mem_map.1 hs
  have h:=hf.list.each t ht
  refine ⟨h.code,?_,fun v hv=>?_⟩
  ·show ((t.values.filter (inUse H.period)).map oneV).length≤LMAX
   rw [List.length_map]
   exact Nat.le_trans (List.length_filter_le _ _) h.values
  ·obtain ⟨w,hw,rfl⟩:=List.mem_map.1 hv
   exact h.texts w (List.mem_filter.1 hw).1
theorem topPeriodsL (H:Hou) (line:List Int) (hf:HouFit H) (hl:line.length≤1048576):QCall Tryz.prog 4 [.agg (encHou H),.sl 1 none (ints line)] [] (.bool true):=by
 refine QCall.of ?_
 refine fcalls (F:=Tryz.f4) c4 rfl rfl rfl mixed rfl fun X=>?_
 conv=>whnf
 repeat (refine QCall.k0 (topHomely H hf) ?_;conv=>whnf)
 refine ⟨fun hz=>?_,fun hz=>?_⟩
 ·conv=>whnf
  repeat (refine QCall.k0 (topReads) ?_;conv=>whnf)
  exact VLe.refl _
 have hz:((!homeM H)||decide (12<((ints line).length:Int)))=false:=hz
 rw [Bool.or_eq_false_iff] at hz
 obtain ⟨hh,hn⟩:=hz
 unfold homeM at hh
 simp only [Bool.not_eq_false',Bool.and_eq_true,decide_eq_true_eq] at hh
 obtain ⟨⟨⟨⟨⟨hs12,h1⟩,_⟩,_⟩,_⟩,h2⟩:=hh
 conv=>whnf
 repeat ((first|refine QCall.k0 (topCopied H h1 h2) ?_|refine QCall.k0 (topRestrict H.list H.period hf.list h1) ?_|refine ⟨_,_,Rem.here _,⟨Nat.le_of_ble_eq_true rfl,rfl⟩,?_⟩|intro (nb:Nat));conv=>whnf)
 refine ⟨fun hz=>?_,fun hz=>?_⟩
 ·conv=>whnf
  repeat (refine QCall.k0 (topReads) ?_;conv=>whnf)
  exact VLe.refl _
 have hE:restE H.list H.period=0:=by
  have hz:(!decide (restE H.list H.period=0))=false:=hz
  simpa using hz
 have hL:restL H.list H.period=resL H.period H.list:=if_pos hE
 have hw:wthn H.period 1 H.list.periods=true:=by
  cases h:wthn H.period 1 H.list.periods
  ·unfold restE at hE;rw [h] at hE;cases hE
  ·rfl
 rw [hL]
 obtain ⟨he,hls⟩:=list_res h1 (wthn_iff.1 hw) line 6
 have hQ:=listW (resH H) line 6 (res_fit hf) hl
 rw [he,hls] at hQ
 conv=>whnf
 repeat ((first|refine QCall.k0 (topCopied H h1 h2) ?_|refine QCall.k0 (listW H line 6 hf hl) ?_|refine QCall.k0 (hQ) ?_|refine ⟨_,_,.head _,rfl,?_⟩|refine ⟨_,_,.here _,leOK,?_⟩|intro (nb:Nat));conv=>whnf)
 refine cF (by simp) ?_
 conv=>whnf
 skip
 refine tloop rfl mixed [9,11,13] [] (fun m r h=>∃ (i:Nat),r=[(9,[],.sl 2 none ((listL H line 6).map encRdg)),(11,[],.sl 2 none ((listL H line 6).map encRdg)),(13,[],.int .i64 i)]∧h=[]∧m=(listL H line 6).length - i∧i≤(listL H line 6).length) ?_ ?_
 ·conv=>whnf
  exact ⟨_,_,Turn.drop (.here _),_,0,rfl,rfl,rfl,by omega⟩
 ·rintro m r h ⟨i,rfl,rfl,rfl,hi⟩
  conv=>whnf
  skip
  refine ⟨fun hi2=>?_,fun hi2=>?_⟩<;>simp at hi2
  ·obtain ⟨x,hx⟩:=get_lt hi2
   have hxf:=listL_fit x (List.mem_of_getElem? hx)
   have hxl:=hxf.1
   have hll:=listL_len (H:=H) (line:=line) (most:=6)
   conv=>whnf
   repeat ((first|refine ix (by assumption) ?_|refine gcall (topWords x.words (by omega) hxf.2) ?_|refine And.intro (by show drawOK (opsAt Tryz.f4 _) _=true;decide +kernel) ?_);conv=>whnf)
   refine cF (by simp) ?_
   conv=>whnf
   repeat (refine ⟨gP_of ⟨by omega,by omega⟩,?_⟩;conv=>whnf)
   exact ⟨_,_,Turn.refl _ _,_,by omega,i+1,rfl,rfl,rfl,by omega⟩
  ·conv=>whnf
   repeat (refine QCall.k0 (topReads) ?_;conv=>whnf)
   exact VLe.refl _
end Go.Abs.Wall.Lst
