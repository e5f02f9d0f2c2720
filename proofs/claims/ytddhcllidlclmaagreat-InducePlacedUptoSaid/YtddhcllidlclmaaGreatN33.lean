/- What is proved: small laws for the walks of this seat, and contracts of its functions. No condition but those each theorem names. -/
import Derived.Test.YtddhcllidlclmaaGreatN23
import Derived.Test.YtddhcllidlclmaaGreatN30
import Derived.Test.YtddhcllidlclmaaGreatN32
set_option maxRecDepth 100000
set_option maxHeartbeats 2000000
set_option linter.unusedVariables false
set_option linter.unusedSimpArgs false
namespace Go.Abs.Wall.Lst
open Go Go.Abs Go.Proofs Go.Abs.Wall
theorem badGo_false {α:Type} {bad:List α→α→Bool} {l:List α}:∀ {t:List α} {i:Nat},badGo bad l t i=false↔∀ (j:Nat) (w:α),t[j]?=some w→bad (l.take (i+j)) w=false
 | [],i=>⟨fun _ j w h=>by simp at h,fun _=>rfl⟩
 | x::t,i=>by
   rw [badGo,Bool.or_eq_false_iff,badGo_false (t:=t) (i:=i+1)]
   constructor
   ·rintro ⟨h1,h2⟩ j w hw
    cases j with
    | zero=>
      simp at hw
      subst hw
      exact h1
    | succ j=>
      have:=h2 j w (by simpa using hw)
      rwa [show i+(j+1)=i+1+j by omega]
   ·intro h
    refine ⟨h 0 x rfl,fun j w hw=>?_⟩
    have:=h (j+1) w (by simpa using hw)
    rwa [show i+1+j=i+(j+1) by omega]
theorem bads_false {α:Type} {bad:List α→α→Bool} {l:List α}:bads bad l=false↔∀ (j:Nat) (w:α),l[j]?=some w→bad (l.take j) w=false:=by
 unfold bads
 rw [badGo_false]
 simp only [Nat.zero_add]
theorem entBad_less {before before':List Ent} {w:Ent} (h:∀ v∈before',v∈before) (hb:entBad before w=false):entBad before' w=false:=by
 unfold entBad at hb ⊢
 rw [Bool.or_eq_false_iff] at hb ⊢
 refine ⟨hb.1,?_⟩
 cases ha:before'.any (entSame w) with
 | false=>rfl
 | true=>
   obtain ⟨v,hv,h2⟩:=List.any_eq_true.1 ha
   rw [List.any_eq_true.2 ⟨v,h v hv,h2⟩] at hb
   exact absurd hb.2 (by decide)
theorem keep_len {H:Hou} {keep:List Int} (hk:KeepOK H keep):keep.length≤H.lex.entries.length:=by
 have:=nodup_sub_len (a:=keep) (b:=(List.range H.lex.entries.length).map fun i:Nat=>(i:Int)) (hk.up.imp fun h=>by omega) fun x hx=>by
  have:=hk.inr x hx
  rw [List.mem_map]
  exact ⟨x.toNat,List.mem_range.2 (by omega),by omega⟩
 simpa using this
theorem entAt_get {x:Lex} {k:Int} (h0:0≤k) (h1:k<x.entries.length):x.entries[k.toNat]?=some (entAt x k):=by
 obtain ⟨e,he⟩:=get_lt (l:=x.entries) (i:=k.toNat) (by omega)
 unfold entAt
 rw [getD_of he,he]
theorem up_get {l:List Int} (h:l.Pairwise (·<·)) {i j:Nat} {x y:Int} (hi:l[i]?=some x) (hj:l[j]?=some y) (hij:i<j):x<y:=by
 obtain ⟨h1,rfl⟩:=List.getElem?_eq_some_iff.1 hi
 obtain ⟨h2,rfl⟩:=List.getElem?_eq_some_iff.1 hj
 exact List.pairwise_iff_getElem.1 h i j h1 h2 hij
theorem lex_only {H:Hou} {keep:List Int} (hk:KeepOK H keep) (h:lexErr H.lex=0):lexErr (onlyX H.lex keep)=0:=by
 have hlen:=keep_len hk
 have hl:(onlyX H.lex keep).entries.length=keep.length:=by unfold onlyX;simp
 unfold lexErr at h ⊢
 split at h
 ·cases h
 rename_i h1
 split at h
 ·cases h
 rename_i h2
 have h3:bads entBad (onlyX H.lex keep).entries=false:=by
  rw [bads_false]
  intro j w hw
  unfold onlyX at hw ⊢
  simp only at hw ⊢
  rw [List.getElem?_map] at hw
  obtain ⟨k,hkj,rfl⟩:=Option.map_eq_some_iff.1 hw
  have hr:=hk.inr k (List.mem_of_getElem? hkj)
  have hb:=bads_false.1 (Bool.eq_false_iff.2 h2) k.toNat _ (entAt_get hr.1 hr.2)
  refine entBad_less ?_ hb
  intro v hv
  obtain ⟨i,hi⟩:=List.mem_iff_getElem?.1 hv
  rw [List.getElem?_take] at hi
  split at hi
  ·rename_i hij
   rw [List.getElem?_map] at hi
   obtain ⟨k2,hk2,rfl⟩:=Option.map_eq_some_iff.1 hi
   have hlt:=up_get hk.up hk2 hkj hij
   have hr2:=hk.inr k2 (List.mem_of_getElem? hk2)
   have hg:=entAt_get (x:=H.lex) hr2.1 hr2.2
   refine List.mem_iff_getElem?.2 ⟨k2.toNat,?_⟩
   rw [List.getElem?_take,if_pos (by omega)]
   exact hg
  ·cases hi
 rw [if_neg (by rw [hl];show ¬ (200<keep.length∨40<H.lex.endings.length∨10<H.lex.clitics.length);omega),if_neg (by rw [h3];decide)]
 exact h
theorem hou_only {H:Hou} {keep:List Int} (hk:KeepOK H keep) (h:houErr H=0):houErr (onlyH H keep)=0:=by
 unfold houErr at h ⊢
 split at h
 ·rename_i h1;exact absurd h h1
 rename_i h1
 split at h
 ·rename_i h2;exact absurd h h2
 rename_i h2
 rw [if_neg (by exact h1),if_neg (by intro hn;exact hn (lex_only hk (by omega)))]
 exact h
theorem line_only {H:Hou} {keep:List Int} (hk:KeepOK H keep) {line:List Int} (h:lineErr H line=0):lineErr (onlyH H keep) line=0:=by
 unfold lineErr at h ⊢
 split at h
 ·rename_i h1;exact absurd h h1
 rename_i h1
 rw [if_neg (by intro hn;exact hn (hou_only hk (by omega)))]
 exact h
theorem grow_keep {H:Hou} {keep:List Int} (hk:KeepOK H keep) {line:List Int} (h:growErr H line=0):growErr (onlyH H keep) line=0:=by
 have h1:=grow_line h
 have h2:=line_lex h1
 exact grow_only hk (lex_only hk h2) h (line_only hk h1)
theorem rd_only {H:Hou} {keep:List Int} (hk:KeepOK H keep) {line:List Int} (h:growErr H line=0) {w w':Int→Bool}
  (hw:∀ (j:Nat) (k:Int),keep[j]?=some k→w' j=w k):rdM w' (lnksM (onlyH H keep) line)=rdM (fun e=>memW keep e&&w e) (lnksM H line):=by
 have h':=grow_keep hk h
 obtain ⟨hL,_,_⟩:=growOK h
 obtain ⟨hL',_,_⟩:=growOK h'
 have hx:=line_lex (grow_line h)
 have hx':=lex_only hk hx
 have hlen:(lnksM (onlyH H keep) line).length=(lnksM H line).length:=by unfold lnksM;rw [List.length_map,List.length_map,graphM_len,graphM_len]
 rw [Bool.eq_iff_iff,rdM_iff (lnk_ok h'),rdM_iff (lnk_ok h),hlen]
 have get:∀ (K:Hou) (i:Nat) es,(lnksM K line)[i]?=some es→i<line.length∧es=(edgsAt K line i).map lnkOf:=by
  intro K i es he
  unfold lnksM at he
  rw [List.getElem?_map] at he
  obtain ⟨fs,hf,rfl⟩:=Option.map_eq_some_iff.1 he
  have hi:=(List.getElem?_eq_some_iff.1 hf).1
  rw [graphM_len] at hi
  rw [graphM_get hi] at hf
  cases hf
  exact ⟨hi,rfl⟩
 have put:∀ (K:Hou) (i:Nat),i<line.length→(lnksM K line)[i]?=some ((edgsAt K line i).map lnkOf):=by
  intro K i hi
  unfold lnksM
  rw [List.getElem?_map,graphM_get hi]
  rfl
 constructor
 ·refine fun hr=>hr.mono fun i es x hes hxm hwx=>?_
  obtain ⟨hi,rfl⟩:=get _ i es hes
  obtain ⟨e,he,rfl⟩:=List.mem_map.1 hxm
  obtain ⟨hr1,hr2⟩:=(edgs_only hk hL hL' hx' hx (by omega)).1 he
  refine ⟨_,put H i hi,lnkOf (reE keep e),List.mem_map.2 ⟨_,hr2,rfl⟩,rfl,?_⟩
  obtain ⟨k,hkj⟩:=get_lt (l:=keep) (i:=e.word.form.entry.toNat) (by omega)
  show (memW keep (keep.getD e.word.form.entry.toNat 0)&&w (keep.getD e.word.form.entry.toNat 0))=true
  rw [getD_of hkj,Bool.and_eq_true]
  refine ⟨by unfold memW;rw [decide_eq_true_eq];exact List.mem_of_getElem? hkj,?_⟩
  rw [← hw _ k hkj,show ((e.word.form.entry.toNat:Nat):Int)=e.word.form.entry by omega]
  exact hwx
 ·refine fun hr=>hr.mono fun i es x hes hxm hwx=>?_
  obtain ⟨hi,rfl⟩:=get _ i es hes
  obtain ⟨e,he,rfl⟩:=List.mem_map.1 hxm
  rw [Bool.and_eq_true] at hwx
  have hm:e.word.form.entry∈keep:=by
   have:=hwx.1
   unfold memW at this
   exact of_decide_eq_true this
  obtain ⟨j,hj⟩:=List.mem_iff_getElem?.1 hm
  have hjl:=(List.getElem?_eq_some_iff.1 hj).1
  have hre:reE keep { e with word:={ e.word with form:={ e.word.form with entry:=(j:Int) } } }=e:=by
   unfold reE reW reF
   simp only [Int.toNat_natCast]
   rw [getD_of hj]
  refine ⟨_,put _ i hi,lnkOf { e with word:={ e.word with form:={ e.word.form with entry:=(j:Int) } } },List.mem_map.2 ⟨_,(edgs_only hk hL hL' hx' hx (by omega)).2 ⟨⟨by simp,by simp;omega⟩,by rw [hre];exact he⟩,rfl⟩,rfl,?_⟩
  show w' (j:Int)=true
  rw [hw j _ hj]
  exact hwx.2
theorem cor_get {H:Hou} {lines:List (List Int)} {i:Nat} {l:List Int} (h:lines[i]?=some l):(corM H lines).getD i []=lnksM H l:=by
 refine getD_of ?_
 unfold corM
 rw [List.getElem?_map,h]
 rfl
theorem and_but (keep:List Int) (k:Int):(fun e=>memW keep e&&but everyW k e)=but (memW keep) k:=by
 funext e
 unfold but everyW
 rw [Bool.and_true,Bool.and_comm]
theorem and_every (keep:List Int):(fun e=>memW keep e&&everyW e)=memW keep:=by
 funext e
 unfold everyW
 rw [Bool.and_true]
theorem but_hw {keep:List Int} (hu:keep.Pairwise (·<·)) {n:Nat} {kn:Int} (hn:keep[n]?=some kn):∀ (j:Nat) (k:Int),keep[j]?=some k→but everyW n j=but everyW kn k:=by
 intro j k hj
 unfold but everyW
 congr 2
 rw [decide_eq_decide]
 constructor
 ·intro h
  have:j=n:=by omega
  subst this
  rw [hn] at hj
  exact (Option.some.inj hj).symm
 ·intro h
  subst h
  rcases Nat.lt_trichotomy j n with h|h|h
  ·exact absurd (up_get hu hj hn h) (by omega)
  ·rw [h]
  ·exact absurd (up_get hu hn hj h) (by omega)
theorem keepL_ok {H:Hou} {w:Int→Bool}:KeepOK H (keepL H.lex.entries.length w):=⟨keepL_up,fun k hk=>by
 obtain ⟨h0,h1,_⟩:=keepL_mem.1 hk
 exact ⟨h0,h1⟩⟩
end Go.Abs.Wall.Lst
namespace Go.Abs.Wall.Lst
open Go Go.Abs Go.Proofs Go.Abs.Wall
def c56:Cfg:=⟨[0,2,4],[5],[],[],[],[]⟩
def c57:Cfg:=⟨[0,2,4],[5],[],[],[],[]⟩
def c58:Cfg:=⟨[0,2,4],[5],[],[],[],[]⟩
def c59:Cfg:=⟨[0,2,4],[5],[],[],[],[]⟩
def c29:Cfg:=⟨[0,1,2,4,5,6,8,26,27,28,55,56,57,58],[],[4],[],[(2,[0,1,2,3,4,5,6,7,8,9],[]),(6,[0,1,2,3,4,5,6,7,8,9,10,11,12,13,14],[]),(8,[0,1,2,3,4,5,6,7,8,9,10],[]),(12,[0,1,2,3,4,5,6,7,8,9,10,11,12,13],[])],[20]⟩
def c53:Cfg:=⟨[0,1,4,5,6,7,8,9,10,31],[],[],[],[],[]⟩
def c56o:Cfg:=⟨c56.keep,[5,7],c56.frz,c56.spl,c56.ords,[5]⟩
theorem cloneV (l:List Val) (hl:l.length≤AMAX):QCall Tryz.prog 57 [.sl 4 none (l.map encVal)] [] (.sl 4 none (l.map encVal)):=by
 refine CloneP.ok (by decide) ?_
 unfold AMAX at hl
 by_cases h:l=[]
 ·subst h
  refine ACalls.nilOr ?_ ?_
  ·refine fcalls (F:=Tryz.f57) c57 rfl rfl rfl mixed rfl fun X=>?_
   conv=>whnf
   refine ⟨fun hc=>?_,fun hc=>?_⟩
   ·conv=>whnf
    exact .inl ⟨rfl,rfl,rfl⟩
   ·cases hc
  ·refine fcalls (F:=Tryz.f57) c57 rfl rfl rfl mixed rfl fun X=>?_
   conv=>whnf
   refine ⟨fun hc=>?_,fun hc=>?_⟩
   ·cases hc
   ·conv=>whnf
    intro q
    conv=>whnf
    refine ⟨by simp [AMAX],fun q'=>⟨_,.here _,?_⟩⟩
    conv=>whnf
    exact .inr ⟨q',rfl,rfl⟩
 ·refine fcalls (F:=Tryz.f57) c57 rfl rfl rfl mixed rfl fun X=>?_
  conv=>whnf
  refine ⟨map_ne h,?_⟩
  conv=>whnf
  refine ⟨fun hc=>?_,fun hc=>?_⟩
  ·cases hc
  ·conv=>whnf
   intro q
   conv=>whnf
   refine ⟨by simp [AMAX];omega,fun q'=>⟨_,.here _,?_⟩⟩
   conv=>whnf
   exact .inr ⟨q',rfl,rfl⟩
theorem cloneEd (l:List Edn) (hl:l.length≤AMAX):QCall Tryz.prog 58 [.sl 4 none (l.map encEdn)] [] (.sl 4 none (l.map encEdn)):=by
 refine CloneP.ok (by decide) ?_
 unfold AMAX at hl
 by_cases h:l=[]
 ·subst h
  refine ACalls.nilOr ?_ ?_
  ·refine fcalls (F:=Tryz.f58) c58 rfl rfl rfl mixed rfl fun X=>?_
   conv=>whnf
   refine ⟨fun hc=>?_,fun hc=>?_⟩
   ·conv=>whnf
    exact .inl ⟨rfl,rfl,rfl⟩
   ·cases hc
  ·refine fcalls (F:=Tryz.f58) c58 rfl rfl rfl mixed rfl fun X=>?_
   conv=>whnf
   refine ⟨fun hc=>?_,fun hc=>?_⟩
   ·cases hc
   ·conv=>whnf
    intro q
    conv=>whnf
    refine ⟨by simp [AMAX],fun q'=>⟨_,.here _,?_⟩⟩
    conv=>whnf
    exact .inr ⟨q',rfl,rfl⟩
 ·refine fcalls (F:=Tryz.f58) c58 rfl rfl rfl mixed rfl fun X=>?_
  conv=>whnf
  refine ⟨map_ne h,?_⟩
  conv=>whnf
  refine ⟨fun hc=>?_,fun hc=>?_⟩
  ·cases hc
  ·conv=>whnf
   intro q
   conv=>whnf
   refine ⟨by simp [AMAX];omega,fun q'=>⟨_,.here _,?_⟩⟩
   conv=>whnf
   exact .inr ⟨q',rfl,rfl⟩
theorem cloneCl (l:List Cli) (hl:l.length≤AMAX):QCall Tryz.prog 59 [.sl 3 none (l.map encCli)] [] (.sl 3 none (l.map encCli)):=by
 refine CloneP.ok (by decide) ?_
 unfold AMAX at hl
 by_cases h:l=[]
 ·subst h
  refine ACalls.nilOr ?_ ?_
  ·refine fcalls (F:=Tryz.f59) c59 rfl rfl rfl mixed rfl fun X=>?_
   conv=>whnf
   refine ⟨fun hc=>?_,fun hc=>?_⟩
   ·conv=>whnf
    exact .inl ⟨rfl,rfl,rfl⟩
   ·cases hc
  ·refine fcalls (F:=Tryz.f59) c59 rfl rfl rfl mixed rfl fun X=>?_
   conv=>whnf
   refine ⟨fun hc=>?_,fun hc=>?_⟩
   ·cases hc
   ·conv=>whnf
    intro q
    conv=>whnf
    refine ⟨by simp [AMAX],fun q'=>⟨_,.here _,?_⟩⟩
    conv=>whnf
    exact .inr ⟨q',rfl,rfl⟩
 ·refine fcalls (F:=Tryz.f59) c59 rfl rfl rfl mixed rfl fun X=>?_
  conv=>whnf
  refine ⟨map_ne h,?_⟩
  conv=>whnf
  refine ⟨fun hc=>?_,fun hc=>?_⟩
  ·cases hc
  ·conv=>whnf
   intro q
   conv=>whnf
   refine ⟨by simp [AMAX];omega,fun q'=>⟨_,.here _,?_⟩⟩
   conv=>whnf
   exact .inr ⟨q',rfl,rfl⟩
theorem cloneSgQ (l:List Sgn) (hl:l.length≤AMAX):QCall Tryz.prog 56 [.sl 5 none (l.map encSgn)] [] (.sl 5 none (l.map encSgn)):=by
 refine CloneP.ok (by decide) ?_
 unfold AMAX at hl
 by_cases h:l=[]
 ·subst h
  refine ACalls.nilOr ?_ ?_
  ·refine fcalls (F:=Tryz.f56) c56 rfl rfl rfl mixed rfl fun X=>?_
   conv=>whnf
   refine ⟨fun hc=>?_,fun hc=>?_⟩
   ·conv=>whnf
    exact .inl ⟨rfl,rfl,rfl⟩
   ·cases hc
  ·refine fcalls (F:=Tryz.f56) c56 rfl rfl rfl mixed rfl fun X=>?_
   conv=>whnf
   refine ⟨fun hc=>?_,fun hc=>?_⟩
   ·cases hc
   ·conv=>whnf
    intro q
    conv=>whnf
    refine ⟨by simp [AMAX],fun q'=>⟨_,.here _,?_⟩⟩
    conv=>whnf
    exact .inr ⟨q',rfl,rfl⟩
 ·refine fcalls (F:=Tryz.f56) c56 rfl rfl rfl mixed rfl fun X=>?_
  conv=>whnf
  refine ⟨map_ne h,?_⟩
  conv=>whnf
  refine ⟨fun hc=>?_,fun hc=>?_⟩
  ·cases hc
  ·conv=>whnf
   intro q
   conv=>whnf
   refine ⟨by simp [AMAX];omega,fun q'=>⟨_,.here _,?_⟩⟩
   conv=>whnf
   exact .inr ⟨q',rfl,rfl⟩
theorem cloneSgO (l:List Sgn) (hl:l.length≤1048576) (hne:l≠[]) :
  ACalls Tryz.prog 56 [.sl 5 none (l.map encSgn)] [] (fun v h'=>∃ b,v=.osl b 0 l.length 5∧h'=[(b,.vec (l.map encSgn).flatten)]):=by
 refine ACalls.post (R:=fun v h'=>∃ b Z,v=.osl b 0 l.length 5∧h'=(b,.vec (l.map encSgn).flatten)::Z) ?_ ?_
 ·refine fcalls (F:=Tryz.f56) c56o rfl rfl rfl mixed rfl fun X=>?_
  conv=>whnf
  refine ⟨map_ne hne,?_⟩
  conv=>whnf
  refine ⟨fun hc=>?_,fun hc=>?_⟩
  ·cases hc
  ·conv=>whnf
   intro b
   conv=>whnf
   repeat ((refine ⟨⟨⟨_,.head _⟩,by rw [List.length_map];exact List.length_pos_iff.2 hne,by rw [List.length_map];unfold AMAX;omega⟩,fun q=>?_⟩);conv=>whnf)
   exact ⟨q,_,by rw [List.length_map];rfl,rfl⟩
 ·rintro v h1 ⟨b,Z,rfl,rfl⟩
  refine ⟨_,[(b,.vec (l.map encSgn).flatten)],⟨b,rfl,rfl⟩,VLe.refl _,fun k o hm=>?_,fun hn=>by simp [keys]⟩
  rw [List.mem_singleton] at hm
  rw [hm]
  exact List.mem_cons_self ..
def SgRow (l:List Sgn) (sv:AV) (oh:Heap):Prop:=(l=[]∧sv=.sl 5 none []∧oh=[])∨(l≠[]∧∃ b,sv=.osl b 0 l.length 5∧oh=[(b,.vec (l.map encSgn).flatten)])
theorem cloneSg (l:List Sgn) (hl:l.length≤1048576):ACalls Tryz.prog 56 [.sl 5 none (l.map encSgn)] [] (SgRow l):=by
 by_cases h:l=[]
 ·subst h
  exact QCall.k (cloneSgQ [] (by unfold AMAX;simp)) (.inl ⟨rfl,rfl,rfl⟩)
 ·refine ACalls.mono ?_ (cloneSgO l hl h)
  rintro v h' ⟨b,rfl,rfl⟩
  exact .inr ⟨h,b,rfl,rfl⟩
def onlyC (H:Hou) (sv ev:AV):List AV:=[.int .i64 H.list.periods,sv]++([ev,.sl 4 none (H.lex.endings.map encEdn),.sl 3 none (H.lex.clitics.map encCli)]++(encCos H.costs++[.int .i64 H.period]))
def onlyC0 (H:Hou) (sv:AV):List AV:=[.int .i64 H.list.periods,sv]++([.nilS,.nilS,.nilS]++(encCos H.costs++[.int .i64 H.period]))
def zeroC:List AV:=[.int .i64 0,.nilS,.nilS,.nilS,.nilS,.int .i64 0,.int .i64 0,.int .i64 0,.int .i64 0,.int .i64 0,.int .i64 0]
theorem flat_same {L:List Sgn} {i:Nat} {x:Sgn} (hx:L[i]?=some x):VsLe (setC (L.map encSgn).flatten (0+i*5+4) [.sl 4 none (x.values.map encVal)]) (L.map encSgn).flatten:=by
 have h:=flat_setle encSgn_len hx (j:=4) (y:=x) (v:=.sl 4 none (x.values.map encVal)) (by decide) (VsLe.refl _)
 rw [set_self hx] at h
 rw [Nat.zero_add]
 exact h
theorem rem_last {b:Nat} {o:Ob}:∀ Z:Heap,Rem b o (Z++[(b,o)]) Z
 | []=>.here _
 | x::Z=>.there (rem_last Z)
theorem onlyA (H:Hou) (keep:List Int) (hf:HouFit H) (hs:H.list.signs.length≤1048576) (hv:∀ s∈H.list.signs,s.values.length≤1048576) (he:H.lex.endings.length≤1048576) (hc:H.lex.clitics.length≤1048576) (hk:keep.length≤1048576) (hin:∀ k∈keep,0≤k∧k<H.lex.entries.length) :
  QCall Tryz.prog 29 [.agg (encHou H),.sl 1 none (ints keep)] [] (.agg (encHou (onlyH H keep))):=by
 refine QCall.of (ACalls.frzOr (R:=fun v h'=>∃ sv oh ev Z,SgRow H.list.signs sv oh∧v=.agg (onlyC H sv ev)∧VLe ev (.sl 4 none ((keep.map (entAt H.lex)).map encEnt))∧h'=Z++oh) ?_ ?_)
 ·refine fcalls (F:=Tryz.f29) c29 rfl rfl rfl mixed rfl fun X=>?_
  conv=>whnf
  repeat ((first|refine ⟨_,_,.here _,leOK,?_⟩|refine And.intro (by show drawOK (opsAt Tryz.f29 _) _=true;decide +kernel) ?_|intro (nb:Nat));conv=>whnf)
  rename_i tb
  rename Nat=>nb
  refine ACalls.mono ?_ (ACalls.frame (cloneSg H.list.signs hs) _)
  rintro v h' ⟨oh,hrow,rfl⟩
  rcases hrow with ⟨h1,rfl,rfl⟩|⟨h1,b,rfl,rfl⟩
  all_goals
   repeat ((first|refine ⟨_,_,.head _,rfl,?_⟩|refine ⟨_,_,.tail _ (.head _),rfl,?_⟩|refine ⟨_,_,.here _,leOK,?_⟩|refine ⟨_,_,.there (.here _),leOK,?_⟩);conv=>whnf)
   refine tloop rfl mixed [1,2,4,5,26,27] [] (fun m r h=>∃ (i:Nat) (sv:AV) (oh:Heap),r=[(1,[],.sl 1 none (ints keep)),(2,[],.iptr (encHou H)),(4,[],.optr tb 0),(5,[],.optr nb 0),(26,[],.int .i64 H.list.signs.length),(27,[],.int .i64 i)]∧h=(nb,.vec (onlyC0 H sv))::(tb,.vec zeroC)::oh∧m=H.list.signs.length - i∧i≤H.list.signs.length∧SgRow H.list.signs sv oh) ?_ ?_
   ·conv=>whnf
    first
     | exact ⟨_,_,Turn.refl _ _,_,0,.sl 5 none [],[],by rw [h1];rfl,rfl,rfl,Nat.zero_le _,.inl ⟨h1,rfl,rfl⟩⟩
     | exact ⟨_,_,Turn.sub (h':=[(nb,_),(tb,_),(b,_)]) (by intro k o hm;simp only [List.mem_cons,List.not_mem_nil,or_false] at hm ⊢;rcases hm with h|h|h;exact .inr (.inl h);exact .inr (.inr h);exact .inl h) (by simp [keys];grind),_,0,.osl b 0 H.list.signs.length 5,[(b,.vec (H.list.signs.map encSgn).flatten)],rfl,rfl,rfl,Nat.zero_le _,.inr ⟨h1,b,rfl,rfl⟩⟩
   ·rintro m r h' ⟨i,sv,oh,rfl,rfl,rfl,hi,hrow⟩
    conv=>whnf
    refine ⟨fun hi2=>?_,fun hi2=>?_⟩<;>simp at hi2
    ·rcases hrow with ⟨h1,rfl,rfl⟩|⟨h1,b,rfl,rfl⟩
     ·rw [h1] at hi2
      simp at hi2
     ·obtain ⟨s,hsx⟩:=get_lt hi2
      have hsv:=hv s (List.mem_of_getElem? hsx)
      have hld:(H.list.signs.map encSgn).flatten[0+i*5+4]?=some (.sl 4 none (s.values.map encVal)):=by rw [Nat.zero_add];exact flat_get encSgn_len hsx (by decide)
      have hlen:0+i*5+4+1≤(H.list.signs.map encSgn).flatten.length:=by rw [flat_len encSgn_len];omega
      conv=>whnf
      repeat ((first|refine ⟨gP_of ⟨by omega,by omega⟩,?_⟩|(refine ixo (i:=i) (by omega) ?_)|(refine ldo (v:=.sl 4 none (s.values.map encVal)) (.tail _ (.tail _ (.head _))) rfl hld ?_)|refine gcall (cloneV s.values (by unfold AMAX;omega)) ?_|(refine ⟨_,_,.there (.there (.here _)),⟨Nat.le_of_ble_eq_true rfl,hlen⟩,?_⟩)|refine ⟨_,_,.head _,rfl,?_⟩|refine And.intro (by show drawOK (opsAt Tryz.f29 _) _=true;decide +kernel) ?_);conv=>whnf)
      exact ⟨_,_,Turn.cells (.there (.there (.here _))) (flat_same hsx),_,(by omega),i+1,_,_,rfl,rfl,rfl,by omega,.inr ⟨h1,b,rfl,rfl⟩⟩
    ·conv=>whnf
     repeat ((first|refine gcall (cloneEd H.lex.endings (by unfold AMAX;omega)) ?_|refine gcall (cloneCl H.lex.clitics (by unfold AMAX;omega)) ?_|refine ⟨_,_,.here _,leOK,?_⟩|refine And.intro (by show drawOK (opsAt Tryz.f29 _) _=true;decide +kernel) ?_);conv=>whnf)
     refine tloop rfl mixed [2,4,5,55,56,57] [] (fun m r h=>∃ (j:Nat) (ev:AV) (eh:Heap),r=[(2,[],.iptr (encHou H)),(4,[],.optr tb 0),(5,[],.optr nb 0),(55,[],.sl 1 none (ints keep)),(56,[],.int .i64 (ints keep).length),(57,[],.int .i64 j)]∧h=(nb,.vec (onlyC H sv ev))::(tb,.vec zeroC)::(eh++oh)∧m=keep.length - j∧j≤keep.length∧Out 4 encEnt ((keep.take j).map (entAt H.lex)) ev eh) ?_ ?_
     ·conv=>whnf
      exact ⟨_,_,Turn.refl _ _,_,0,.nilS,[],rfl,rfl,rfl,by omega,.inl ⟨rfl,rfl,rfl⟩⟩
     ·rintro m r h' ⟨j,ev,eh,rfl,rfl,rfl,hj,ho⟩
      conv=>whnf
      refine ⟨fun hj2=>?_,fun hj2=>?_⟩<;>rw [ints_length] at hj2<;>simp at hj2
      ·obtain ⟨x,hx⟩:=get_lt hj2
       have hxr:=hin x (List.mem_of_getElem? hx)
       have hxe:=entAt_get (x:=H.lex) hxr.1 hxr.2
       have hsn:(keep.take (j+1)).map (entAt H.lex)=(keep.take j).map (entAt H.lex)++[entAt H.lex x]:=by rw [take_snoc hx,List.map_append];rfl
       have hol:((keep.take j).map (entAt H.lex)).length≤1048576:=by rw [List.length_map,List.length_take];omega
       rcases ho with ⟨he3,rfl,rfl⟩|⟨q,rfl,rfl⟩
       ·conv=>whnf
        repeat ((first|refine ⟨gP_of ⟨by omega,by omega⟩,?_⟩|refine ix (by assumption) ?_|(refine ixn (enc:=encEnt) x.toNat (by show x=_;omega) hxe ?_)|(refine ⟨Nat.le_of_ble_eq_true rfl,fun q'=>?_⟩)|(refine ⟨_,_,.there (.here _),leOK,?_⟩)|refine ⟨_,_,.head _,rfl,?_⟩|refine And.intro (by show drawOK (opsAt Tryz.f29 _) _=true;decide +kernel) ?_);conv=>whnf)
        refine ⟨_,_,Turn.sub (h':=(nb,.vec (onlyC H sv (.sl 4 (some q') [encEnt (entAt H.lex x)])))::(tb,.vec zeroC)::([(q',.tok)]++oh)) ?_ ?_,_,(by omega),j+1,.sl 4 (some q') [encEnt (entAt H.lex x)],[(q',.tok)],rfl,rfl,rfl,by omega,.inr ⟨q',?_,rfl⟩⟩
        ·intro k o hm
         simp only [List.mem_cons,List.mem_append,List.not_mem_nil,or_false,List.nil_append] at hm ⊢
         rcases hm with h|h|h|h
         ·exact .inr (.inl h)
         ·exact .inr (.inr (.inl h))
         ·exact .inl h
         ·exact .inr (.inr (.inr h))
        ·simp [keys]
         grind
        ·rw [hsn,he3];rfl
       ·conv=>whnf
        repeat ((first|refine ⟨gP_of ⟨by omega,by omega⟩,?_⟩|refine ix (by assumption) ?_|(refine ixn (enc:=encEnt) x.toNat (by show x=_;omega) hxe ?_)|(refine ⟨(by rw [List.length_append,List.length_map];simp at hol ⊢;unfold AMAX;omega),fun q'=>⟨_,.there (.there (.here _)),?_⟩⟩)|refine ⟨_,_,.head _,rfl,?_⟩|refine ⟨_,_,.here _,leOK,?_⟩|refine And.intro (by show drawOK (opsAt Tryz.f29 _) _=true;decide +kernel) ?_);conv=>whnf)
        exact ⟨_,_,Turn.refl _ _,_,(by omega),j+1,.sl 4 (some q') (((keep.take j).map (entAt H.lex)).map encEnt++[encEnt (entAt H.lex x)]),[(q',.tok)],rfl,rfl,rfl,by omega,.inr ⟨q',by rw [hsn,List.map_append];rfl,rfl⟩⟩
      ·rw [List.take_of_length_le hj2] at ho
       conv=>whnf
       repeat ((first|(refine ⟨⟨Nat.le_of_ble_eq_true rfl,rfl⟩,?_⟩)|refine ⟨_,_,Rem.there (.here _),?_⟩|refine ⟨_,_,.head _,rfl,?_⟩);conv=>whnf)
       exact ⟨sv,oh,ev,(nb,.vec (onlyC H sv ev))::eh,hrow,rfl,ho.le (by decide),rfl⟩
 ·rintro v h1 ⟨sv,oh,ev,Z,hrow,rfl,hev,rfl⟩
  rcases hrow with ⟨h1,rfl,rfl⟩|⟨h1,b,rfl,rfl⟩
  ·left
   show VLe _ (.agg (encHou (onlyH H keep)))
   refine VLe.agg (.cons (VLe.refl _) (.cons ?_ (.cons hev (VsLe.refl _))))
   rw [show (onlyH H keep).list.signs=[] from h1]
   exact VLe.refl _
  ·right
   exact ⟨b,_,_,_,_,rem_last Z,FzH.refl _,.agg (.cons (.refl _) (.cons (fzEnc encSgn_len rfl) (.cons (.le hev) (FzVs.refl _)))),VLe.refl _⟩
end Go.Abs.Wall.Lst
namespace Go.Abs.Wall.Lst
open Go Go.Abs Go.Proofs Go.Abs.Wall
end Go.Abs.Wall.Lst
