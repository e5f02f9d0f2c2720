/- What is proved: small laws for the walks of this seat, and contracts of its functions. No condition but those each theorem names. -/
import Derived.Test.YtbmcnieifibckaaGreatN6
set_option maxRecDepth 100000
set_option maxHeartbeats 2000000
set_option linter.unusedVariables false
set_option linter.unusedSimpArgs false
namespace Go.Abs.Wall
open Go Go.Abs Go.Proofs
end Go.Abs.Wall
namespace Go.Abs.Wall
open Go Go.Abs Go.Proofs
def edgeStep (q cur cost:Int):Int:=if (!decide (q = -1)&&(decide (cur = -1)||decide (cost+q<cur)))=true then cost+q else cur
def edgeR (t:List Int) (r:Int) (x:Edg):Int:=edgeStep (t.getD (x.word.uses.length - 1) 0) r x.cost
def restT:List (List Edg)→List Int
 | []=>[0]
 | es::g=>es.foldl (edgeR (restT g)) (-1)::restT g
def restV (g:List (List Edg)) (i:Nat):Int:=(restT (g.drop i)).headD 0
theorem restT_get:∀ (g:List (List Edg)) (i:Nat),i≤g.length→(restT g)[i]?=some (restV g i)
 | [],i,h=>by
   have:i=0:=by simpa using h
   subst this;rfl
 | es::g,0,_=>by simp [restT,restV]
 | es::g,i+1,h=>by
   have:=restT_get g i (by simpa using h)
   simp only [restT,List.getElem?_cons_succ]
   rw [this]
   rfl
theorem restV_drop (g:List (List Edg)) (a i:Nat):restV (g.drop a) i=restV g (a+i):=by unfold restV;rw [List.drop_drop]
theorem restV_end (g:List (List Edg)):restV g g.length=0:=by unfold restV;rw [List.drop_length];rfl
theorem edgeStep_bound {q cur cost B:Int} (h1:-1≤q) (h2:q≤B) (h3:-1≤cur) (h4:cur≤B+18000) (h5:0≤cost) (h6:cost≤18000):-1≤edgeStep q cur cost∧edgeStep q cur cost≤B+18000:=by
 unfold edgeStep
 split
 ·omega
 ·omega
theorem foldR_bound {t:List Int} {B:Int} (hB:0≤B) (ht:∀ v∈t,-1≤v∧v≤B):∀ (es:List Edg) (r:Int),-1≤r→r≤B+18000→(∀ x∈es,0≤x.cost∧x.cost≤18000)→-1≤es.foldl (edgeR t) r∧es.foldl (edgeR t) r≤B+18000
 | [],r,h1,h2,_=>⟨h1,h2⟩
 | x::es,r,h1,h2,hx=>by
   have hq:-1≤t.getD (x.word.uses.length - 1) 0∧t.getD (x.word.uses.length - 1) 0≤B:=by
    by_cases h:x.word.uses.length - 1<t.length
    ·have:=ht _ (List.getElem_mem h)
     simp [List.getD,List.getElem?_eq_getElem h];exact this
    ·simp [List.getD,List.getElem?_eq_none (Nat.le_of_not_lt h)];omega
   have hc:=hx x (by simp)
   obtain ⟨h3,h4⟩:=edgeStep_bound hq.1 hq.2 h1 h2 hc.1 hc.2
   exact foldR_bound hB ht es _ h3 h4 fun y hy=>hx y (by simp [hy])
theorem restT_bound:∀ (g:List (List Edg)),(∀ es∈g,∀ x∈es,0≤x.cost∧x.cost≤18000)→∀ v∈restT g,-1≤v∧v≤18000*(g.length:Int)
 | [],_,v,hv=>by simp [restT] at hv;subst hv;simp
 | es::g,h,v,hv=>by
   have ih:=restT_bound g fun e he=>h e (by simp [he])
   simp only [restT,List.mem_cons] at hv
   rcases hv with rfl|hv
   ·have:=foldR_bound (B:=18000*(g.length:Int)) (by omega) ih es (-1) (by omega) (by omega) (h es (by simp))
    simp only [List.length_cons];omega
   ·have:=ih v hv
    simp only [List.length_cons];omega
def encEdgs (es:List Edg):List AV:=[.sl 7 none (es.map encEdg)]
theorem VLe.iptr {xs ys:List AV} (h:VsLe xs ys):VLe (.iptr xs) (.iptr ys):=by
 intro c u hu
 simp only [Rep] at hu ⊢
 obtain ⟨b,o,hv,hr⟩:=hu
 exact ⟨b,o,hv,h.repCs hr⟩
structure LineOK (H:Hou) (line:List Int):Prop where
 hou:HouOK H
 few:line.length≤60
 signs:∀ s∈line,0≤s∧s<H.list.signs.length
end Go.Abs.Wall
namespace Go.Abs.Wall
open Go Go.Abs Go.Proofs
end Go.Abs.Wall
namespace Go.Abs.Wall
open Go Go.Abs Go.Proofs
def encForest (G:List (List Edg)) (R:List Int):List AV:=[.sl 1 none (G.map encEdgs),.sl 1 none (ints R)]
structure Way where
 cost:Int
 edge:Int
 rank:Int
def c251:Cfg:=⟨[0,1,2,4,6,7,8,9,10,11,17,31],[],[],[],[(5,[0,1,2,3,4,5,6,7],[]),(8,[0,1,2,3,4,5,6,7,8,9,10,11,12,13,14,15],[])],[]⟩
def c252:Cfg:=⟨[0,1,2,6,7,8,9,16,22,31,68],[],[],[],[(11,[0,1,2,3,4,5,6,7,8],[]),(15,[0,1,2,3,4,5,6,7,8],[])],[]⟩
def c215:Cfg:=⟨[0,1,3,4],[],[],[],[(1,[0,1,2,3,4,5,6,7,8,9,10,11,12,13,14],[]),(2,[0,1,2,3,4,5,6,7,8,9,10,11],[])],[27]⟩
end Go.Abs.Wall
namespace Go.Abs.Wall
open Go Go.Abs Go.Proofs
def ins {α:Type} (cmp:α→α→Int) (a:α):List α→List α
 | []=>[a]
 | b::t=>if cmp b a<0 then b::ins cmp a t else a::b::t
def isort {α:Type} (cmp:α→α→Int):List α→List α
 | []=>[]
 | a::t=>ins cmp a (isort cmp t)
theorem ins_perm {α:Type} {cmp:α→α→Int} {a:α}:∀ {l:List α},(ins cmp a l).Perm (a::l)
 | []=>.refl _
 | b::t=>by
   unfold ins
   split
   ·exact (List.Perm.cons _ ins_perm).trans (.swap _ _ _)
   ·exact .refl _
theorem isort_perm {α:Type} {cmp:α→α→Int}:∀ {l:List α},(isort cmp l).Perm l
 | []=>.refl _
 | a::t=>ins_perm.trans (List.Perm.cons _ isort_perm)
theorem ins_sorted {α:Type} {cmp:α→α→Int} (h:OrdW cmp) {a:α}:∀ {l:List α},l.Pairwise (fun x y=>¬ cmp y x<0)→(ins cmp a l).Pairwise fun x y=>¬ cmp y x<0
 | [],_=>by simp [ins]
 | b::t,hl=>by
   rw [List.pairwise_cons] at hl
   unfold ins
   split
   ·rename_i hc
    rw [List.pairwise_cons]
    refine ⟨fun x hx=>?_,ins_sorted h hl.2⟩
    rcases List.mem_cons.1 (ins_perm.mem_iff.1 hx) with rfl|hx
    ·exact fun h2=>h.irr _ (h.tr _ _ _ hc h2)
    ·exact hl.1 x hx
   ·rename_i hc
    rw [List.pairwise_cons,List.pairwise_cons]
    refine ⟨fun x hx=>?_,hl⟩
    rcases List.mem_cons.1 hx with rfl|hx
    ·exact hc
    ·exact h.nt _ _ _ (hl.1 x hx) hc
theorem isort_sorted {α:Type} {cmp:α→α→Int} (h:OrdW cmp):∀ {l:List α},(isort cmp l).Pairwise fun x y=>¬ cmp y x<0
 | []=>.nil
 | a::t=>ins_sorted h (isort_sorted h)
theorem OrdW.isort {α:Type} {cmp:α→α→Int} (h:OrdW cmp) {l:List α} (ha:∀ x∈l,∀ y∈l,¬ cmp x y<0→¬ cmp y x<0→x=y):sortL cmp l=Wall.isort cmp l:=(h.unique ha isort_perm (isort_sorted h)).symm
theorem usesM_i (p:Int) (s:Sgn):usesM p s=isort useCmp (useGo p s.values):=zU.c.w.isort fun x _ y _=>zU.c.anti x y
end Go.Abs.Wall
namespace Go.Abs.Wall
open Go Go.Abs Go.Proofs
def c101:Cfg:=⟨[0,1,4,5,9],[],[4],[],[],[]⟩
def c52:Cfg:=⟨[0,1,2],[4,7,10,13,16,19,22,26],[0,1,2],[],[],[4,7,10,13,16,19,22,26]⟩
theorem signA1 (code t:List UInt8) (k:Int) (b:Nat):ACalls Tryz.prog 101 [.str code,.osl b 0 1 4] [(b,.vec [.int .i64 k,.str t,.int .i64 0,.int .i64 0])] (fun v h'=>v=.agg (encSgn ⟨code,1,1,false,[⟨k,t,1,1⟩]⟩)∧h'=[]):=by
 refine ACalls.frz (R:=fun v h'=>v=.agg [.str code,.int .i64 1,.int .i64 1,.bool false,.osl b 0 1 4]∧h'=[(b,.vec [.int .i64 k,.str t,.int .i64 1,.int .i64 1])]) ?_ ?_
 ·refine fcalls (F:=Tryz.f101) c101 rfl rfl rfl mixed rfl fun X=>?_
  conv=>whnf
  intro rb
  conv=>whnf
  refine uloop 60 rfl mixed ?_
  conv=>whnf
  refine .inr ?_
  conv=>whnf
  refine cT rfl ?_
  conv=>whnf
  repeat ((first|refine ⟨gP_of ⟨by omega,by omega⟩,?_⟩|(refine ⟨0,gP_of ⟨rfl,by decide⟩,?_⟩)|(refine ⟨_,_,.there (.here _),leOK,?_⟩));conv=>whnf)
  refine .inr ?_
  conv=>whnf
  refine cF rfl ?_
  conv=>whnf
  repeat (refine ⟨_,_,Rem.here _,⟨Nat.le_of_ble_eq_true rfl,rfl⟩,?_⟩;conv=>whnf)
  exact ⟨rfl,rfl⟩
 ·rintro v h1 ⟨rfl,rfl⟩
  exact ⟨b,_,[],[],_,.here _,.nil,.agg (.cons (.refl _) (.cons (.refl _) (.cons (.refl _) (.cons (.refl _) (.cons (.row (xs':=[]) (pre:=[]) (post:=[]) (xs:=[[.int .i64 k,.str t,.int .i64 1,.int .i64 1]]) rfl rfl rfl (by simp)) .nil))))),rfl,rfl⟩
theorem signA2 (code t t2:List UInt8) (k k2:Int) (b:Nat):ACalls Tryz.prog 101 [.str code,.osl b 0 2 4] [(b,.vec [.int .i64 k,.str t,.int .i64 0,.int .i64 0,.int .i64 k2,.str t2,.int .i64 0,.int .i64 0])] (fun v h'=>v=.agg (encSgn ⟨code,1,1,false,[⟨k,t,1,1⟩,⟨k2,t2,1,1⟩]⟩)∧h'=[]):=by
 refine ACalls.frz (R:=fun v h'=>v=.agg [.str code,.int .i64 1,.int .i64 1,.bool false,.osl b 0 2 4]∧h'=[(b,.vec [.int .i64 k,.str t,.int .i64 1,.int .i64 1,.int .i64 k2,.str t2,.int .i64 1,.int .i64 1])]) ?_ ?_
 ·refine fcalls (F:=Tryz.f101) c101 rfl rfl rfl mixed rfl fun X=>?_
  conv=>whnf
  intro rb
  conv=>whnf
  refine uloop 60 rfl mixed ?_
  conv=>whnf
  refine .inr ?_
  conv=>whnf
  refine cT rfl ?_
  conv=>whnf
  repeat ((first|refine ⟨gP_of ⟨by omega,by omega⟩,?_⟩|(refine ⟨0,gP_of ⟨rfl,by decide⟩,?_⟩)|(refine ⟨_,_,.there (.here _),leOK,?_⟩));conv=>whnf)
  refine .inr ?_
  conv=>whnf
  refine cT rfl ?_
  conv=>whnf
  repeat ((first|refine ⟨gP_of ⟨by omega,by omega⟩,?_⟩|(refine ⟨1,gP_of ⟨rfl,by decide⟩,?_⟩)|(refine ⟨_,_,.there (.here _),leOK,?_⟩));conv=>whnf)
  refine .inr ?_
  conv=>whnf
  refine cF rfl ?_
  conv=>whnf
  repeat (refine ⟨_,_,Rem.here _,⟨Nat.le_of_ble_eq_true rfl,rfl⟩,?_⟩;conv=>whnf)
  exact ⟨rfl,rfl⟩
 ·rintro v h1 ⟨rfl,rfl⟩
  exact ⟨b,_,[],[],_,.here _,.nil,.agg (.cons (.refl _) (.cons (.refl _) (.cons (.refl _) (.cons (.refl _) (.cons (.row (xs':=[]) (pre:=[]) (post:=[]) (xs:=[[.int .i64 k,.str t,.int .i64 1,.int .i64 1],[.int .i64 k2,.str t2,.int .i64 1,.int .i64 1]]) rfl rfl rfl (by simp)) .nil))))),rfl,rfl⟩
def exS (code:List UInt8) (l:List Val):Sgn:=⟨code,1,1,false,l⟩
def exH:Hou:=⟨⟨1,[exS [65,49] [⟨1,[110],1,1⟩],exS [66,49] [⟨1,[110,102,114],1,1⟩],exS [67,49] [⟨1,[102],1,1⟩],exS [68,49] [⟨1,[114],1,1⟩],
  exS [69,49] [⟨2,[110,102,114],1,1⟩],exS [70,49] [⟨3,[103,111,111,100],1,1⟩],exS [71,49] [⟨1,[116],1,1⟩],exS [72,49] [⟨1,[110],1,1⟩,⟨2,[110],1,1⟩]]⟩,
 ⟨[⟨[110,102,114],1,[103,111,111,100],2⟩,⟨[110],2,[],1⟩],[⟨1,[116],[102,101,109],1⟩],[⟨[102],[104,105,115],3⟩]⟩,⟨1,0,0,0,4⟩,1⟩
theorem exampleW:QCall Tryz.prog 52 [] [] (.agg (encHou exH)):=by
 refine QCall.of' ?_
 refine fcalls (F:=Tryz.f52) c52 rfl rfl rfl mixed rfl fun X=>?_
 conv=>whnf
 intro rb
 conv=>whnf
 repeat ((first|(intro (nb:Nat))|(refine ACalls.mono ?_ (ACalls.frame (signA1 _ _ _ _) _);rintro v h1 ⟨h2,⟨rfl,rfl⟩,rfl⟩)|(refine ACalls.mono ?_ (ACalls.frame (signA2 _ _ _ _ _ _) _);rintro v h1 ⟨h2,⟨rfl,rfl⟩,rfl⟩)|refine ⟨_,_,Rem.here _,⟨Nat.le_of_ble_eq_true rfl,rfl⟩,?_⟩);conv=>whnf)
 rfl
def exE (to cost:Int) (l:List Use):Edg:=⟨0,to,cost,⟨⟨0,-1,[]⟩,l⟩⟩
end Go.Abs.Wall
namespace Go.Abs.Wall
open Go Go.Abs Go.Proofs
def c147:Cfg:=⟨[0,2,3,4,5,6,7,8,16,17,18,29,30,31,32,45],[11,22],[7],[],[(9,[0,1,2,3,4,5,6,7,8],[]),(11,[0,1,2,3,4,5,6,7,8,9],[])],[55]⟩
def c216:Cfg:=⟨[0,1,2,6,7,8,9,10,11,12,22,39,43,83,105],[],[9,10,11],[],[(7,[0,1,2,3,4,5,6,7,8,9,10,11,12,13],[9]),(8,[0,1,2,3,4,5,6,7,8,9,10,11,12,13,14,15],[10]),(11,[0,1,2,3,4,5,6,7,8,9,10,11,12,13,14],[]),(14,[0,1,2,3,4,5,6,7,8,9,10,11,12,13,14,15,16],[])],[]⟩
end Go.Abs.Wall
namespace Go.Abs.Wall
open Go Go.Abs Go.Proofs
structure Rdg where
 words:List Wrd
 cost:Int
end Go.Abs.Wall
