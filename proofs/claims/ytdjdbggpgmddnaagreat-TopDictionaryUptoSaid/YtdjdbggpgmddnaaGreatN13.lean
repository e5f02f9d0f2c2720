/- Small laws for the walks and contracts of functions; each theorem names its conditions. -/
import Derived.Test.YtdjdbggpgmddnaaGreatN12
set_option maxRecDepth 100000
set_option maxHeartbeats 2000000
set_option linter.unusedVariables false
set_option linter.unusedSimpArgs false
namespace Go.Abs.Wall
open Go Go.Abs Go.Proofs
def sortL {α:Type} (cmp:α->α->Int) (l:List α):List α:=l.mergeSort fun a b=>!decide (cmp b a<0)
structure OrdC {α:Type} (cmp:α->α->Int):Prop where
 irr:∀ x,¬ cmp x x<0
 tr:∀ x y z,cmp x y<0->cmp y z<0->cmp x z<0
 nt:∀ x y z,¬ cmp x y<0->¬ cmp y z<0->¬ cmp x z<0
 anti:∀ x y,¬ cmp x y<0->¬ cmp y x<0->x=y
structure OrdW {α:Type} (cmp:α->α->Int):Prop where
 irr:∀ x,¬ cmp x x<0
 tr:∀ x y z,cmp x y<0->cmp y z<0->cmp x z<0
 nt:∀ x y z,¬ cmp x y<0->¬ cmp y z<0->¬ cmp x z<0
theorem OrdC.w {α:Type} {cmp:α->α->Int} (h:OrdC cmp):OrdW cmp:=⟨h.irr,h.tr,h.nt⟩
theorem sortL_perm {α:Type} {cmp:α->α->Int} {l:List α}:(sortL cmp l).Perm l:=List.mergeSort_perm _ _
theorem OrdW.sorted {α:Type} {cmp:α->α->Int} (h:OrdW cmp) (l:List α):(sortL cmp l).Pairwise fun x y=>¬ cmp y x<0:=by
 have:=List.pairwise_mergeSort (le:=fun a b=>!decide (cmp b a<0)) (by
  intro a b c h1 h2;simp only [Bool.not_eq_true',decide_eq_false_iff_not] at h1 h2 ⊢;exact h.nt c b a h2 h1) (by
  intro a b;simp only [Bool.or_eq_true,Bool.not_eq_true',decide_eq_false_iff_not];by_cases hc:cmp b a<0
  ·exact .inr fun h2=>h.irr _ (h.tr _ _ _ hc h2)
  exact .inl hc) l
 refine List.Pairwise.imp ?_ this;intro a b hab;simpa using hab
theorem OrdW.unique {α:Type} {cmp:α->α->Int} (h:OrdW cmp) {l l':List α} (ha:∀ x∈l,∀ y∈l,¬ cmp x y<0->¬ cmp y x<0->x=y) (hp:l'.Perm l) (hs:l'.Pairwise fun x y=>¬ cmp y x<0):l'=sortL cmp l:=
 List.Perm.eq_of_pairwise (le:=fun x y=>¬ cmp y x<0) (fun a b h3 h4 h1 h2=>ha a (hp.mem_iff.1 h3) b (sortL_perm.mem_iff.1 h4) h2 h1) hs (h.sorted l) (hp.trans sortL_perm.symm)
theorem sortL_length {α:Type} {cmp:α->α->Int} {l:List α}:(sortL cmp l).length=l.length:=sortL_perm.length_eq
theorem sortL_mem {α:Type} {cmp:α->α->Int} {l:List α} {a:α}:a∈sortL cmp l↔a∈l:=sortL_perm.mem_iff
section
variable {f g k:Nat} {α:Type} {enc:α->List AV} {dec:List AV->α}
theorem sortF_encW (hk0:0<k) (hf:Callable Tryz.prog f) (hg:Callable Tryz.prog g) (hs:SortLaw Tryz.prog f g k) (cmp:α->α->Int) (hd:∀ a,dec (enc a)=a) (hk:∀ a,(enc a).length=k) (ho:OrdW cmp) (xs:List α) (ha:∀ x∈xs,∀ y∈xs,¬ cmp x y<0->¬ cmp y x<0->x=y) (hne:xs≠[]) (hlx:xs.length<=4294967296)
  (hcmp:∀ x∈xs,∀ y∈xs,QCall Tryz.prog g [.agg (enc x),.agg (enc y)] [] (.int .i64 (cmp x y))) (b:Nat) :
  ACalls Tryz.prog f [.osl b 0 xs.length k,.fn g []] [(b,.vec (xs.map enc).flatten)] (fun v h'=>v=.tup []/\h'=[(b,.vec ((sortL cmp xs).map enc).flatten)]):=by
 have hinv:∀ x∈xs.map enc,enc (dec x)=x:=by intro x hx;obtain ⟨a,_,rfl⟩:=List.mem_map.1 hx;rw [hd]
 have h1:=sortF_acalls hk0 hf hg hs (fun x y=>cmp (dec x) (dec y)) (xs.map enc) (by
   intro x hx;obtain ⟨a,_,rfl⟩:=List.mem_map.1 hx;exact hk a) (by simpa using hne) (by simpa using hlx) (by
   intro x hx y hy;obtain ⟨a,ha,rfl⟩:=List.mem_map.1 hx;obtain ⟨c,hc,rfl⟩:=List.mem_map.1 hy;rw [hd,hd];exact hcmp a ha c hc) (fun x _=>ho.irr _) (fun x _ y _ z _=>ho.tr _ _ _) (fun x _ y _ z _=>ho.nt _ _ _) b
 rw [List.length_map] at h1;refine ACalls.mono ?_ h1;rintro v h' ⟨rfl,ys,rfl,hp,hy⟩;refine ⟨rfl,?_⟩;have hys:ys=(ys.map dec).map enc:=by rw [List.map_map];symm;refine (List.map_congr_left fun y hy=>?_).trans (List.map_id _);exact hinv y (hp.mem_iff.1 hy)
 have hp2:(ys.map dec).Perm xs:=by have:=hp.map dec;rw [List.map_map] at this;refine this.trans (List.Perm.of_eq ?_);refine (List.map_congr_left fun a _=>?_).trans (List.map_id _);exact hd a
 have hs2:(ys.map dec).Pairwise fun x y=>¬ cmp y x<0:=by rw [List.pairwise_map];exact hy
 rw [ho.unique ha hp2 hs2] at hys;rw [hys]
theorem sortF_enc (hk0:0<k) (hf:Callable Tryz.prog f) (hg:Callable Tryz.prog g) (hs:SortLaw Tryz.prog f g k) (cmp:α->α->Int) (hd:∀ a,dec (enc a)=a) (hk:∀ a,(enc a).length=k) (ho:OrdC cmp) (xs:List α) (hne:xs≠[]) (hlx:xs.length<=4294967296)
  (hcmp:∀ x∈xs,∀ y∈xs,QCall Tryz.prog g [.agg (enc x),.agg (enc y)] [] (.int .i64 (cmp x y))) (b:Nat) :
  ACalls Tryz.prog f [.osl b 0 xs.length k,.fn g []] [(b,.vec (xs.map enc).flatten)] (fun v h'=>v=.tup []/\h'=[(b,.vec ((sortL cmp xs).map enc).flatten)]):=
 sortF_encW hk0 hf hg hs cmp hd hk ho.w xs (fun x _ y _=>ho.anti x y) hne hlx hcmp b
end
theorem cmpI_lt {a b:Int}:cmpI a b<0↔a<b:=by unfold cmpI;split<;>(try split)<;>omega
theorem cmpI_zero {a b:Int}:cmpI a b=0↔a=b:=by unfold cmpI;split<;>(try split)<;>omega
theorem cmpS_lt {a b:List UInt8}:cmpS a b<0↔a<b:=by
 unfold cmpS;by_cases h:a<b
 ·simp [h]
 rw [if_neg h];split<;>simp [h]
theorem cmpS_zero {a b:List UInt8}:cmpS a b=0↔a=b:=by
 unfold cmpS;by_cases h:a<b
 ·rw [if_pos h];exact ⟨fun h=>(by cases h),fun e=>(by subst e;exact absurd h (List.lt_irrefl _))⟩
 rw [if_neg h];split<;>simp_all
structure OrdZ {α:Type} (c:α->α->Int):Prop where
 zero:∀ x y,c x y=0↔x=y
 sgn:∀ x y,c x y<0↔0<c y x
 tr:∀ x y z,c x y<0->c y z<0->c x z<0
theorem OrdZ.c {α:Type} {c:α->α->Int} (h:OrdZ c):OrdC c:=by
 have hn:∀ x y,¬ c x y<0->x=y\/c y x<0:=by
  intro x y hh;by_cases hz:c x y=0
  ·exact .inl ((h.zero _ _).1 hz)
  exact .inr ((h.sgn y x).2 (by omega))
 have hi:∀ x,¬ c x x<0:=fun x=>by have:=(h.zero x x).2 rfl;omega
 refine ⟨hi,h.tr,fun x y z a b=>?_,fun x y a b=>?_⟩
 ·rcases hn _ _ a with rfl|a
  ·exact b
  rcases hn _ _ b with rfl|b
  ·intro hh;exact hi _ (h.tr _ _ _ a hh)
  intro hh;exact hi _ (h.tr _ _ _ (h.tr _ _ _ b a) hh)
 rcases hn _ _ a with rfl|a
 ·rfl
 exact absurd a b
def lexC {β γ:Type} (c1:β->β->Int) (c2:γ->γ->Int) (a b:β × γ):Int:=if c1 a.1 b.1≠0 then c1 a.1 b.1 else c2 a.2 b.2
theorem OrdZ.lexC {β γ:Type} {c1:β->β->Int} {c2:γ->γ->Int} (h1:OrdZ c1) (h2:OrdZ c2):OrdZ (Wall.lexC c1 c2):=by
 have hlt:∀ a b,Wall.lexC c1 c2 a b<0↔c1 a.1 b.1<0\/(a.1=b.1/\c2 a.2 b.2<0):=by
  intro a b;unfold Wall.lexC;split
  ·rename_i h;have:a.1≠b.1:=fun e=>h ((h1.zero _ _).2 e);simp [this]
  rename_i h;have e0:c1 a.1 b.1=0:=(by simpa using h);have e:a.1=b.1:=(h1.zero _ _).1 e0;simp [e] at *;omega
 have hgt:∀ a b,0<Wall.lexC c1 c2 a b↔0<c1 a.1 b.1\/(a.1=b.1/\0<c2 a.2 b.2):=by
  intro a b;unfold Wall.lexC;split
  ·rename_i h;have:a.1≠b.1:=fun e=>h ((h1.zero _ _).2 e);simp [this]
  rename_i h;have e0:c1 a.1 b.1=0:=(by simpa using h);have e:a.1=b.1:=(h1.zero _ _).1 e0;simp [e] at *;omega
 refine ⟨fun a b=>?_,fun a b=>?_,fun a b d x y=>?_⟩
 ·unfold Wall.lexC;split
  ·rename_i h;exact ⟨fun e=>absurd e h,fun e=>by subst e;exact absurd ((h1.zero _ _).2 rfl) h⟩
  rename_i h;have e:a.1=b.1:=(h1.zero _ _).1 (by simpa using h);rw [h2.zero];exact ⟨fun e2=>Prod.ext e e2,fun e2=>by rw [e2]⟩
 ·rw [hlt,hgt,h1.sgn,h2.sgn];constructor
  ·rintro (h|⟨h,h'⟩)
   ·exact .inl h
   exact .inr ⟨h.symm,h'⟩
  rintro (h|⟨h,h'⟩)
  ·exact .inl h
  exact .inr ⟨h.symm,h'⟩
 rw [hlt] at x y ⊢;rcases x with x|⟨ex,x⟩<;>rcases y with y|⟨ey,y⟩
 ·exact .inl (h1.tr _ _ _ x y)
 ·exact .inl (by rw [<- ey];exact x)
 ·exact .inl (by rw [ex];exact y)
 exact .inr ⟨ex.trans ey,h2.tr _ _ _ x y⟩
theorem OrdZ.of {α β:Type} {c:β->β->Int} (h:OrdZ c) (f:α->β) (hf:∀ a b,f a=f b->a=b):OrdZ fun a b=>c (f a) (f b):=
 ⟨fun a b=>by rw [h.zero];exact ⟨hf a b,fun e=>by rw [e]⟩,fun a b=>h.sgn _ _,fun a b d=>h.tr _ _ _⟩
def cmpL {α:Type} (c:α->α->Int):List α->List α->Int
 | [],[]=>0
 | [],_::_=>-1
 | _::_,[]=>1
 | a::s,b::t=>if c a b≠0 then c a b else cmpL c s t
theorem OrdZ.cmpL {α:Type} {c:α->α->Int} (h:OrdZ c):OrdZ (Wall.cmpL c):=by
 have hz:∀ x y,Wall.cmpL c x y=0↔x=y:=by
  intro x;induction x with
  | nil=>intro y;cases y<;>simp [Wall.cmpL]
  | cons a s ih=>
    intro y;cases y with
    | nil=>simp [Wall.cmpL]
    | cons b t=>
      unfold Wall.cmpL;split
      ·rename_i hn;exact ⟨fun e=>absurd e hn,fun e=>by cases e;exact absurd ((h.zero _ _).2 rfl) hn⟩
      rename_i hn;have e:a=b:=(h.zero _ _).1 (by simpa using hn);rw [ih];simp [e]
 have hs:∀ x y,Wall.cmpL c x y<0↔0<Wall.cmpL c y x:=by
  intro x;induction x with
  | nil=>intro y;cases y<;>simp [Wall.cmpL]
  | cons a s ih=>
    intro y;cases y with
    | nil=>simp [Wall.cmpL]
    | cons b t=>
      unfold Wall.cmpL;have hzz:c a b=0↔c b a=0:=by rw [h.zero,h.zero];exact ⟨Eq.symm,Eq.symm⟩
      by_cases hn:c a b=0
      ·rw [if_neg (by simpa using hn),if_neg (by simpa using hzz.1 hn)];exact ih t
      rw [if_pos hn,if_pos (fun e=>hn (hzz.2 e))];exact h.sgn _ _
 refine ⟨hz,hs,?_⟩;intro x;induction x with
 | nil=>
   intro y z h1 h2;cases y with
   | nil=>simp [Wall.cmpL] at h1
   | cons b t=>cases z with
     | nil=>simp [Wall.cmpL] at h2
     | cons d u=>simp [Wall.cmpL]
 | cons a s ih=>
   intro y z h1 h2;cases y with
   | nil=>simp [Wall.cmpL] at h1
   | cons b t=>cases z with
     | nil=>simp [Wall.cmpL] at h2
     | cons d u=>
       unfold Wall.cmpL at h1 h2 ⊢;have hirr:∀ x,¬ c x x<0:=fun x=>by have:=(h.zero x x).2 rfl;omega
       by_cases e1:c a b=0
       ·have e1':=(h.zero _ _).1 e1;subst e1';rw [if_neg (by simpa using e1)] at h1;by_cases e2:c a d=0
        ·rw [if_neg (by simpa using e2)] at h2 ⊢;exact ih t u h1 h2
        rw [if_pos e2] at h2 ⊢;exact h2
       rw [if_pos e1] at h1;by_cases e2:c b d=0
       ·have e2':=(h.zero _ _).1 e2;subst e2';rw [if_pos e1];exact h1
       rw [if_pos e2] at h2;have h3:=h.tr _ _ _ h1 h2;rw [if_pos (by omega)];exact h3
theorem zI:OrdZ cmpI:=⟨fun _ _=>cmpI_zero,fun x y=>by unfold cmpI;split<;>(try split)<;>(try split)<;>omega,fun x y z=>by rw [cmpI_lt,cmpI_lt,cmpI_lt];omega⟩
theorem zS:OrdZ cmpS:=⟨fun _ _=>cmpS_zero,fun x y=>by
  rw [cmpS_lt];unfold cmpS;by_cases h:y<x
  ·rw [if_pos h];exact ⟨fun h2=>absurd (List.lt_trans h h2) (List.lt_irrefl _),fun h2=>by omega⟩
  rw [if_neg h];by_cases e:y=x
  ·rw [if_pos e,e];exact ⟨fun h2=>absurd h2 (List.lt_irrefl _),fun h2=>by omega⟩
  rw [if_neg e];refine ⟨fun _=>by omega,fun _=>?_⟩;refine Classical.byContradiction fun hx=>?_;rw [List.not_lt] at h hx;exact e (List.le_antisymm hx h),
 fun x y z=>by rw [cmpS_lt,cmpS_lt,cmpS_lt];exact List.lt_trans⟩
theorem orI2 (x y:Int):orI [x,y]=if x≠0 then x else y:=by
 simp only [orI];split
 ·rfl
 split
 ·rfl
 omega
theorem zU:OrdZ useCmp:=by
 have h:=(OrdZ.lexC zI zS).of (fun u:Use=>(u.kind,u.text)) (fun a b h=>by cases a;cases b;simp_all);have he:useCmp=fun a b=>lexC cmpI cmpS (a.kind,a.text) (b.kind,b.text):=by funext a b;exact orI2 _ _
 rw [he];exact h
def decUse:List AV->Use
 | [.int _ k,.str t]=>⟨k,t⟩
 | _=>⟨0,[]⟩
def sortU (l:List Use):List Use:=sortL useCmp l
theorem sortLawU:SortLaw Tryz.prog 138 139 2:=
 sortLaw Tryz.sortUse 2 139 Tryz.isAgg234 Tryz.sizeOf234 (fun args w=>run_call ⟨Tryz.f139,_,rfl,rfl,rfl⟩)
def c138:Cfg:=⟨[0,1,4],[],[],[],[],[]⟩
def c150:Cfg:=⟨[0,1,2,3,4,10,11,12,13,14,15,16,17,18,19,20,25,32,39,56,75,80,97,125],[],[],[],[(17,[0,1,2,3,4,5,6,7,8,9,10,11,12,13,14,15,16],[])],[]⟩
def c144:Cfg:=⟨[0,2],[],[],[],[],[]⟩
def c166:Cfg:=⟨[0,2,4,8,14],[],[],[],[],[]⟩
def c168:Cfg:=⟨[0,1,2,3,8,9,14,34],[],[],[],[(4,[0,1,2,3,4,5,6,7,8,9,10,11,12,13,14,15,16],[]),(6,[0,1,2,3,4,5,6,7,8,9,10,11,12,13,14,15,16,17],[])],[]⟩
theorem bitsLen64:QCall Tryz.prog 166 [.int .u64 0] [] (.int .i64 0):=by
 refine fcalls (F:=Tryz.f166) c166 rfl rfl rfl mixed rfl fun X=>?_;(conv=>whnf);refine cF rfl ?_;(conv=>whnf);refine cF rfl ?_;(conv=>whnf);refine cF rfl ?_;(conv=>whnf);repeat ((first|(refine ⟨0,0,gP_of ⟨rfl,rfl⟩,?_⟩)|(refine ⟨gP_of ⟨by decide,by decide⟩,?_⟩));conv=>whnf)
 exact ⟨rfl,rfl⟩
theorem bitsLen:QCall Tryz.prog 144 [.int .u64 0] [] (.int .i64 0):=by
 refine fcalls (F:=Tryz.f144) c144 rfl rfl rfl mixed rfl fun X=>?_;(conv=>whnf);refine cF rfl ?_;(conv=>whnf);repeat (refine QCall.k0 (bitsLen64) ?_;conv=>whnf)
 exact ⟨rfl,rfl⟩
theorem insNil (c:FuncId):QCall Tryz.prog 168 [.nilS,.int .i64 0,.int .i64 0,.fn c []] [] (.tup []):=by
 refine fcalls (F:=Tryz.f168) c168 rfl rfl rfl mixed rfl fun X=>?_;(conv=>whnf);repeat (refine ⟨gP_of ⟨by omega,by omega⟩,?_⟩;conv=>whnf)
 refine sloop rfl mixed [0,1,2,3,8] [] (fun m r h=>r=[(0,[],.nilS),(1,[],.int .i64 0),(2,[],.int .i64 0),(3,[],.fn c []),(8,[],.int .i64 1)]/\h=[]/\m=0/\True) ?_ ?_
 ·(conv=>whnf);exact ⟨_,rfl,rfl,rfl,trivial⟩
 rintro m r h ⟨rfl,rfl,rfl,_⟩;(conv=>whnf);refine cF rfl ?_;(conv=>whnf);exact ⟨rfl,rfl⟩
theorem pdqNil (c:FuncId):QCall Tryz.prog 150 [.nilS,.int .i64 0,.int .i64 0,.int .i64 0,.fn c []] [] (.tup []):=by
 refine fcalls (F:=Tryz.f150) c150 rfl rfl rfl mixed rfl fun X=>?_;(conv=>whnf);skip;refine sloop rfl mixed [0,1,2,3,4,10,11] [] (fun m r h=>r=[(0,[],.nilS),(1,[],.int .i64 0),(2,[],.int .i64 0),(3,[],.int .i64 0),(4,[],.fn c []),(10,[],.bool true),(11,[],.bool true)]/\h=[]/\m=0/\True) ?_ ?_
 ·(conv=>whnf);exact ⟨_,rfl,rfl,rfl,trivial⟩
 rintro m r h ⟨rfl,rfl,rfl,_⟩;(conv=>whnf);repeat (refine ⟨gP_of ⟨by omega,by omega⟩,?_⟩;conv=>whnf)
 refine cT rfl ?_;(conv=>whnf);repeat (refine QCall.k0 (insNil c) ?_;conv=>whnf)
 exact ⟨rfl,rfl⟩
theorem sortNilU (c:FuncId):QCall Tryz.prog 138 [.nilO,.fn c []] [] (.tup []):=by
 refine QCall.args (args':=[.nilS,.fn c []]) ?_ (.cons (by intro c u h;simpa [Rep] using h) (.cons (VLe.refl _) .nil));refine fcalls (F:=Tryz.f138) c138 rfl rfl rfl mixed rfl fun X=>?_;(conv=>whnf);repeat ((first|refine QCall.k0 (bitsLen) ?_|refine QCall.k0 (pdqNil c) ?_);conv=>whnf)
 exact ⟨rfl,rfl⟩
theorem sortOwnU (b:Nat) (xs:List Use) (hne:xs≠[]) (hlx:xs.length<=4294967296) :
  ACalls Tryz.prog 138 [.osl b 0 xs.length 2,.fn 139 []] [(b,.vec (xs.map encUse).flatten)] (fun v h'=>v=.tup []/\h'=[(b,.vec ((sortU xs).map encUse).flatten)]):=
 sortF_enc (by decide) ⟨Tryz.f138,_,rfl,rfl,rfl⟩ ⟨Tryz.f139,_,rfl,rfl,rfl⟩ sortLawU useCmp (dec:=decUse) (fun a=>rfl) (fun a=>rfl) zU.c xs hne hlx (fun x _ y _=>compareUses x y) b
end Go.Abs.Wall
namespace Go.Abs.Wall
open Go Go.Abs Go.Proofs
structure Cos where
 spell:Int
 stand:Int
 rpt:Int
 cls:Int
 opn:Int
structure Hou where
 list:Lst
 lex:Lex
 costs:Cos
 period:Int
def encCos (c:Cos):List AV:=[.int .i64 c.spell,.int .i64 c.stand,.int .i64 c.rpt,.int .i64 c.cls,.int .i64 c.opn]
def encHou (H:Hou):List AV:=encLst H.list++(encLex H.lex++(encCos H.costs++[.int .i64 H.period]))
structure HouFit (H:Hou):Prop where
 list:LstFit H.list
 lex:LexFit H.lex
def costL (c:Cos):List Int:=[c.spell,c.stand,c.rpt,c.cls,c.opn]
def houErr (H:Hou):Int:=
 if lstErr H.list≠0 then lstErr H.list
 else if lexErr H.lex≠0 then lexErr H.lex
 else if (costL H.costs).all (wthn · 0 1000)=false then 50
 else if wthn H.period 1 H.list.periods=false then 13
 else 0
def c28:Cfg:=⟨[0,1,2,3,4,6,11,17,34,35,36,37,42,50],[],[],[],[],[]⟩
theorem checkHouse (H:Hou) (hh:HouFit H):QCall Tryz.prog 28 [.agg (encHou H)] [] (.int .i64 (houErr H)):=by
 refine fcalls (F:=Tryz.f28) c28 rfl rfl rfl mixed rfl fun X=>?_;(conv=>whnf);repeat (refine QCall.k0 (signsCheck H.list hh.list) ?_;conv=>whnf)
 refine ⟨fun hc=>?_,fun hc=>?_⟩<;>simp at hc
 ·(conv=>whnf);exact ⟨by rw [houErr,if_pos hc],rfl⟩
 (conv=>whnf);repeat (refine QCall.k0 (lexCheck H.lex hh.lex) ?_;conv=>whnf)
 refine ⟨fun hd=>?_,fun hd=>?_⟩<;>simp at hd
 ·(conv=>whnf);exact ⟨by rw [houErr,if_neg (by omega),if_pos hd],rfl⟩
 have h0:houErr H=if (costL H.costs).all (wthn · 0 1000)=false then 50 else if wthn H.period 1 H.list.periods=false then 13 else 0:=(by rw [houErr,if_neg (by omega),if_neg (by omega)]);(conv=>whnf);skip;refine sloop rfl mixed [1,34,35,36] [] (fun m r h=>∃ (i:Nat),r=[(1,[],.iptr (encHou H)),(34,[],.sl 1 none (ints (costL H.costs))),(35,[],.int .i64 5),(36,[],.int .i64 i)]/\h=[]/\m=5 - i/\i<=5/\(costL H.costs).all (wthn · 0 1000)=((costL H.costs).drop i).all (wthn · 0 1000)) ?_ ?_
 ·(conv=>whnf);exact ⟨_,0,rfl,rfl,rfl,by omega,rfl⟩
 rintro m r h' ⟨i,rfl,rfl,rfl,hi,hb⟩;(conv=>whnf);refine ⟨fun hi2=>?_,fun hi2=>?_⟩<;>simp at hi2
 ·obtain ⟨c,hc⟩:=get_lt (l:=costL H.costs) (i:=i) (by show i<5;omega);rw [drop_cons hc,List.all_cons] at hb;(conv=>whnf);repeat ((first|refine ix (by assumption) ?_|refine QCall.k0 (within _ _ _) ?_);conv=>whnf)
  refine ⟨fun hq=>?_,fun hq=>?_⟩
  ·have hq:(!wthn c 0 1000)=true:=hq;rw [Bool.not_eq_true'] at hq;rw [hq,Bool.false_and] at hb;(conv=>whnf);exact ⟨by rw [h0,if_pos hb],rfl⟩
  have hq:(!wthn c 0 1000)=false:=hq;rw [Bool.not_eq_false'] at hq;rw [hq,Bool.true_and] at hb;(conv=>whnf);repeat (refine ⟨gP_of ⟨by omega,by omega⟩,?_⟩;conv=>whnf)
  exact ⟨_,by omega,i+1,rfl,rfl,rfl,by omega,hb⟩
 rw [drop_nil (by show 5<=i;omega),List.all_nil] at hb;(conv=>whnf);repeat (refine QCall.k0 (within _ _ _) ?_;conv=>whnf)
 refine ⟨fun hq=>?_,fun hq=>?_⟩
 ·have hq:(!wthn H.period 1 H.list.periods)=true:=hq;rw [Bool.not_eq_true'] at hq;(conv=>whnf);exact ⟨by rw [h0,if_neg (by rw [hb];decide),if_pos hq],rfl⟩
 have hq:(!wthn H.period 1 H.list.periods)=false:=hq;rw [Bool.not_eq_false'] at hq;(conv=>whnf);exact ⟨by rw [h0,if_neg (by rw [hb];decide),if_neg (by rw [hq];decide)],rfl⟩
def lineErr (H:Hou) (line:List Int):Int:=
 if houErr H≠0 then houErr H
 else if 60<line.length then 2
 else if line.any (fun s=>!wthn s 0 ((H.list.signs.length:Int) - 1))=true then 23
 else 0
def c86:Cfg:=⟨[0,1,2,4,5,9,13,16],[],[],[],[],[]⟩
def c115:Cfg:=⟨[0,1,3],[],[],[],[],[]⟩
theorem badSign (H:Hou) (hh:HouFit H) (s:Int):QCall Tryz.prog 115 [.int .i64 s,.iptr (encHou H)] [] (.bool (!wthn s 0 ((H.list.signs.length:Int) - 1))):=by
 have h1:=hh.list.signs;unfold LMAX at h1;refine fcalls (F:=Tryz.f115) c115 rfl rfl rfl mixed rfl fun X=>?_;(conv=>whnf);repeat ((first|refine QCall.k0 (within _ _ _) ?_|(refine ⟨gP_of ⟨by rw [List.length_map];omega,by rw [List.length_map];omega⟩,?_⟩));conv=>whnf)
 refine ⟨?_,rfl⟩;rw [List.length_map];rfl
theorem checkW (H:Hou) (line:List Int) (hh:HouFit H) (hl:line.length<=LMAX):QCall Tryz.prog 86 [.agg (encHou H),.sl 1 none (ints line)] [] (.int .i64 (lineErr H line)):=by
 refine fcalls (F:=Tryz.f86) c86 rfl rfl rfl mixed rfl fun X=>?_;(conv=>whnf);repeat (refine QCall.k0 (checkHouse H hh) ?_;conv=>whnf)
 refine ⟨fun hc=>?_,fun hc=>?_⟩<;>simp at hc
 ·(conv=>whnf);exact ⟨by rw [lineErr,if_pos hc],rfl⟩
 (conv=>whnf);refine ⟨fun hd=>?_,fun hd=>?_⟩<;>simp at hd
 ·(conv=>whnf);exact ⟨by rw [lineErr,if_neg (by omega),if_pos (by omega)],rfl⟩
 (conv=>whnf);repeat (refine QCall.k0 (containsFuncI line hl 115 [.iptr (encHou H)] (fun s=>!wthn s 0 ((H.list.signs.length:Int) - 1)) (fun s _=>badSign H hh s)) ?_;conv=>whnf)
 refine ⟨fun he=>?_,fun he=>?_⟩
 ·(conv=>whnf);exact ⟨by rw [lineErr,if_neg (by omega),if_neg (by omega),if_pos he],rfl⟩
 (conv=>whnf);exact ⟨by rw [lineErr,if_neg (by omega),if_neg (by omega),if_neg (by rw [he];decide)],rfl⟩
def useOf (v:Val):List Use:=
 if v.kind=1 then [⟨1,v.text⟩,⟨3,v.text⟩]
 else if v.kind=2 then [⟨2,v.text⟩]
 else if v.kind=3 then [⟨4,v.text⟩]
 else []
def useGo (p:Int):List Val->List Use
 | []=>[]
 | v::t=>(if wthn p v.fr v.to then useOf v else [])++useGo p t
def usesM (p:Int) (s:Sgn):List Use:=sortU (useGo p s.values)
theorem useOf_len (v:Val):(useOf v).length<=2:=by unfold useOf;split<;>(try split)<;>(try split)<;>simp
theorem useGo_len (p:Int):∀ l:List Val,(useGo p l).length<=2*l.length
 | []=>by simp [useGo]
 | v::t=>by
   have h1:=useGo_len p t;have h2:=useOf_len v;unfold useGo;rw [List.length_append,List.length_cons];split
   ·omega
   simp;omega
theorem useGo_snoc (p:Int) (v:Val):∀ l:List Val,useGo p (l++[v])=useGo p l++(if wthn p v.fr v.to then useOf v else [])
 | []=>by simp [useGo]
 | a::t=>by have:=useGo_snoc p v t;simp only [List.cons_append,useGo,this,List.append_assoc]
def Row {α:Type} (k:Nat) (enc:α->List AV) (L:List α) (v:AV) (hp:Heap):Prop:=(L=[]/\v=.nilO/\hp=[])\/(L≠[]/\∃ b,v=.osl b 0 L.length k/\hp=[(b,.vec (L.map enc).flatten)])
theorem nil_le_nilO:VLe .nilS .nilO:=by intro c u h;simpa [Rep] using h
theorem nilO_le {k:Nat} (hk:0<k):VLe .nilO (.sl k none []):=by intro c u h;simp only [Rep] at h;exact VLe.nil hk c u (by simpa [Rep] using h)
theorem enc_len {α:Type} {k:Nat} {enc:α->List AV} {L:List α} (hk:∀ a,(enc a).length=k):((L.map enc).flatten).length=L.length*k:=by rw [flat_length (k:=k) (by intro x hx;obtain ⟨a,_,rfl⟩:=List.mem_map.1 hx;exact hk a),List.length_map]
theorem fzEnc {α:Type} {b k n:Nat} {enc:α->List AV} {L:List α} (hk:∀ a,(enc a).length=k) (hn:L.length=n):FzV b (L.map enc).flatten (.osl b 0 n k) (.sl k none (L.map enc)):=
 FzV.row (pre:=[]) (post:=[]) (xs':=[]) (by simp) rfl (by simpa using hn) (by intro x hx;obtain ⟨a,_,rfl⟩:=List.mem_map.1 hx;exact hk a)
theorem Row.ok {α:Type} {f:FuncId} {vs:List AV} {k:Nat} {enc:α->List AV} {L:List α} (hk0:0<k) (hk:∀ a,(enc a).length=k)
  (h:ACalls Tryz.prog f vs [] (fun v h'=>∃ hp Z,Row k enc L v hp/\h'=hp++Z)):QCall Tryz.prog f vs [] (.sl k none (L.map enc)):=by
 refine QCall.of (ACalls.frzOr h ?_);rintro v h1 ⟨hp,Z,⟨rfl,rfl,rfl⟩|⟨_,b,rfl,rfl⟩,rfl⟩
 ·exact .inl (nilO_le hk0)
 exact .inr ⟨b,_,Z,Z,_,.here _,FzH.refl _,fzEnc hk rfl,VLe.refl _⟩
def c117:Cfg:=⟨[0,1,2,4,6,13,14,15,16,26,28,29,40,48],[],[6],[],[],[]⟩
theorem usesA (H:Hou) (n:Int) (s:Sgn) (h0:0<=n) (hs:H.list.signs[n.toNat]?=some s) (hv:s.values.length<=1048576) :
  ACalls Tryz.prog 117 [.agg (encHou H),.int .i64 n] [] (fun v h'=>∃ hp Z,Row 2 encUse (usesM H.period s) v hp/\h'=hp++Z):=by
 refine fcalls (F:=Tryz.f117) c117 rfl rfl rfl mixed rfl fun X=>?_;(conv=>whnf);repeat ((refine ixn n.toNat (by omega) hs ?_);conv=>whnf)
 refine tloop rfl mixed [2,4,13,14,15] [] (fun m r h=>∃ (i:Nat) (v:AV) (hp:Heap),r=[(2,[],.iptr (encHou H)),(4,[],v),(13,[],.sl 4 none (s.values.map encVal)),(14,[],.int .i64 (s.values.map encVal).length),(15,[],.int .i64 i)]/\h=hp/\m=s.values.length - i/\i<=s.values.length/\Row 2 encUse (useGo H.period (s.values.take i)) v hp) ?_ ?_
 ·(conv=>whnf);exact ⟨_,_,Turn.weak (.cons (VLe.refl _) (.cons nil_le_nilO (RLe.refl _))),_,0,_,_,rfl,rfl,rfl,by omega,.inl ⟨rfl,rfl,rfl⟩⟩
 rintro m r h' ⟨i,v,hp,rfl,rfl,rfl,hi,hr⟩;(conv=>whnf);refine ⟨fun hi2=>?_,fun hi2=>?_⟩<;>simp at hi2
 ·obtain ⟨x,hx⟩:=get_lt hi2;have hsn:=useGo_snoc H.period x (s.values.take i);rw [<- take_snoc hx] at hsn;have hbd:(useGo H.period (s.values.take i)).length+2<=AMAX:=by have:=useGo_len H.period (s.values.take i);rw [List.length_take] at this;unfold AMAX;omega
  (conv=>whnf);repeat ((first|refine ix (by assumption) ?_|refine QCall.k0 (within _ _ _) ?_|refine ⟨_,_,Rem.here _,⟨Nat.le_of_ble_eq_true rfl,rfl⟩,?_⟩|intro (nb:Nat));conv=>whnf)
  refine ⟨fun hq=>?_,fun hq=>?_⟩
  ·have hq:(!wthn H.period x.fr x.to)=true:=hq;rw [Bool.not_eq_true'] at hq;rw [hq] at hsn;simp only [Bool.false_eq_true,if_false,List.append_nil] at hsn;(conv=>whnf);repeat (refine ⟨gP_of ⟨by omega,by omega⟩,?_⟩;conv=>whnf)
   exact ⟨_,_,Turn.refl _ _,_,by omega,i+1,_,_,rfl,rfl,rfl,by omega,by rw [hsn];exact hr⟩
  have hq:(!wthn H.period x.fr x.to)=false:=hq;rw [Bool.not_eq_false'] at hq;rw [hq,if_pos rfl,useOf] at hsn;(conv=>whnf);refine ⟨fun hk=>?_,fun hk=>?_⟩<;>simp only [decide_eq_true_eq,decide_eq_false_iff_not] at hk
  ·rw [if_pos hk] at hsn;rcases hr with ⟨he,rfl,rfl⟩|⟨hne,b,rfl,rfl⟩
   ·(conv=>whnf);repeat ((first|refine ⟨gP_of ⟨by omega,by omega⟩,?_⟩|(refine ⟨⟨Nat.le_of_ble_eq_true rfl,Nat.le_of_ble_eq_true rfl⟩,fun b'=>?_⟩));conv=>whnf)
    refine ⟨_,_,Turn.refl _ _,_,by omega,i+1,_,_,rfl,rfl,rfl,by omega,?_⟩;rw [hsn,he];exact .inr ⟨by simp,b',rfl,rfl⟩
   (conv=>whnf);repeat ((first|refine ⟨gP_of ⟨by omega,by omega⟩,?_⟩|(refine ⟨_,.head _,⟨enc_len (fun _=>rfl),Nat.le_trans (Nat.add_le_add_left (Nat.le_of_ble_eq_true rfl) _) hbd⟩,fun b'=>⟨_,.here _,?_⟩⟩));conv=>whnf)
   refine ⟨_,_,Turn.refl _ _,_,by omega,i+1,_,_,rfl,rfl,rfl,by omega,?_⟩;rw [hsn];refine .inr ⟨by simp,b',?_,?_⟩
   ·rw [List.length_append];rfl
   rw [List.map_append,List.flatten_append];rfl
  rw [if_neg hk] at hsn;(conv=>whnf);refine ⟨fun hk2=>?_,fun hk2=>?_⟩<;>simp only [decide_eq_true_eq,decide_eq_false_iff_not] at hk2
  ·rw [if_pos hk2] at hsn;rcases hr with ⟨he,rfl,rfl⟩|⟨hne,b,rfl,rfl⟩
   ·(conv=>whnf);repeat ((first|refine ⟨gP_of ⟨by omega,by omega⟩,?_⟩|(refine ⟨⟨Nat.le_of_ble_eq_true rfl,Nat.le_of_ble_eq_true rfl⟩,fun b'=>?_⟩));conv=>whnf)
    refine ⟨_,_,Turn.refl _ _,_,by omega,i+1,_,_,rfl,rfl,rfl,by omega,?_⟩;rw [hsn,he];exact .inr ⟨by simp,b',rfl,rfl⟩
   (conv=>whnf);repeat ((first|refine ⟨gP_of ⟨by omega,by omega⟩,?_⟩|(refine ⟨_,.head _,⟨enc_len (fun _=>rfl),Nat.le_trans (Nat.add_le_add_left (Nat.le_of_ble_eq_true rfl) _) hbd⟩,fun b'=>⟨_,.here _,?_⟩⟩));conv=>whnf)
   refine ⟨_,_,Turn.refl _ _,_,by omega,i+1,_,_,rfl,rfl,rfl,by omega,?_⟩;rw [hsn];refine .inr ⟨by simp,b',?_,?_⟩
   ·rw [List.length_append];rfl
   rw [List.map_append,List.flatten_append];rfl
  rw [if_neg hk2] at hsn;(conv=>whnf);refine ⟨fun hk3=>?_,fun hk3=>?_⟩<;>simp only [decide_eq_true_eq,decide_eq_false_iff_not] at hk3
  ·rw [if_pos hk3] at hsn;rcases hr with ⟨he,rfl,rfl⟩|⟨hne,b,rfl,rfl⟩
   ·(conv=>whnf);repeat ((first|refine ⟨gP_of ⟨by omega,by omega⟩,?_⟩|(refine ⟨⟨Nat.le_of_ble_eq_true rfl,Nat.le_of_ble_eq_true rfl⟩,fun b'=>?_⟩));conv=>whnf)
    refine ⟨_,_,Turn.refl _ _,_,by omega,i+1,_,_,rfl,rfl,rfl,by omega,?_⟩;rw [hsn,he];exact .inr ⟨by simp,b',rfl,rfl⟩
   (conv=>whnf);repeat ((first|refine ⟨gP_of ⟨by omega,by omega⟩,?_⟩|(refine ⟨_,.head _,⟨enc_len (fun _=>rfl),Nat.le_trans (Nat.add_le_add_left (Nat.le_of_ble_eq_true rfl) _) hbd⟩,fun b'=>⟨_,.here _,?_⟩⟩));conv=>whnf)
   refine ⟨_,_,Turn.refl _ _,_,by omega,i+1,_,_,rfl,rfl,rfl,by omega,?_⟩;rw [hsn];refine .inr ⟨by simp,b',?_,?_⟩
   ·rw [List.length_append];rfl
   rw [List.map_append,List.flatten_append];rfl
  rw [if_neg hk3,List.append_nil] at hsn;(conv=>whnf);repeat (refine ⟨gP_of ⟨by omega,by omega⟩,?_⟩;conv=>whnf)
  exact ⟨_,_,Turn.refl _ _,_,by omega,i+1,_,_,rfl,rfl,rfl,by omega,by rw [hsn];exact hr⟩
 rw [List.take_of_length_le hi2] at hr;have hbd:(useGo H.period s.values).length<=4294967296:=by have:=useGo_len H.period s.values;omega
 rcases hr with ⟨he,rfl,rfl⟩|⟨hne,b,rfl,rfl⟩
 ·(conv=>whnf);repeat (refine QCall.k0 (sortNilU _) ?_;conv=>whnf)
  exact ⟨[],[],.inl ⟨by unfold usesM;rw [he];simp [sortU,sortL],rfl,rfl⟩,rfl⟩
 (conv=>whnf);skip;refine ACalls.mono ?_ (sortOwnU b _ hne hbd);rintro v h1 ⟨rfl,rfl⟩;(conv=>whnf);skip;exact ⟨_,[],.inr ⟨by intro h;have:=congrArg List.length h;rw [usesM,sortU,sortL_length] at this;exact hne (List.eq_nil_of_length_eq_zero this),b,by rw [usesM,sortU,sortL_length],rfl⟩,by rw [List.append_nil];rfl⟩
theorem usesW (H:Hou) (n:Int) (s:Sgn) (h0:0<=n) (hs:H.list.signs[n.toNat]?=some s) (hv:s.values.length<=1048576) :
  QCall Tryz.prog 117 [.agg (encHou H),.int .i64 n] [] (.sl 2 none ((usesM H.period s).map encUse)):=Row.ok (by decide) (fun _=>rfl) (usesA H n s h0 hs hv)
end Go.Abs.Wall
namespace Go.Abs.Wall
open Go Go.Abs Go.Proofs
structure Sp where
 H:Hou
 e:Ent
 body:List UInt8
structure Prg where
 sounds:List UInt8
 closed:Bool
 cl:List Int
 last:Use
deriving DecidableEq
def encSp (s:Sp):List AV:=encHou s.H++(encEnt s.e++[.str s.body])
def encPrg (p:Prg):List AV:=[.str p.sounds,.int .i64 0,.bool p.closed,.sl 1 none (ints p.cl),.int .i64 p.last.kind,.str p.last.text]
def tot (s:Sp) (cl:List Int):List UInt8:=s.body++cliT s.H.lex cl
structure SpOK (s:Sp):Prop where
 lex:LexOK s.H.lex
 body:1<=s.body.length/\s.body.length<=12
 root:s.e.root.length<=s.body.length
structure PrgOK (s:Sp) (p:Prg):Prop where
 few:p.cl.length<=3
 cli:∀ c∈p.cl,0<=c/\c<s.H.lex.clitics.length
 sounds:p.sounds.length<=(tot s p.cl).length
 new:p.last.kind=0->p.cl=[]/\p.sounds=[]
theorem SpOK.tot {s:Sp} (h:SpOK s) {cl:List Int} (hc:∀ c∈cl,0<=c/\c<s.H.lex.clitics.length):(Wall.tot s cl).length<=12+4*cl.length:=by have h1:=h.body;have h2:=cliT_bound h.lex hc;unfold Wall.tot;rw [List.length_append];omega
theorem tot_snoc (s:Sp) (cl:List Int) (c:Int):tot s (cl++[c])=tot s cl++(cliAt s.H.lex c).text:=by unfold tot;rw [cliT_snoc,List.append_assoc]
def c120:Cfg:=⟨[0,1,3,4,5,7,14,15,16,17],[],[],[],[],[]⟩
def c154:Cfg:=⟨[0,1,3,4,5,7,11,25,26,27,28],[],[],[],[(2,[0,1,2,3,4,5,6,7,8],[])],[]⟩
theorem endsA (s:Sp) (p:Prg) (hs:SpOK s) (hp:PrgOK s p):QCall Tryz.prog 120 [.iptr (encSp s),.agg (encPrg p)] [] (.bool (decide (p.sounds.length=(tot s p.cl).length))):=by
 have hb:=hs.body;have hfew:=hp.few;refine fcalls (F:=Tryz.f120) c120 rfl rfl rfl mixed rfl fun X=>?_;(conv=>whnf);refine sloop rfl mixed [0,3,5,14,15,16] [] (fun m r h=>∃ (i:Nat) (n:Int),r=[(0,[],.iptr (encSp s)),(3,[],.iptr (encPrg p)),(5,[],.int .i64 n),(14,[],.sl 1 none (ints p.cl)),(15,[],.int .i64 (ints p.cl).length),(16,[],.int .i64 i)]/\h=[]/\m=p.cl.length - i/\i<=p.cl.length/\n=(tot s (p.cl.take i)).length) ?_ ?_
 ·(conv=>whnf);exact ⟨_,0,_,rfl,rfl,rfl,by omega,by simp [tot,cliT]⟩
 rintro m r h' ⟨i,n,rfl,rfl,rfl,hi,hn⟩;(conv=>whnf);refine ⟨fun hi2=>?_,fun hi2=>?_⟩<;>simp at hi2
 ·obtain ⟨c,hc⟩:=get_lt hi2;have hcc:=hp.cli c (List.mem_of_getElem? hc);have hcw:=sndOK_len (hs.lex.cliAt hcc.1 hcc.2).text;have hb:=hs.tot (cl:=p.cl.take i) fun d hd=>hp.cli d (List.mem_of_mem_take hd);rw [List.length_take] at hb;have hs':=take_snoc hc;(conv=>whnf);repeat ((first|refine ⟨gP_of ⟨by omega,by omega⟩,?_⟩|refine ix (by assumption) ?_|(refine ixn c.toNat (by omega) (cliAt_get hcc.1 hcc.2) ?_));conv=>whnf)
  exact ⟨_,by omega,i+1,_,rfl,rfl,rfl,by omega,by rw [hs',tot_snoc,List.length_append,hn];omega⟩
 rw [List.take_of_length_le hi2] at hn;(conv=>whnf);refine ⟨congrArg AV.bool ?_,rfl⟩;rw [hn,decide_eq_decide];omega
theorem partA (s:Sp) (p:Prg) (hs:SpOK s) (hp:PrgOK s p):QCall Tryz.prog 154 [.iptr (encSp s),.agg (encPrg p)] [] (.str ((tot s p.cl).drop p.sounds.length)):=by
 have hb:=hs.body;have hfew:=hp.few;have hsn:=hp.sounds;refine fcalls (F:=Tryz.f154) c154 rfl rfl rfl mixed rfl fun X=>?_;(conv=>whnf);refine ⟨fun hc=>?_,fun hc=>?_⟩<;>simp at hc
 ·have ht:tot s p.cl=s.body:=by rw [hc];simp [tot,cliT]
  rw [ht] at hsn ⊢;(conv=>whnf);repeat ((first|refine ⟨gP_of ⟨by omega,by omega⟩,?_⟩|refine And.intro (by show drawOK (opsAt Tryz.f154 _) _=true;decide +kernel) ?_);conv=>whnf)
  refine ⟨congrArg AV.str ?_,rfl⟩;rw [List.take_of_length_le (by omega)];rfl
 (conv=>whnf);skip;refine sloop rfl mixed [0,3,5,25,26,27] [] (fun m r h=>∃ (i:Nat) (t:List UInt8),r=[(0,[],.iptr (encSp s)),(3,[],.iptr (encPrg p)),(5,[],.str t),(25,[],.sl 1 none (ints p.cl)),(26,[],.int .i64 (ints p.cl).length),(27,[],.int .i64 i)]/\h=[]/\m=p.cl.length - i/\i<=p.cl.length/\t=tot s (p.cl.take i)) ?_ ?_
 ·(conv=>whnf);exact ⟨_,0,_,rfl,rfl,rfl,by omega,by simp [tot,cliT]⟩
 rintro m r h' ⟨i,t,rfl,rfl,rfl,hi,hn⟩;(conv=>whnf);refine ⟨fun hi2=>?_,fun hi2=>?_⟩<;>simp at hi2
 ·obtain ⟨c,hc⟩:=get_lt hi2;have hcc:=hp.cli c (List.mem_of_getElem? hc);have hcw:=sndOK_len (hs.lex.cliAt hcc.1 hcc.2).text;have hb:=hs.tot (cl:=p.cl.take i) fun d hd=>hp.cli d (List.mem_of_mem_take hd);rw [List.length_take] at hb;have hs':=take_snoc hc;have hl:(t++(cliAt s.H.lex c).text).length<=LMAX:=by rw [hn];simp [LMAX];omega
  (conv=>whnf);repeat ((first|refine ⟨gP_of ⟨by omega,by omega⟩,?_⟩|refine ix (by assumption) ?_|(refine ixn c.toNat (by omega) (cliAt_get hcc.1 hcc.2) ?_)|(refine ⟨gP_of hl,?_⟩));conv=>whnf)
  exact ⟨_,by omega,i+1,_,rfl,rfl,rfl,by omega,by rw [hs',tot_snoc,hn]⟩
 rw [List.take_of_length_le hi2] at hn;subst hn;(conv=>whnf);repeat (refine ⟨gP_of ⟨by omega,by omega⟩,?_⟩;conv=>whnf)
 refine ⟨congrArg AV.str ?_,rfl⟩;rw [List.take_of_length_le (by omega)];rfl
end Go.Abs.Wall
namespace Go.Abs.Wall
open Go Go.Abs Go.Proofs
def partM (s:Sp) (p:Prg):List UInt8:=(tot s p.cl).drop p.sounds.length
def endsM (s:Sp) (p:Prg):Bool:=decide (p.sounds.length=(tot s p.cl).length)
def firstC (cl:List Int):Int:=match cl.getLast? with
 | some c=>c+1
 | none=>0
def spellGo (p:Prg) (u:Use):List Cli->Int->List Prg
 | [],_=>[]
 | k::t,c=>(if begins k.text u.text=true then [⟨p.sounds++u.text,p.closed,p.cl++[c],u⟩] else [])++spellGo p u t (c+1)
def spellM (s:Sp) (p:Prg) (u:Use):List Prg:=
 if partM s p≠[] then (if begins (partM s p) u.text=true then [⟨p.sounds++u.text,p.closed,p.cl,u⟩] else [])
 else if p.cl.length<3 then spellGo p u (s.H.lex.clitics.drop (firstC p.cl).toNat) (firstC p.cl) else []
theorem firstC_ok {s:Sp} {p:Prg} (hp:PrgOK s p):0<=firstC p.cl/\firstC p.cl<=s.H.lex.clitics.length:=by
 unfold firstC;cases h:p.cl.getLast? with
 | none=>simp
 | some c=>
   have:=hp.cli c (List.mem_of_getLast? h);simp only;omega
theorem spellGo_len (p:Prg) (u:Use):∀ (l:List Cli) (c:Int),(spellGo p u l c).length<=l.length
 | [],_=>by simp [spellGo]
 | k::t,c=>by have:=spellGo_len p u t (c+1);unfold spellGo;rw [List.length_append,List.length_cons];split<;>simp<;>omega
def Out {α:Type} (k:Nat) (enc:α->List AV) (o:List α) (v:AV) (hp:Heap):Prop:=(o=[]/\v=.nilS/\hp=[])\/∃ q,v=.sl k (some q) (o.map enc)/\hp=[(q,.tok)]
theorem Out.le {α:Type} {k:Nat} {enc:α->List AV} {o:List α} {v:AV} {hp:Heap} (hk:0<k) (h:Out k enc o v hp):VLe v (.sl k none (o.map enc)):=by
 rcases h with ⟨rfl,rfl,rfl⟩|⟨q,rfl,rfl⟩
 ·exact VLe.nil hk
 exact VLe.sl
theorem clV {t:Option Nat} {cl:List Int} {c:Int}:VLe (.sl 1 t (ints cl++[[.int .i64 c]])) (.sl 1 none (ints (cl++[c]))):=by rw [show ints (cl++[c])=ints cl++[[.int .i64 c]] by simp [ints]];exact VLe.sl
theorem prgV {v:AV} {p:Prg} {u:Use} {c:Int} (hv:VLe v (.sl 1 none (ints (p.cl++[c])))):VsLe [.str (p.sounds++u.text),.int .i64 0,.bool p.closed,v,.int .i64 u.kind,.str u.text] (encPrg ⟨p.sounds++u.text,p.closed,p.cl++[c],u⟩):=
 .cons (VLe.refl _) (.cons (VLe.refl _) (.cons (VLe.refl _) (.cons hv (.cons (VLe.refl _) (.cons (VLe.refl _) .nil)))))
def c141:Cfg:=⟨[0,1,2,4,5,6,7,8,9,10,11,16,20,38,61,77],[4],[],[],[(15,[0,1,2,3,4,5,6,7,8,9,10,11,12,13],[])],[]⟩
theorem spellA (s:Sp) (p:Prg) (u:Use) (hs:SpOK s) (hp:PrgOK s p) (hu:u.text.length<=1048576) :
  QCall Tryz.prog 141 [.iptr (encSp s),.agg (encPrg p),.agg (encUse u)] [] (.sl 6 none ((spellM s p u).map encPrg)):=by
 have hb:=hs.body;have hfew:=hp.few;have hsn:=hp.sounds;have htt:=hs.tot hp.cli;have hpl:(partM s p).length<=LMAX:=by unfold partM LMAX;rw [List.length_drop];omega
 have hul:u.text.length<=LMAX:=by unfold LMAX;omega
 have hadd:(p.sounds++u.text).length<=LMAX:=by rw [List.length_append];unfold LMAX;omega
 have hmn:=hs.lex.many.2.2;refine QCall.of (fcalls (F:=Tryz.f141) c141 rfl rfl rfl mixed rfl fun X=>?_);(conv=>whnf);intro kp;(conv=>whnf);repeat ((first|refine QCall.k0 (partA s p hs hp) ?_|refine ⟨_,_,.head _,rfl,?_⟩);conv=>whnf)
 refine ⟨fun hc=>?_,fun hc=>?_⟩<;>simp only [Bool.not_eq_true',Bool.not_eq_false',decide_eq_true_eq,decide_eq_false_iff_not] at hc
 ·have hc:partM s p≠[]:=hc;have hm:spellM s p u=if begins (partM s p) u.text=true then [⟨p.sounds++u.text,p.closed,p.cl,u⟩] else []:=(by rw [spellM,if_pos hc]);(conv=>whnf);repeat (refine QCall.k0 (hasPrefix (partM s p) u.text hpl hul) ?_;conv=>whnf)
  refine ⟨fun hq=>?_,fun hq=>?_⟩
  ·rw [if_pos hq] at hm;rw [hm];(conv=>whnf);repeat ((first|(refine ⟨gP_of hadd,?_⟩)|(refine ⟨Nat.le_of_ble_eq_true rfl,fun q=>?_⟩)|refine ⟨_,_,.head _,rfl,?_⟩|refine ⟨_,_,.here _,leOK,?_⟩);conv=>whnf)
   exact VLe.sl
  rw [if_neg (by rw [hq];decide)] at hm;rw [hm];(conv=>whnf);skip;exact VLe.nil (by decide)
 have hc:partM s p=[]:=hc;have hm:spellM s p u=if p.cl.length<3 then spellGo p u (s.H.lex.clitics.drop (firstC p.cl).toNat) (firstC p.cl) else []:=(by rw [spellM,if_neg (by simpa using hc)]);have hfc:=firstC_ok hp;(conv=>whnf);repeat (refine ⟨_,_,.head _,rfl,?_⟩;conv=>whnf)
 refine ⟨fun hn=>?_,fun hn=>?_⟩<;>simp at hn
 ·obtain ⟨c,hcl⟩:=get_lt (l:=p.cl) (i:=p.cl.length - 1) (by omega);have hci:=hp.cli c (List.mem_of_getElem? hcl);have hf:firstC p.cl=c+1:=by unfold firstC;rw [List.getLast?_eq_getElem?,hcl]
  (conv=>whnf);repeat ((first|refine ⟨gP_of ⟨by omega,by omega⟩,?_⟩|(refine ixn (p.cl.length - 1) (by simp [ints];omega) hcl ?_)|(refine ⟨gP_of ⟨by simp [ints];omega,by simp [ints];omega⟩,?_⟩)|refine ⟨_,_,.head _,rfl,?_⟩);conv=>whnf)
  rw [<- hf];refine tloop rfl mixed [0,4,5,6,10] [] (fun m r h=>∃ (c:Int) (o:List Prg) (v:AV) (hp0:Heap),r=[(0,[],.iptr (encSp s)),(4,[],.optr kp 0),(5,[],.iptr (encUse u)),(6,[],v),(10,[],.int .i64 c)]/\h=hp0++[(kp,.vec (encPrg p))]/\m=(s.H.lex.clitics.length - c).toNat/\0<=c/\c<=s.H.lex.clitics.length/\Out 6 encPrg o v hp0/\o.length<=c/\spellM s p u=o++(if p.cl.length<3 then spellGo p u (s.H.lex.clitics.drop c.toNat) c else [])) ?_ ?_
  ·(conv=>whnf);exact ⟨_,_,Turn.refl _ _,_,firstC p.cl,[],_,[],rfl,rfl,rfl,hfc.1,hfc.2,.inl ⟨rfl,rfl,rfl⟩,by simpa using hfc.1,by rw [hm];rfl⟩
  rintro m r h' ⟨c,o,v,hp0,rfl,rfl,rfl,hc0,hcn,hv,hol,hmo⟩;have hob:o.length+1<=AMAX:=by have:=hs.lex.many;unfold AMAX;omega
  rcases hv with ⟨he,rfl,rfl⟩|⟨q,rfl,rfl⟩
  all_goals
   (conv=>whnf);repeat ((first|refine ⟨_,_,.head _,rfl,?_⟩|refine ⟨_,_,.tail _ (.head _),rfl,?_⟩);conv=>whnf)
   refine ⟨fun hi2=>?_,fun hi2=>?_⟩
   ·have hi3:c<s.H.lex.clitics.length/\p.cl.length<3:=by simp at hi2;exact ⟨hi2.1,by omega⟩
    have hct:=sndOK_len (hs.lex.cliAt hc0 hi3.1).text;have hcl:(cliAt s.H.lex c).text.length<=LMAX:=by unfold LMAX;omega
    rw [if_pos hi3.2,drop_cons (cliAt_get hc0 hi3.1),spellGo,show ((c.toNat:Nat)+1)=(c+1).toNat by omega] at hmo;(conv=>whnf);repeat ((first|(refine ixn c.toNat (by omega) (cliAt_get hc0 hi3.1) ?_)|refine gcall (hasPrefix (cliAt s.H.lex c).text u.text hcl hul) ?_|refine And.intro (by show drawOK (opsAt Tryz.f141 _) _=true;decide +kernel) ?_);conv=>whnf)
    refine ⟨fun hq=>?_,fun hq=>?_⟩<;>simp only [Bool.not_eq_true',Bool.not_eq_false'] at hq
    ·rw [if_neg (by rw [hq];decide),List.nil_append] at hmo;(conv=>whnf);repeat (refine ⟨gP_of ⟨by omega,by omega⟩,?_⟩;conv=>whnf)
     refine ⟨_,_,Turn.refl _ _,_,(by omega),c+1,o,_,_,rfl,rfl,rfl,by omega,by omega,?_,by omega,by rw [if_pos hi3.2];exact hmo⟩;first|exact .inl ⟨he,rfl,rfl⟩|exact .inr ⟨q,rfl,rfl⟩
    rw [if_pos hq] at hmo;(conv=>whnf);repeat ((first|(refine ⟨_,_,.tail _ (.tail _ (.head _)),rfl,?_⟩)|refine ⟨_,_,.head _,rfl,?_⟩|refine ⟨_,_,.tail _ (.head _),rfl,?_⟩|refine ⟨_,_,.here _,leOK,?_⟩|intro (nb:Nat));conv=>whnf)
    refine ACalls.mono ?_ (ACalls.frame (cloneIT p.cl (by unfold AMAX;omega)) _);rintro v h1 ⟨h2,hcl2,rfl⟩;rcases hcl2 with ⟨he2,rfl,rfl⟩|⟨q2,rfl,rfl⟩
    all_goals
     (conv=>whnf);repeat ((first|refine ⟨gP_of ⟨by omega,by omega⟩,?_⟩|(refine ⟨gP_of hadd,?_⟩)|(refine ⟨(by first|exact Nat.le_of_ble_eq_true rfl|(simp [ints,AMAX];omega)),fun q3=>?_⟩)|(refine ⟨_,.here _,?_⟩)|(refine ⟨_,.there (.there (.here _)),?_⟩)|refine ⟨_,_,.tail _ (.head _),rfl,?_⟩|refine ⟨_,_,.there (.here _),leOK,?_⟩);conv=>whnf)
     refine ⟨[(0,[],.iptr (encSp s)),(4,[],.optr kp 0),(5,[],.iptr (encUse u)),(6,[],.sl 6 (some q3) ((o++[(⟨p.sounds++u.text,p.closed,p.cl++[c],u⟩:Prg)]).map encPrg)),(10,[],.int .i64 (c+1))],[(q3,.tok),(kp,.vec (encPrg p))],?_,_,(by omega),c+1,_,_,[(q3,.tok)],rfl,rfl,rfl,by omega,by omega,.inr ⟨_,rfl,rfl⟩,by simp;omega,by rw [if_pos hi3.2,hmo,List.append_assoc]⟩;refine Turn.trans (Turn.weak (.cons (VLe.refl _) (.cons (VLe.refl _) (.cons (VLe.refl _) (.cons ?_ (RLe.refl _)))))) (Turn.sub ?_ ?_)
     ·first
       | (rw [he];exact VLe.els (.cons (prgV clV) .nil))
       | (rw [he];refine VLe.els (.cons (prgV ?_) .nil);have h9:=fun t=>clV (t:=t) (cl:=p.cl) (c:=c);rw [he2] at h9;exact h9 _)
       | (rw [List.map_append];exact VLe.els (VssLe.snoc (prgV clV)))
       | (rw [List.map_append];refine VLe.els (VssLe.snoc (prgV ?_));have h9:=fun t=>clV (t:=t) (cl:=p.cl) (c:=c);rw [he2] at h9;exact h9 _)
     ·intro k o hm;simp only [List.mem_cons,List.not_mem_nil,or_false] at hm;rcases hm with hm|hm<;>simp [hm]
     intro hn;simp [keys] at hn ⊢;simp [hn]
   have hmo2:spellM s p u=o:=by
    rw [hmo];simp at hi2;split
    ·rename_i h3;rw [drop_nil (by omega)];simp [spellGo]
    simp
   rw [hmo2];(conv=>whnf);skip;first|exact Out.le (by decide) (.inl ⟨he,rfl,rfl⟩)|exact Out.le (by decide) (.inr ⟨q,rfl,rfl⟩)
 have hf:firstC p.cl=0:=by rw [hn];rfl
 (conv=>whnf);skip;have h00:(0:Int)=firstC p.cl:=hf.symm;rw [h00];refine tloop rfl mixed [0,4,5,6,10] [] (fun m r h=>∃ (c:Int) (o:List Prg) (v:AV) (hp0:Heap),r=[(0,[],.iptr (encSp s)),(4,[],.optr kp 0),(5,[],.iptr (encUse u)),(6,[],v),(10,[],.int .i64 c)]/\h=hp0++[(kp,.vec (encPrg p))]/\m=(s.H.lex.clitics.length - c).toNat/\0<=c/\c<=s.H.lex.clitics.length/\Out 6 encPrg o v hp0/\o.length<=c/\spellM s p u=o++(if p.cl.length<3 then spellGo p u (s.H.lex.clitics.drop c.toNat) c else [])) ?_ ?_
 ·(conv=>whnf);exact ⟨_,_,Turn.refl _ _,_,firstC p.cl,[],_,[],rfl,rfl,rfl,hfc.1,hfc.2,.inl ⟨rfl,rfl,rfl⟩,by simpa using hfc.1,by rw [hm];rfl⟩
 rintro m r h' ⟨c,o,v,hp0,rfl,rfl,rfl,hc0,hcn,hv,hol,hmo⟩;have hob:o.length+1<=AMAX:=by have:=hs.lex.many;unfold AMAX;omega
 rcases hv with ⟨he,rfl,rfl⟩|⟨q,rfl,rfl⟩
 all_goals
  (conv=>whnf);repeat ((first|refine ⟨_,_,.head _,rfl,?_⟩|refine ⟨_,_,.tail _ (.head _),rfl,?_⟩);conv=>whnf)
  refine ⟨fun hi2=>?_,fun hi2=>?_⟩
  ·have hi3:c<s.H.lex.clitics.length/\p.cl.length<3:=by simp at hi2;exact ⟨hi2.1,by omega⟩
   have hct:=sndOK_len (hs.lex.cliAt hc0 hi3.1).text;have hcl:(cliAt s.H.lex c).text.length<=LMAX:=by unfold LMAX;omega
   rw [if_pos hi3.2,drop_cons (cliAt_get hc0 hi3.1),spellGo,show ((c.toNat:Nat)+1)=(c+1).toNat by omega] at hmo;(conv=>whnf);repeat ((first|(refine ixn c.toNat (by omega) (cliAt_get hc0 hi3.1) ?_)|refine gcall (hasPrefix (cliAt s.H.lex c).text u.text hcl hul) ?_|refine And.intro (by show drawOK (opsAt Tryz.f141 _) _=true;decide +kernel) ?_);conv=>whnf)
   refine ⟨fun hq=>?_,fun hq=>?_⟩<;>simp only [Bool.not_eq_true',Bool.not_eq_false'] at hq
   ·rw [if_neg (by rw [hq];decide),List.nil_append] at hmo;(conv=>whnf);repeat (refine ⟨gP_of ⟨by omega,by omega⟩,?_⟩;conv=>whnf)
    refine ⟨_,_,Turn.refl _ _,_,(by omega),c+1,o,_,_,rfl,rfl,rfl,by omega,by omega,?_,by omega,by rw [if_pos hi3.2];exact hmo⟩;first|exact .inl ⟨he,rfl,rfl⟩|exact .inr ⟨q,rfl,rfl⟩
   rw [if_pos hq] at hmo;(conv=>whnf);repeat ((first|(refine ⟨_,_,.tail _ (.tail _ (.head _)),rfl,?_⟩)|refine ⟨_,_,.head _,rfl,?_⟩|refine ⟨_,_,.tail _ (.head _),rfl,?_⟩|refine ⟨_,_,.here _,leOK,?_⟩|intro (nb:Nat));conv=>whnf)
   refine ACalls.mono ?_ (ACalls.frame (cloneIT p.cl (by unfold AMAX;omega)) _);rintro v h1 ⟨h2,hcl2,rfl⟩;rcases hcl2 with ⟨he2,rfl,rfl⟩|⟨q2,rfl,rfl⟩
   all_goals
    (conv=>whnf);repeat ((first|refine ⟨gP_of ⟨by omega,by omega⟩,?_⟩|(refine ⟨gP_of hadd,?_⟩)|(refine ⟨(by first|exact Nat.le_of_ble_eq_true rfl|(simp [ints,AMAX];omega)),fun q3=>?_⟩)|(refine ⟨_,.here _,?_⟩)|(refine ⟨_,.there (.there (.here _)),?_⟩)|refine ⟨_,_,.tail _ (.head _),rfl,?_⟩|refine ⟨_,_,.there (.here _),leOK,?_⟩);conv=>whnf)
    refine ⟨[(0,[],.iptr (encSp s)),(4,[],.optr kp 0),(5,[],.iptr (encUse u)),(6,[],.sl 6 (some q3) ((o++[(⟨p.sounds++u.text,p.closed,p.cl++[c],u⟩:Prg)]).map encPrg)),(10,[],.int .i64 (c+1))],[(q3,.tok),(kp,.vec (encPrg p))],?_,_,(by omega),c+1,_,_,[(q3,.tok)],rfl,rfl,rfl,by omega,by omega,.inr ⟨_,rfl,rfl⟩,by simp;omega,by rw [if_pos hi3.2,hmo,List.append_assoc]⟩;refine Turn.trans (Turn.weak (.cons (VLe.refl _) (.cons (VLe.refl _) (.cons (VLe.refl _) (.cons ?_ (RLe.refl _)))))) (Turn.sub ?_ ?_)
    ·first
      | (rw [he];exact VLe.els (.cons (prgV clV) .nil))
      | (rw [he];refine VLe.els (.cons (prgV ?_) .nil);have h9:=fun t=>clV (t:=t) (cl:=p.cl) (c:=c);rw [he2] at h9;exact h9 _)
      | (rw [List.map_append];exact VLe.els (VssLe.snoc (prgV clV)))
      | (rw [List.map_append];refine VLe.els (VssLe.snoc (prgV ?_));have h9:=fun t=>clV (t:=t) (cl:=p.cl) (c:=c);rw [he2] at h9;exact h9 _)
    ·intro k o hm;simp only [List.mem_cons,List.not_mem_nil,or_false] at hm;rcases hm with hm|hm<;>simp [hm]
    intro hn;simp [keys] at hn ⊢;simp [hn]
  have hmo2:spellM s p u=o:=by
   rw [hmo];simp at hi2;split
   ·rename_i h3;rw [drop_nil (by omega)];simp [spellGo]
   simp
  rw [hmo2];(conv=>whnf);skip;first|exact Out.le (by decide) (.inl ⟨he,rfl,rfl⟩)|exact Out.le (by decide) (.inr ⟨q,rfl,rfl⟩)
end Go.Abs.Wall
namespace Go.Abs.Wall
open Go Go.Abs Go.Proofs
def stBad (s:Sp) (p:Prg) (u:Use):Bool:=!decide (p.last.kind=0)||!decide (u.text=s.e.root)
def heavy (p:Prg):Bool:=decide (p.last.kind=2)||(decide (p.last.kind=1)&&decide (2<=(p.last.text.length:Int)))
def rpBad (p:Prg) (u:Use):Bool:=!heavy p||decide ((p.last.text.length:Int)<u.text.length)||!endsW p.sounds u.text
def clBad (s:Sp) (p:Prg) (u:Use):Bool:=p.closed||decide (s.e.cls=[])||!decide (u.text=s.e.cls)||decide (0<(p.cl.length:Int))||!decide ((p.sounds.length:Int)=s.body.length)
def nextM (s:Sp) (p:Prg) (u:Use):List Prg:=
 if u.kind=1 then spellM s p u
 else if u.kind=2 then (if stBad s p u=true then [] else [⟨u.text,p.closed,p.cl,u⟩])
 else if u.kind=3 then (if rpBad p u=true then [] else [⟨p.sounds,p.closed,p.cl,u⟩])
 else if u.kind=4 then (if clBad s p u=true then [] else [⟨p.sounds,true,p.cl,u⟩])
 else []
def c124:Cfg:=⟨[0,1,2,4,5,6,7,9,10,16,31,35,73,74,112],[4],[],[],[(6,[0,1,2,3,4,5,6,7,8,9,10,11,12,13],[]),(14,[0,1,2,3,4,5,6,7,8,9,10,11,12,13,14,15,16,17,18,19,20,21,22,23,24,25,26,27,28,29,30,31,32,33,34,35,36],[])],[]⟩
theorem nextA (s:Sp) (p:Prg) (u:Use) (hs:SpOK s) (hp:PrgOK s p) (hu:u.text.length<=1048576) :
  QCall Tryz.prog 124 [.iptr (encSp s),.agg (encPrg p),.agg (encUse u)] [] (.sl 6 none ((nextM s p u).map encPrg)):=by
 have hb:=hs.body;have hfew:=hp.few;have hsn:=hp.sounds;have htt:=hs.tot hp.cli;have hpl:p.sounds.length<=LMAX:=by unfold LMAX;omega
 have hul:u.text.length<=LMAX:=by unfold LMAX;omega
 refine QCall.of (fcalls (F:=Tryz.f124) c124 rfl rfl rfl mixed rfl fun X=>?_);(conv=>whnf);intro kp;(conv=>whnf);skip;refine ⟨fun h1=>?_,fun h1=>?_⟩<;>simp only [decide_eq_true_eq,decide_eq_false_iff_not] at h1
 ·have hm:nextM s p u=spellM s p u:=(by rw [nextM,if_pos h1]);rw [hm];(conv=>whnf);repeat ((first|refine QCall.k0 (spellA s p u hs hp hu) ?_|refine ⟨_,_,.head _,rfl,?_⟩);conv=>whnf)
  exact VLe.refl _
 (conv=>whnf);skip;refine ⟨fun h2=>?_,fun h2=>?_⟩<;>simp only [decide_eq_true_eq,decide_eq_false_iff_not] at h2
 ·have hm:nextM s p u=if stBad s p u=true then [] else [⟨u.text,p.closed,p.cl,u⟩]:=(by rw [nextM,if_neg h1,if_pos h2]);(conv=>whnf);repeat ((first|refine ⟨_,_,.head _,rfl,?_⟩|refine And.intro (by show drawOK (opsAt Tryz.f124 _) _=true;decide +kernel) ?_);conv=>whnf)
  refine ⟨fun hq=>?_,fun hq=>?_⟩
  ·have hq:stBad s p u=true:=hq;rw [hm,if_pos hq];(conv=>whnf);exact VLe.nil (by decide)
  have hq:stBad s p u=false:=hq;rw [hm,if_neg (by rw [hq];decide)];(conv=>whnf);repeat ((first|refine ⟨_,_,.head _,rfl,?_⟩|refine ⟨_,_,.here _,leOK,?_⟩);conv=>whnf)
  exact VLe.refl _
 (conv=>whnf);skip;refine ⟨fun h3=>?_,fun h3=>?_⟩<;>simp only [decide_eq_true_eq,decide_eq_false_iff_not] at h3
 ·have hm:nextM s p u=if rpBad p u=true then [] else [⟨p.sounds,p.closed,p.cl,u⟩]:=(by rw [nextM,if_neg h1,if_neg h2,if_pos h3]);(conv=>whnf);repeat ((first|refine gcall (hasSuffix p.sounds u.text hpl hul) ?_|refine ⟨_,_,.head _,rfl,?_⟩);conv=>whnf)
  refine ⟨fun hq=>?_,fun hq=>?_⟩
  ·have hq:rpBad p u=true:=hq;rw [hm,if_pos hq];(conv=>whnf);exact VLe.nil (by decide)
  have hq:rpBad p u=false:=hq;rw [hm,if_neg (by rw [hq];decide)];(conv=>whnf);repeat ((first|refine ⟨_,_,.head _,rfl,?_⟩|refine ⟨_,_,.here _,leOK,?_⟩);conv=>whnf)
  exact VLe.refl _
 (conv=>whnf);skip;refine ⟨fun h4=>?_,fun h4=>?_⟩<;>simp only [decide_eq_true_eq,decide_eq_false_iff_not] at h4
 ·have hm:nextM s p u=if clBad s p u=true then [] else [⟨p.sounds,true,p.cl,u⟩]:=(by rw [nextM,if_neg h1,if_neg h2,if_neg h3,if_pos h4]);(conv=>whnf);repeat ((first|refine ⟨_,_,.head _,rfl,?_⟩|refine And.intro (by show drawOK (opsAt Tryz.f124 _) _=true;decide +kernel) ?_);conv=>whnf)
  refine ⟨fun hq=>?_,fun hq=>?_⟩
  ·have hq:(p.closed||decide (s.e.cls=[])||!decide (u.text=s.e.cls)||decide (0<((ints p.cl).length:Int))||!decide ((p.sounds.length:Int)=s.body.length))=true:=hq;rw [ints_length] at hq;have hq:clBad s p u=true:=hq;rw [hm,if_pos hq];(conv=>whnf);exact VLe.nil (by decide)
  have hq:(p.closed||decide (s.e.cls=[])||!decide (u.text=s.e.cls)||decide (0<((ints p.cl).length:Int))||!decide ((p.sounds.length:Int)=s.body.length))=false:=hq;rw [ints_length] at hq;have hq:clBad s p u=false:=hq;rw [hm,if_neg (by rw [hq];decide)];(conv=>whnf);repeat ((first|refine ⟨_,_,.head _,rfl,?_⟩|refine ⟨_,_,.here _,leOK,?_⟩);conv=>whnf)
  exact VLe.refl _
 have hm:nextM s p u=[]:=(by rw [nextM,if_neg h1,if_neg h2,if_neg h3,if_neg h4]);rw [hm];(conv=>whnf);skip;exact VLe.nil (by decide)
def UseOK (u:Use):Prop:=1<=u.kind/\u.kind<=4/\1<=u.text.length/\u.text.length<=8
theorem begins_len {t w:List UInt8} (h:begins t w=true):w.length<=t.length:=by unfold begins at h;simp only [Bool.and_eq_true,decide_eq_true_eq] at h;omega
theorem spellGo_ok {s:Sp} {p:Prg} {u:Use} (hp:PrgOK s p) (hu:UseOK u) (he:p.sounds.length=(tot s p.cl).length) (h3:p.cl.length<3):∀ (l:List Cli) (c:Int),0<=c->s.H.lex.clitics.drop c.toNat=l->∀ q∈spellGo p u l c,PrgOK s q
 | [],_,_,_,q,hq=>by cases hq
 | k::t,c,h0,hd,q,hq=>by
   unfold spellGo at hq;have hk:s.H.lex.clitics[c.toNat]?=some k:=by have:=congrArg (fun z=>z[0]?) hd;simpa using this
   have hlt:=(List.getElem?_eq_some_iff.1 hk).1;have hd2:s.H.lex.clitics.drop (c+1).toNat=t:=by have:=congrArg List.tail hd;rw [show (c+1).toNat=c.toNat+1 by omega];simpa [List.tail_drop] using this
   rcases List.mem_append.1 hq with hq|hq
   ·split at hq
    ·rename_i hb;cases List.mem_singleton.1 hq
     have hca:(cliAt s.H.lex c)=k:=by have:=cliAt_get (x:=s.H.lex) h0 (by omega);rw [hk] at this;exact (Option.some.inj this).symm
     refine ⟨by simp;omega,fun d hd=>?_,?_,fun h=>?_⟩
     ·rcases List.mem_append.1 hd with hd|hd
      ·exact hp.cli d hd
      cases List.mem_singleton.1 hd;omega
     ·show (p.sounds++u.text).length<=(tot s (p.cl++[c])).length;rw [tot_snoc,List.length_append,List.length_append,hca];have:=begins_len hb;omega
     exact absurd h (by have:=hu.1;show ¬ u.kind=0;omega)
    cases hq
   exact spellGo_ok hp hu he h3 t (c+1) (by omega) hd2 q hq
theorem spellM_ok {s:Sp} {p:Prg} {u:Use} (hp:PrgOK s p) (hu:UseOK u):∀ q∈spellM s p u,PrgOK s q:=by
 intro q hq;unfold spellM at hq;split at hq
 ·split at hq
  ·rename_i hb;cases List.mem_singleton.1 hq
   have:=begins_len hb;unfold partM at this;rw [List.length_drop] at this;refine ⟨hp.few,hp.cli,?_,fun h=>absurd h (by have:=hu.1;show ¬ u.kind=0;omega)⟩;show (p.sounds++u.text).length<=_;rw [List.length_append];have:=hp.sounds;show _<=(tot s p.cl).length;omega
  cases hq
 rename_i h0;split at hq
 ·rename_i h3;have he:p.sounds.length=(tot s p.cl).length:=by have h1:=hp.sounds;simp only [ne_eq,Decidable.not_not] at h0;unfold partM at h0;rw [List.drop_eq_nil_iff] at h0;omega
  exact spellGo_ok hp hu he h3 _ _ (firstC_ok hp).1 rfl q hq
 cases hq
theorem nextM_ok {s:Sp} {p:Prg} {u:Use} (hs:SpOK s) (hp:PrgOK s p) (hu:UseOK u):∀ q∈nextM s p u,PrgOK s q:=by
 intro q hq;have hk:¬ u.kind=0:=by have:=hu.1;omega
 unfold nextM at hq;split at hq
 ·exact spellM_ok hp hu q hq
 split at hq
 ·split at hq
  ·cases hq
  rename_i hb;cases List.mem_singleton.1 hq
  rw [Bool.not_eq_true] at hb;unfold stBad at hb;simp only [Bool.or_eq_false_iff,Bool.not_eq_false',decide_eq_true_eq] at hb;obtain ⟨h1,h2⟩:=hp.new hb.1;refine ⟨hp.few,hp.cli,?_,fun h=>absurd h hk⟩;show u.text.length<=_;rw [hb.2];have:=hs.root;unfold tot;rw [List.length_append];omega
 split at hq
 ·split at hq
  ·cases hq
  cases List.mem_singleton.1 hq
  exact ⟨hp.few,hp.cli,hp.sounds,fun h=>absurd h hk⟩
 split at hq
 ·split at hq
  ·cases hq
  cases List.mem_singleton.1 hq
  exact ⟨hp.few,hp.cli,hp.sounds,fun h=>absurd h hk⟩
 cases hq
def prg0:Prg:=⟨[],false,[],⟨0,[]⟩⟩
theorem prg0_ok (s:Sp):PrgOK s prg0:=⟨by simp [prg0],by simp [prg0],by simp [prg0],fun _=>⟨rfl,rfl⟩⟩
end Go.Abs.Wall
namespace Go.Abs.Wall
open Go Go.Abs Go.Proofs
structure Wrd where
 form:Frm
 uses:List Use
deriving DecidableEq
def encWrd (w:Wrd):List AV:=encFrm w.form++[.sl 2 none (w.uses.map encUse)]
def useCost (c:Cos) (u:Use):Int:=
 if u.kind=1 then c.spell else if u.kind=2 then c.stand else if u.kind=3 then c.rpt else if u.kind=4 then c.cls else 0
def usesCost (c:Cos) (l:List Use):Int:=(l.map (useCost c)).sum
def closes (l:List Use):Bool:=l.any fun u=>decide (u.kind=4)
def frmW (x:Lex) (f:Frm):Int:=if frmErr x f=0 then wgtM x f else 0
def priceM (H:Hou) (w:Wrd):Int:=
 frmW H.lex w.form+usesCost H.costs w.uses+(if (!closes w.uses&&!decide ((entAt H.lex w.form.entry).cls=[]))=true then H.costs.opn else 0)
structure HouOK (H:Hou):Prop where
 lst:lstErr H.list=0
 lex:LexOK H.lex
 costs:∀ c∈costL H.costs,0<=c/\c<=1000
 period:1<=H.period/\H.period<=H.list.periods
theorem houOK {H:Hou} (h:houErr H=0):HouOK H:=by
 unfold houErr at h;split at h
 ·rename_i h1;exact absurd h h1
 rename_i h1;split at h
 ·rename_i h2;exact absurd h h2
 rename_i h2;split at h
 ·cases h
 rename_i h3;split at h
 ·cases h
 rename_i h4;rw [Bool.not_eq_false,List.all_eq_true] at h3;rw [Bool.not_eq_false,wthn_iff] at h4;exact ⟨by omega,lexOK (by omega),fun c hc=>wthn_iff.1 (h3 c hc),h4⟩
theorem useCost_bound {H:Hou} (h:HouOK H) (u:Use):0<=useCost H.costs u/\useCost H.costs u<=1000:=by
 have hc:=h.costs;unfold useCost;split
 ·exact hc _ (by simp [costL])
 split
 ·exact hc _ (by simp [costL])
 split
 ·exact hc _ (by simp [costL])
 split
 ·exact hc _ (by simp [costL])
 omega
theorem usesCost_bound {H:Hou} (h:HouOK H):∀ l:List Use,0<=usesCost H.costs l/\usesCost H.costs l<=1000*l.length
 | []=>by simp [usesCost]
 | u::l=>by have h1:=usesCost_bound h l;have h2:=useCost_bound h u;unfold usesCost at h1 ⊢;simp only [List.map_cons,List.sum_cons,List.length_cons];omega
theorem usesCost_snoc {c:Cos} {l:List Use} {u:Use}:usesCost c (l++[u])=usesCost c l+useCost c u:=by unfold usesCost;simp
theorem closes_snoc {l:List Use} {u:Use}:closes (l++[u])=(closes l||decide (u.kind=4)):=by unfold closes;simp
theorem frmW_bound {x:Lex} {f:Frm}:0<=frmW x f/\frmW x f<=5000:=by
 unfold frmW;split
 ·rename_i h;exact (frmOK h).wgt
 omega
theorem priceM_bound {H:Hou} (h:HouOK H) {w:Wrd}:0<=priceM H w/\priceM H w<=6000+1000*w.uses.length:=by have h1:=frmW_bound (x:=H.lex) (f:=w.form);have h2:=usesCost_bound h w.uses;have h3:=h.costs H.costs.opn (by simp [costL]);unfold priceM;split<;>omega
def c123:Cfg:=⟨[0,1,2,3,4,5,7,9,19,20,21,22,26,27,34,41,48,69],[],[9],[],[],[]⟩
theorem priceW (H:Hou) (w:Wrd) (hx:LexFit H.lex) (hH:HouOK H) (hf:w.form.clitics.length<=LMAX) (he:0<=w.form.entry/\w.form.entry<H.lex.entries.length) (hu:w.uses.length<=1048576) :
  QCall Tryz.prog 123 [.agg (encHou H),.agg (encWrd w)] [] (.int .i64 (priceM H w)):=by
 have hfw:=frmW_bound (x:=H.lex) (f:=w.form);have hop:=hH.costs H.costs.opn (by simp [costL]);refine fcalls (F:=Tryz.f123) c123 rfl rfl rfl mixed rfl fun X=>?_;(conv=>whnf);repeat (refine QCall.k0 (WeightW H.lex w.form hx hf) ?_;conv=>whnf)
 refine sloop rfl mixed [2,3,5,7,19,20,21] [] (fun m r h=>∃ (i:Nat) (n:Int) (cl:Bool),r=[(2,[],.iptr (encHou H)),(3,[],.iptr (encWrd w)),(5,[],.int .i64 n),(7,[],.bool cl),(19,[],.sl 2 none (w.uses.map encUse)),(20,[],.int .i64 (w.uses.map encUse).length),(21,[],.int .i64 i)]/\h=[]/\m=w.uses.length - i/\i<=w.uses.length/\n=frmW H.lex w.form+usesCost H.costs (w.uses.take i)/\cl=closes (w.uses.take i)) ?_ ?_
 ·(conv=>whnf);exact ⟨_,0,frmW H.lex w.form,false,rfl,rfl,rfl,by omega,by simp [usesCost],by simp [closes]⟩
 rintro m r h' ⟨i,n,cl,rfl,rfl,rfl,hi,hn,hcl⟩;have hb:=usesCost_bound hH (w.uses.take i);rw [List.length_take] at hb;(conv=>whnf);refine ⟨fun hi2=>?_,fun hi2=>?_⟩<;>simp at hi2
 ·obtain ⟨u,hu'⟩:=get_lt hi2;have hs':=take_snoc hu';have hcb:=useCost_bound hH u;have hsc:=usesCost_snoc (c:=H.costs) (l:=w.uses.take i) (u:=u);have hsl:=closes_snoc (l:=w.uses.take i) (u:=u);rw [<- hs'] at hsc hsl;unfold useCost at hsc hcb;(conv=>whnf);repeat ((first|refine ix (by assumption) ?_|refine ⟨_,_,Rem.here _,⟨Nat.le_of_ble_eq_true rfl,rfl⟩,?_⟩|intro (nb:Nat));conv=>whnf)
  refine ⟨fun hk=>?_,fun hk=>?_⟩<;>simp only [decide_eq_true_eq,decide_eq_false_iff_not] at hk
  ·rw [if_pos hk] at hsc hcb;(conv=>whnf);repeat (refine ⟨gP_of ⟨by omega,by omega⟩,?_⟩;conv=>whnf)
   exact ⟨_,by omega,i+1,_,_,rfl,rfl,rfl,by omega,by rw [hsc,hn];show _+_=_;omega,by rw [hsl,hcl,decide_eq_false (by omega),Bool.or_false]⟩
  rw [if_neg hk] at hsc hcb;(conv=>whnf);refine ⟨fun hk2=>?_,fun hk2=>?_⟩<;>simp only [decide_eq_true_eq,decide_eq_false_iff_not] at hk2
  ·rw [if_pos hk2] at hsc hcb;(conv=>whnf);repeat (refine ⟨gP_of ⟨by omega,by omega⟩,?_⟩;conv=>whnf)
   exact ⟨_,by omega,i+1,_,_,rfl,rfl,rfl,by omega,by rw [hsc,hn];show _+_=_;omega,by rw [hsl,hcl,decide_eq_false (by omega),Bool.or_false]⟩
  rw [if_neg hk2] at hsc hcb;(conv=>whnf);refine ⟨fun hk3=>?_,fun hk3=>?_⟩<;>simp only [decide_eq_true_eq,decide_eq_false_iff_not] at hk3
  ·rw [if_pos hk3] at hsc hcb;(conv=>whnf);repeat (refine ⟨gP_of ⟨by omega,by omega⟩,?_⟩;conv=>whnf)
   exact ⟨_,by omega,i+1,_,_,rfl,rfl,rfl,by omega,by rw [hsc,hn];show _+_=_;omega,by rw [hsl,hcl,decide_eq_false (by omega),Bool.or_false]⟩
  rw [if_neg hk3] at hsc hcb;(conv=>whnf);refine ⟨fun hk4=>?_,fun hk4=>?_⟩<;>simp only [decide_eq_true_eq,decide_eq_false_iff_not] at hk4
  ·rw [if_pos hk4] at hsc hcb;(conv=>whnf);repeat (refine ⟨gP_of ⟨by omega,by omega⟩,?_⟩;conv=>whnf)
   exact ⟨_,by omega,i+1,_,_,rfl,rfl,rfl,by omega,by rw [hsc,hn];show _+_=_;omega,by rw [hsl,decide_eq_true hk4,Bool.or_true]⟩
  rw [if_neg hk4] at hsc hcb;(conv=>whnf);repeat (refine ⟨gP_of ⟨by omega,by omega⟩,?_⟩;conv=>whnf)
  exact ⟨_,by omega,i+1,_,_,rfl,rfl,rfl,by omega,by rw [hsc,hn];omega,by rw [hsl,hcl,decide_eq_false hk4,Bool.or_false]⟩
 rw [List.take_of_length_le hi2] at hn hcl hb;(conv=>whnf);repeat ((refine ixn w.form.entry.toNat (by omega) (entAt_get he.1 he.2) ?_);conv=>whnf)
 refine ⟨fun hq=>?_,fun hq=>?_⟩
 ·have hq:(!cl&&!decide ((entAt H.lex w.form.entry).cls=[]))=true:=hq;rw [hcl] at hq;(conv=>whnf);repeat (refine ⟨gP_of ⟨by omega,by omega⟩,?_⟩;conv=>whnf)
  refine ⟨congrArg (AV.int .i64) ?_,rfl⟩;rw [priceM,if_pos hq,hn]
 have hq:(!cl&&!decide ((entAt H.lex w.form.entry).cls=[]))=false:=hq;rw [hcl] at hq;(conv=>whnf);skip;refine ⟨congrArg (AV.int .i64) ?_,rfl⟩;rw [priceM,if_neg (by rw [hq];decide),hn];omega
end Go.Abs.Wall
namespace Go.Abs.Wall
open Go Go.Abs Go.Proofs
structure Edg where
 frm:Int
 to:Int
 cost:Int
 word:Wrd
deriving DecidableEq
def encEdg (e:Edg):List AV:=[.int .i64 e.frm,.int .i64 e.to,.int .i64 e.cost]++encWrd e.word
def encUses (us:List Use):List AV:=[.sl 2 none (us.map encUse)]
structure Env where
 H:Hou
 s:Sp
 at_:Int
 entry:Int
 ending:Int
structure Run extends Env where
 most:Nat
 All:List (List Use)
def mkEdge (E:Env) (p:Prg) (T:List Use):Edg:=⟨E.at_,E.at_+T.length,priceM E.H ⟨⟨E.entry,E.ending,p.cl⟩,T⟩,⟨⟨E.entry,E.ending,p.cl⟩,T⟩⟩
def headW (E:Env) (p:Prg) (T:List Use):List Edg:=if (decide (0<(T.length:Int))&&endsM E.s p)=true then [mkEdge E p T] else []
def wordsR (E:Env):List (List Use)->Prg->List Use->List Edg
 | [],_,_=>[]
 | us::r,p,T=>us.flatMap fun u=>(nextM E.s p u).flatMap fun q=>headW E q (T++[u])++wordsR E r q (T++[u])
def wordsF (E:Env) (rest:List (List Use)) (p:Prg) (T:List Use):List Edg:=headW E p T++wordsR E rest p T
structure EnvOK (E:Run):Prop where
 hou:HouOK E.H
 fit:HouFit E.H
 sp:SpOK E.s
 entry:0<=E.entry/\E.entry<E.H.lex.entries.length
 place:0<=E.at_/\E.at_<=1048576
 most:E.most<=1048576
 few:E.All.length<=12
 uses:∀ us∈E.All,us.length<=1048576/\∀ u∈us,UseOK u
def capsW (E:Run) (sk tk lk en:Nat):List AV:=
 [.optr tk 0,.iptr [.iptr (encSp E.s)],.iptr [.int .i64 E.entry],.optr en 0,.optr lk 0,.iptr [.int .i64 E.at_],.iptr (encHou E.H),.iptr [.sl 1 none (E.All.map encUses)],.iptr [.int .i64 E.most],.optr sk 0]
def HC (E:Run) (sk tk lk en:Nat) (tv lv:AV):Heap:=[(sk,.vec [.fn 119 (capsW E sk tk lk en)]),(tk,.vec [tv]),(lk,.vec [lv]),(en,.vec [.int .i64 E.ending])]
def TRow (T:List Use) (v:AV) (hp:Heap):Prop:=(T=[]/\v=.nilO/\hp=[])\/∃ b,v=.osl b 0 T.length 2/\hp=[(b,.vec (T.map encUse).flatten)]
theorem take_app {α:Type} {A B C:List α} {m:Nat}:((A++B).take m++C).take m=(A++(B++C)).take m:=by
 rw [<- List.append_assoc];by_cases h:(A++B).length<=m
 ·rw [List.take_of_length_le h]
 have h1:m<=(A++B).length:=(by omega);rw [List.take_append_of_le_length h1,List.take_append_of_le_length (by rw [List.length_take];omega),List.take_take,Nat.min_self]
theorem ACalls.perm {f:FuncId} {vs:List AV} {h h':Heap} {R:AV->Heap->Prop} (hf:ACalls Tryz.prog f vs h R) (hp:h.Perm h'):ACalls Tryz.prog f vs h' R:=
 ACalls.pre hf (fun k o hm=>hp.mem_iff.1 hm) (fun hn=>by unfold keys at hn ⊢;exact ((hp.map _).nodup_iff).2 hn)
theorem QCall.perm {f:FuncId} {vs:List AV} {h h2 h':Heap} {v:AV} (hf:QCall Tryz.prog f vs h v) (hp:(h++h2).Perm h'):QCall Tryz.prog f vs h' v:=by refine ACalls.post (ACalls.perm (ACalls.frame hf h2) hp) ?_;rintro v' h1 ⟨h3,⟨rfl,rfl⟩,rfl⟩;exact ⟨_,h',⟨rfl,rfl⟩,VLe.refl _,fun k o hm=>hp.mem_iff.2 hm,fun hn=>by unfold keys at hn ⊢;exact ((hp.map _).nodup_iff).1 hn⟩
theorem Turn.perm {r:Regs} {h h':Heap} (hp:h.Perm h'):Turn r h r h':=
 Turn.sub (fun k o hm=>hp.mem_iff.2 hm) (fun hn=>by unfold keys at hn ⊢;exact ((hp.map _).nodup_iff).1 hn)
theorem cloneU0 (b:Nat) (l:List Use) (hl:l.length<=AMAX):QCall Tryz.prog 122 [.osl b 0 l.length 2] [(b,.vec (l.map encUse).flatten)] (.sl 2 none (l.map encUse)):=by have:=cloneUO b l [] hl;rwa [List.append_nil] at this
theorem nextM_len {s:Sp} (hs:SpOK s) (p:Prg) (u:Use):(nextM s p u).length<=11:=by
 have h1:=hs.lex.many.2.2;unfold nextM spellM;repeat' split
 all_goals first|(simp;done)|(have h2:=spellGo_len p u (s.H.lex.clitics.drop (firstC p.cl).toNat) (firstC p.cl);rw [List.length_drop] at h2;omega)
def StepC (E:Run) (sk tk lk en:Nat) (rest:List (List Use)):Prop:=
 ∀ (p:Prg) (T:List Use) (L:List Edg) (tv:AV) (thp:Heap) (lv:AV) (lhp:Heap),(∃ pre,E.All=pre++rest/\pre.length=T.length)->PrgOK E.s p->TRow T tv thp->Row 7 encEdg L lv lhp->(T≠[]->L.length<=E.most)->L.length<=E.most+1 ->
  ACalls Tryz.prog 119 (.agg (encPrg p)::capsW E sk tk lk en) (HC E sk tk lk en tv lv++(thp++lhp))
   (fun v h'=>v=.tup []/\∃ tv' thp' lv' lhp',TRow T tv' thp'/\Row 7 encEdg ((L++wordsF E.toEnv rest p T).take (E.most+1)) lv' lhp'/\h'=HC E sk tk lk en tv' lv'++(thp'++lhp'))
def c119:Cfg:=⟨[0,1,2,3,4,5,6,7,8,9,10,11,12,13,15,17,26,51,55,56,57,58,64,65,66,67,73],[],[13,15,17],[],[(3,[0,1,2,3,4,5,6,7,8,9,10],[13]),(4,[0,1,2,3,4,5,6,7,8,9,10,11,12],[])],[]⟩
def restW (E:Run) (rest':List (List Use)) (p:Prg) (T:List Use) (us:List Use):List Edg:=us.flatMap fun u=>(nextM E.s p u).flatMap fun q=>wordsF E.toEnv rest' q (T++[u])
def StepJ (E:Run) (sk tk lk en:Nat) (p:Prg) (T:List Use) (us:List Use) (rest':List (List Use)) (W0:List Edg) (m:Nat) (r:Regs) (h:Heap):Prop:=
 ∃ (k:Nat) (n:Int) (L2:List Edg) (tv:AV) (thp:Heap) (lv:AV) (lhp:Heap),r=[(1,[],.optr tk 0),(2,[],.iptr [.iptr (encSp E.s)]),(5,[],.optr lk 0),(9,[],.iptr [.int .i64 E.most]),(10,[],.optr sk 0),(11,[],.iptr (encPrg p)),(12,[],.int .i64 n),(55,[],.sl 2 none (us.map encUse)),(56,[],.int .i64 (us.map encUse).length),(57,[],.int .i64 k)]/\h=HC E sk tk lk en tv lv++(thp++lhp)/\m=us.length - k/\n=T.length/\k<=us.length/\TRow T tv thp/\Row 7 encEdg L2 lv lhp/\L2.length<=E.most+1/\W0=(L2++restW E rest' p T (us.drop k)).take (E.most+1)
def StepR (E:Run) (sk tk lk en:Nat) (T:List Use) (W0:List Edg) (v:AV) (h':Heap):Prop:=v=.tup []/\∃ tv' thp' lv' lhp',TRow T tv' thp'/\Row 7 encEdg W0 lv' lhp'/\h'.Perm (HC E sk tk lk en tv' lv'++(thp'++lhp'))
set_option maxHeartbeats 2000000 in
theorem loopBody (E:Run) (sk tk lk en:Nat) (hE:EnvOK E) (p:Prg) (T:List Use) (us:List Use) (rest':List (List Use)) (W0:List Edg) (pre:List (List Use)) (hA:E.All=pre++us::rest') (hpl:pre.length=T.length) (hp:PrgOK E.s p) (IH:StepC E sk tk lk en rest') (kk:Nat) (X:Nat->Prop) :
  ∀ m r h,StepJ E sk tk lk en p T us rest' W0 m r h->run Tryz.prog c119 Tryz.f119 ⟨Tryz.f119.ntmps,X,endP Tryz.prog Tryz.f119 (StepR E sk tk lk en T W0)⟩ (kk+3900) (.go [false,false,true,true,true,true,true]) [.head (atHead [1,2,5,9,10,11,12,55,56,57] [] (TurnTo fun r h=>∃ m',m'<m/\StepJ E sk tk lk en p T us rest' W0 m' r h)),.blk 0] r h:=by
 have hfew:=hE.few;have hAl:=congrArg List.length hA;rw [List.length_append,List.length_cons] at hAl;have hpc:=hp.few;have hmost:=hE.most;have hTb:T.length+1<=AMAX:=by unfold AMAX;omega
 have hus:E.All[T.length]?=some us:=by rw [hA,<- hpl];simp
 obtain ⟨hub,huo⟩:=hE.uses us (List.mem_of_getElem? hus);rintro m r h' ⟨k,n,L2,tv,thp,lv,lhp,rfl,rfl,rfl,hn,hk,hT2,hL2,hL2m,hW2⟩;unfold restW at hW2;(conv=>whnf);refine ⟨fun hi2=>?_,fun hi2=>?_⟩<;>simp at hi2
 ·obtain ⟨u,hu⟩:=get_lt hi2;have huk:=huo u (List.mem_of_getElem? hu);rw [drop_cons hu,List.flatMap_cons] at hW2;have hnx:=nextM_ok hE.sp hp huk;have hnl:=nextM_len hE.sp p u;(conv=>whnf);repeat ((first|refine ix (by assumption) ?_|refine QCall.k0 (nextA E.s p u hE.sp hp (by have:=huk.2.2.2;omega)) ?_|refine ⟨_,_,Rem.here _,⟨Nat.le_of_ble_eq_true rfl,rfl⟩,?_⟩|intro (nb:Nat));conv=>whnf)
  refine tloop rfl mixed [1,2,5,9,10,11,12,15,55,56,57,64,65,66] [] (fun m r h=>∃ (j:Nat) (n:Int) (L3:List Edg) (tv:AV) (thp:Heap) (lv:AV) (lhp:Heap),r=[(1,[],.optr tk 0),(2,[],.iptr [.iptr (encSp E.s)]),(5,[],.optr lk 0),(9,[],.iptr [.int .i64 E.most]),(10,[],.optr sk 0),(11,[],.iptr (encPrg p)),(12,[],.int .i64 n),(15,[],.iptr (encUse u)),(55,[],.sl 2 none (us.map encUse)),(56,[],.int .i64 (us.map encUse).length),(57,[],.int .i64 k),(64,[],.sl 6 none ((nextM E.s p u).map encPrg)),(65,[],.int .i64 ((nextM E.s p u).map encPrg).length),(66,[],.int .i64 j)]/\h=HC E sk tk lk en tv lv++(thp++lhp)/\m=(nextM E.s p u).length - j/\n=T.length/\j<=(nextM E.s p u).length/\TRow T tv thp/\Row 7 encEdg L3 lv lhp/\L3.length<=E.most+1/\W0=(L3++(((nextM E.s p u).drop j).flatMap (fun q=>wordsF E.toEnv rest' q (T++[u]))++(us.drop (k+1)).flatMap fun u=>(nextM E.s p u).flatMap fun q=>wordsF E.toEnv rest' q (T++[u]))).take (E.most+1)) ?_ ?_
  ·(conv=>whnf);exact ⟨_,_,Turn.refl _ _,_,0,n,L2,_,_,_,_,rfl,rfl,rfl,hn,by omega,hT2,hL2,hL2m,hW2⟩
  clear hT2 hL2 hL2m hW2;rintro m r h' ⟨j,n,L3,tv,thp,lv,lhp,rfl,rfl,rfl,rfl,hj,hT3,hL3,hL3m,hW3⟩;(conv=>whnf);refine ⟨fun hj2=>?_,fun hj2=>?_⟩<;>simp at hj2
  ·obtain ⟨q,hq⟩:=get_lt hj2;have hqo:=hnx q (List.mem_of_getElem? hq);rw [drop_cons hq,List.flatMap_cons,List.append_assoc] at hW3;have hT3':=hT3;have hL3':=hL3;rcases hT3 with ⟨hTe3,rfl,rfl⟩|⟨b3,rfl,rfl⟩<;>rcases hL3 with ⟨hLe3,rfl,rfl⟩|⟨hLe3,l3,rfl,rfl⟩
   all_goals
    (conv=>whnf);repeat ((first|refine ix (by assumption) ?_|(refine ⟨_,_,.tail _ (.tail _ (.head _)),rfl,?_⟩)|refine ⟨_,_,Rem.here _,⟨Nat.le_of_ble_eq_true rfl,rfl⟩,?_⟩|intro (nb:Nat));conv=>whnf)
    refine ⟨fun hz3=>?_,fun hz3=>?_⟩<;>simp only [decide_eq_true_eq,decide_eq_false_iff_not] at hz3
    ·have hL3l:E.most+1<=L3.length:=(by first|omega|(rw [hLe3];simp;omega));rw [List.take_append_of_le_length hL3l,List.take_of_length_le hL3m] at hW3;(conv=>whnf);exact ⟨rfl,_,_,_,_,hT3',by rw [hW3];exact hL3',List.Perm.refl _⟩
    have hL3l:L3.length<=E.most:=(by first|omega|(rw [hLe3];simp));(conv=>whnf);repeat ((first|(refine ⟨⟨Nat.le_of_ble_eq_true rfl,Nat.le_of_ble_eq_true rfl⟩,fun b4=>?_⟩)|(refine ⟨_,.tail _ (.tail _ (.tail _ (.tail _ (.head _)))),⟨enc_len (fun _=>rfl),hTb⟩,fun b4=>⟨_,.there (.there (.there (.there (.here _)))),?_⟩⟩)|(refine ⟨_,_,.there (.there (.here _)),leOK,?_⟩)|refine ⟨_,_,.head _,rfl,?_⟩|refine ⟨_,_,.tail _ (.head _),rfl,?_⟩|refine ⟨_,_,.there (.here _),leOK,?_⟩);conv=>whnf)
    first
     | (have hT4:TRow (T++[u]) (.osl b4 0 1 2) [(b4,.vec (encUse u++[]))]:=.inr ⟨b4,by rw [hTe3];rfl,by rw [hTe3];rfl⟩
        refine ACalls.mono ?_ (ACalls.perm (IH q (T++[u]) L3 _ _ _ _ ⟨pre++[us],by rw [hA];simp,by simp [hpl]⟩ hqo hT4 hL3' (fun _=>hL3l) hL3m) (List.perm_middle (l₁:=HC E sk tk lk en (.osl b4 0 1 2) _))))
     | (have hT4:TRow (T++[u]) (.osl b4 0 (T.length+1) 2) [(b4,.vec ((T.map encUse).flatten++(encUse u++[])))]:=.inr ⟨b4,by rw [List.length_append];rfl,by rw [List.map_append,List.flatten_append];rfl⟩
        refine ACalls.mono ?_ (ACalls.perm (IH q (T++[u]) L3 _ _ _ _ ⟨pre++[us],by rw [hA];simp,by simp [hpl]⟩ hqo hT4 hL3' (fun _=>hL3l) hL3m) (List.Perm.refl _)))
    rintro v h1 ⟨rfl,tv5,thp5,lv5,lhp5,hT5,hL5,rfl⟩;have hfl:((T++[u]).map encUse).flatten=(T.map encUse).flatten++encUse u:=(by simp);rcases hT5 with ⟨e5,_,_⟩|⟨b5,rfl,hb5⟩
    ·simp at e5
    rw [hfl] at hb5;subst hb5;(conv=>whnf);repeat ((first|refine ⟨gP_of ⟨by omega,by omega⟩,?_⟩|(refine ⟨gP_of ⟨by omega,by omega,by simp;omega,.inl rfl⟩,?_⟩)|refine ⟨_,_,.tail _ (.head _),rfl,?_⟩|refine ⟨_,_,.there (.here _),leOK,?_⟩);conv=>whnf)
    exact ⟨_,_,Turn.cut (xs:=(T.map encUse).flatten) (ys:=encUse u) (.there (.there (.there (.there (.here _))))),_,(by omega),j+1,_,_,_,_,_,_,rfl,rfl,rfl,rfl,by omega,.inr ⟨b5,rfl,rfl⟩,hL5,by rw [List.length_take];omega,by rw [take_app];exact hW3⟩
  rw [drop_nil hj2,List.flatMap_nil,List.nil_append] at hW3;(conv=>whnf);repeat (refine ⟨gP_of ⟨by omega,by omega⟩,?_⟩;conv=>whnf)
  exact ⟨_,_,Turn.refl _ _,_,(by omega),k+1,_,L3,_,_,_,_,rfl,rfl,rfl,rfl,by omega,hT3,hL3,hL3m,hW3⟩
 rw [drop_nil hi2,List.flatMap_nil,List.append_nil,List.take_of_length_le hL2m] at hW2;(conv=>whnf);skip;exact ⟨rfl,_,_,_,_,hT2,by rw [hW2];exact hL2,List.Perm.refl _⟩
set_option maxHeartbeats 4000000 in
theorem stepOne (E:Run) (sk tk lk en:Nat) (hE:EnvOK E) (rest:List (List Use)) (IH:∀ us r,rest=us::r->StepC E sk tk lk en r):StepC E sk tk lk en rest:=by
 intro p T L tv thp lv lhp hpre hp hT hL hTL hLm;obtain ⟨pre,hA,hpl⟩:=hpre;have hfew:=hE.few;have hAl:=congrArg List.length hA;rw [List.length_append] at hAl;have hpc:=hp.few;have hmost:=hE.most;have hpl2:=hE.place;have hTb:T.length+1<=AMAX:=by unfold AMAX;omega
 refine ACalls.post (R:=fun v h'=>v=.tup []/\∃ tv' thp' lv' lhp',TRow T tv' thp'/\Row 7 encEdg ((L++wordsF E.toEnv rest p T).take (E.most+1)) lv' lhp'/\h'.Perm (HC E sk tk lk en tv' lv'++(thp'++lhp'))) ?_ ?_
 ·have hT1:=hT;rcases hT with ⟨hTe,rfl,rfl⟩|⟨b,rfl,rfl⟩
  ·have hT0:T.length=0:=by rw [hTe];rfl
   have hW:(L++wordsF E.toEnv rest p T).take (E.most+1)=(L++wordsR E.toEnv rest p T).take (E.most+1):=by unfold wordsF headW;rw [hT0];rfl
   have hL1:=hL;have hL1m:=hLm;obtain ⟨L1,hLe⟩:∃ L1,L1=L:=⟨_,rfl⟩;rw [<- hLe] at hL1 hL1m;have hW:(L++wordsF E.toEnv rest p T).take (E.most+1)=(L1++wordsR E.toEnv rest p T).take (E.most+1):=(by rw [hW,hLe]);refine fcalls (F:=Tryz.f119) c119 rfl rfl rfl mixed rfl fun X=>?_;(conv=>whnf);repeat ((first|(refine gcall (endsA E.s p hE.sp hp) ?_)|refine ⟨_,_,.tail _ (.head _),rfl,?_⟩);conv=>whnf)
   refine cF rfl ?_;(conv=>whnf);skip;refine ⟨fun hz=>?_,fun hz=>?_⟩<;>simp only [decide_eq_true_eq,decide_eq_false_iff_not,List.length_map] at hz
   ·have hr:rest=[]:=List.eq_nil_of_length_eq_zero (by omega);rw [hr,show wordsR E.toEnv [] p T=[] from rfl,List.append_nil,List.take_of_length_le hL1m,<- hr] at hW;(conv=>whnf);exact ⟨rfl,_,_,_,_,hT1,by rw [hW];exact hL1,(by first|exact List.Perm.refl _|exact List.perm_append_comm (l₁:=[_]) (l₂:=[_,_,_,_,_]))⟩
   obtain ⟨us,rest',hr⟩:∃ us r,rest=us::r:=by
    cases rest with
    | nil=>simp at hAl;omega
    | cons us r=>exact ⟨us,r,rfl⟩
   have hus:E.All[T.length]?=some us:=by rw [hA,hr,<- hpl];simp
   obtain ⟨hub,huo⟩:=hE.uses us (List.mem_of_getElem? hus);have IH:=IH us rest' hr;have hwr:wordsR E.toEnv rest p T=us.flatMap fun u=>(nextM E.s p u).flatMap fun q=>wordsF E.toEnv rest' q (T++[u]):=by rw [hr];rfl
   rw [hwr] at hW;(conv=>whnf);repeat ((refine ixn T.length (by first|rfl|omega) hus ?_);conv=>whnf)
   refine tloop rfl mixed [1,2,5,9,10,11,12,55,56,57] [] (StepJ E sk tk lk en p T us rest' ((L++wordsF E.toEnv rest p T).take (E.most+1))) ?_ (loopBody E sk tk lk en hE p T us rest' _ pre (by rw [hA,hr]) hpl hp IH _ X);(conv=>whnf);exact ⟨_,_,Turn.perm (by first|exact List.Perm.refl _|exact List.perm_append_comm (l₁:=[_]) (l₂:=[_,_,_,_,_])),_,0,_,L1,_,_,_,_,rfl,rfl,rfl,by first|rfl|omega,by omega,hT1,hL1,hL1m,hW⟩
  refine fcalls (F:=Tryz.f119) c119 rfl rfl rfl mixed rfl fun X=>?_;(conv=>whnf);repeat ((first|(refine gcall (endsA E.s p hE.sp hp) ?_)|refine ⟨_,_,.tail _ (.head _),rfl,?_⟩);conv=>whnf)
  refine ⟨fun hq=>?_,fun hq=>?_⟩
  ·have hq:(decide (0<(T.length:Int))&&endsM E.s p)=true:=hq;have hh:headW E.toEnv p T=[mkEdge E.toEnv p T]:=by unfold headW;rw [if_pos hq]
   have hTne:T≠[]:=by intro h;rw [h] at hq;cases hq
   have hLm2:=hTL hTne;obtain ⟨L1,hLe⟩:∃ L1,L1=L++[mkEdge E.toEnv p T]:=⟨_,rfl⟩;have hL1m:L1.length<=E.most+1:=by rw [hLe,List.length_append,List.length_singleton];omega
   have hW:(L++wordsF E.toEnv rest p T).take (E.most+1)=(L1++wordsR E.toEnv rest p T).take (E.most+1):=by unfold wordsF;rw [hh,hLe,List.append_assoc]
   rcases hL with ⟨hLn,rfl,rfl⟩|⟨hLn,lb,rfl,rfl⟩
   ·(conv=>whnf);repeat ((first|refine gcall (cloneI p.cl (by unfold AMAX;omega)) ?_|(refine ⟨_,_,.tail _ (.tail _ (.tail _ (.head _))),rfl,?_⟩)|refine ⟨_,_,.tail _ (.head _),rfl,?_⟩|refine And.intro (by show drawOK (opsAt Tryz.f119 _) _=true;decide +kernel) ?_);conv=>whnf)
    refine gcallH (QCall.perm (h:=[(b,.vec (T.map encUse).flatten)]) (h2:=HC E sk tk lk en (.osl b 0 T.length 2) .nilO++[]) (cloneU0 b T (by unfold AMAX;omega)) (List.perm_middle (l₁:=HC E sk tk lk en (.osl b 0 T.length 2) .nilO) (l₂:=[])).symm) ?_;(conv=>whnf);repeat ((first|refine ⟨gP_of ⟨by omega,by omega⟩,?_⟩|(refine ⟨_,_,.tail _ (.tail _ (.head _)),rfl,?_⟩)|(refine gcall (priceW E.H ⟨⟨E.entry,E.ending,p.cl⟩,T⟩ hE.fit.lex hE.hou (by show p.cl.length<=LMAX;unfold LMAX;omega) hE.entry (by show T.length<=1048576;omega)) ?_)|(refine ⟨⟨Nat.le_of_ble_eq_true rfl,Nat.le_of_ble_eq_true rfl⟩,fun b4=>?_⟩)|(refine ⟨_,_,.there (.there (.there (.here _))),leOK,?_⟩)|refine ⟨_,_,Rem.here _,?_⟩|refine ⟨_,_,.here _,leOK,?_⟩|refine And.intro (by show drawOK (opsAt Tryz.f119 _) _=true;decide +kernel) ?_|intro (nb:Nat));conv=>whnf)
    have hL1:Row 7 encEdg L1 (.osl b4 0 1 7) [(b4,.vec (encEdg (mkEdge E.toEnv p T)++[]))]:=by rw [hLe,hLn];exact .inr ⟨by simp,b4,rfl,by simp⟩
    refine ⟨fun hz=>?_,fun hz=>?_⟩<;>simp only [decide_eq_true_eq,decide_eq_false_iff_not,List.length_map] at hz
    ·have hr:rest=[]:=List.eq_nil_of_length_eq_zero (by omega);rw [hr,show wordsR E.toEnv [] p T=[] from rfl,List.append_nil,List.take_of_length_le hL1m,<- hr] at hW;(conv=>whnf);exact ⟨rfl,_,_,_,_,hT1,by rw [hW];exact hL1,(by first|exact List.Perm.refl _|exact List.perm_append_comm (l₁:=[_]) (l₂:=[_,_,_,_,_]))⟩
    obtain ⟨us,rest',hr⟩:∃ us r,rest=us::r:=by
     cases rest with
     | nil=>simp at hAl;omega
     | cons us r=>exact ⟨us,r,rfl⟩
    have hus:E.All[T.length]?=some us:=by rw [hA,hr,<- hpl];simp
    obtain ⟨hub,huo⟩:=hE.uses us (List.mem_of_getElem? hus);have IH:=IH us rest' hr;have hwr:wordsR E.toEnv rest p T=us.flatMap fun u=>(nextM E.s p u).flatMap fun q=>wordsF E.toEnv rest' q (T++[u]):=by rw [hr];rfl
    rw [hwr] at hW;(conv=>whnf);repeat (refine ix (by assumption) ?_;conv=>whnf)
    refine tloop rfl mixed [1,2,5,9,10,11,12,55,56,57] [] (StepJ E sk tk lk en p T us rest' ((L++wordsF E.toEnv rest p T).take (E.most+1))) ?_ (loopBody E sk tk lk en hE p T us rest' _ pre (by rw [hA,hr]) hpl hp IH _ X);(conv=>whnf);exact ⟨_,_,Turn.perm (by first|exact List.Perm.refl _|exact List.perm_append_comm (l₁:=[_]) (l₂:=[_,_,_,_,_])),_,0,_,L1,_,_,_,_,rfl,rfl,rfl,by first|rfl|omega,by omega,hT1,hL1,hL1m,hW⟩
   have hLb:L.length+1<=AMAX:=by unfold AMAX;omega
   (conv=>whnf);repeat ((first|refine gcall (cloneI p.cl (by unfold AMAX;omega)) ?_|(refine ⟨_,_,.tail _ (.tail _ (.tail _ (.head _))),rfl,?_⟩)|refine ⟨_,_,.tail _ (.head _),rfl,?_⟩|refine And.intro (by show drawOK (opsAt Tryz.f119 _) _=true;decide +kernel) ?_);conv=>whnf)
   refine gcallH (QCall.perm (h:=[(b,.vec (T.map encUse).flatten)]) (h2:=HC E sk tk lk en (.osl b 0 T.length 2) (.osl lb 0 L.length 7)++[(lb,.vec (L.map encEdg).flatten)]) (cloneU0 b T (by unfold AMAX;omega)) (List.perm_middle (l₁:=HC E sk tk lk en (.osl b 0 T.length 2) (.osl lb 0 L.length 7)) (l₂:=[(lb,.vec (L.map encEdg).flatten)])).symm) ?_;(conv=>whnf);repeat ((first|refine ⟨gP_of ⟨by omega,by omega⟩,?_⟩|(refine ⟨_,_,.tail _ (.tail _ (.head _)),rfl,?_⟩)|(refine gcall (priceW E.H ⟨⟨E.entry,E.ending,p.cl⟩,T⟩ hE.fit.lex hE.hou (by show p.cl.length<=LMAX;unfold LMAX;omega) hE.entry (by show T.length<=1048576;omega)) ?_)|(refine ⟨_,.tail _ (.tail _ (.tail _ (.tail _ (.tail _ (.head _))))),⟨enc_len (fun _=>rfl),hLb⟩,fun b4=>⟨_,.there (.there (.there (.there (.there (.here _))))),?_⟩⟩)|(refine ⟨_,_,.there (.there (.here _)),leOK,?_⟩)|refine ⟨_,_,Rem.here _,?_⟩|refine ⟨_,_,.here _,leOK,?_⟩|refine And.intro (by show drawOK (opsAt Tryz.f119 _) _=true;decide +kernel) ?_|intro (nb:Nat));conv=>whnf)
   have hL1:Row 7 encEdg L1 (.osl b4 0 (L.length+1) 7) [(b4,.vec ((L.map encEdg).flatten++(encEdg (mkEdge E.toEnv p T)++[])))]:=by rw [hLe];exact .inr ⟨by simp,b4,by rw [List.length_append];rfl,by rw [List.map_append,List.flatten_append];rfl⟩
   refine ⟨fun hz=>?_,fun hz=>?_⟩<;>simp only [decide_eq_true_eq,decide_eq_false_iff_not,List.length_map] at hz
   ·have hr:rest=[]:=List.eq_nil_of_length_eq_zero (by omega);rw [hr,show wordsR E.toEnv [] p T=[] from rfl,List.append_nil,List.take_of_length_le hL1m,<- hr] at hW;(conv=>whnf);exact ⟨rfl,_,_,_,_,hT1,by rw [hW];exact hL1,(by first|exact List.Perm.refl _|exact List.perm_append_comm (l₁:=[_]) (l₂:=[_,_,_,_,_]))⟩
   obtain ⟨us,rest',hr⟩:∃ us r,rest=us::r:=by
    cases rest with
    | nil=>simp at hAl;omega
    | cons us r=>exact ⟨us,r,rfl⟩
   have hus:E.All[T.length]?=some us:=by rw [hA,hr,<- hpl];simp
   obtain ⟨hub,huo⟩:=hE.uses us (List.mem_of_getElem? hus);have IH:=IH us rest' hr;have hwr:wordsR E.toEnv rest p T=us.flatMap fun u=>(nextM E.s p u).flatMap fun q=>wordsF E.toEnv rest' q (T++[u]):=by rw [hr];rfl
   rw [hwr] at hW;(conv=>whnf);repeat (refine ix (by assumption) ?_;conv=>whnf)
   refine tloop rfl mixed [1,2,5,9,10,11,12,55,56,57] [] (StepJ E sk tk lk en p T us rest' ((L++wordsF E.toEnv rest p T).take (E.most+1))) ?_ (loopBody E sk tk lk en hE p T us rest' _ pre (by rw [hA,hr]) hpl hp IH _ X);(conv=>whnf);exact ⟨_,_,Turn.perm (by first|exact List.Perm.refl _|exact List.perm_append_comm (l₁:=[_]) (l₂:=[_,_,_,_,_])),_,0,_,L1,_,_,_,_,rfl,rfl,rfl,by first|rfl|omega,by omega,hT1,hL1,hL1m,hW⟩
  have hq:(decide (0<(T.length:Int))&&endsM E.s p)=false:=hq;have hh:headW E.toEnv p T=[]:=by unfold headW;rw [if_neg (by rw [hq];decide)]
  obtain ⟨L1,hLe⟩:∃ L1,L1=L:=⟨_,rfl⟩;have hL1:=hL;have hL1m:=hLm;rw [<- hLe] at hL1 hL1m;have hW:(L++wordsF E.toEnv rest p T).take (E.most+1)=(L1++wordsR E.toEnv rest p T).take (E.most+1):=by unfold wordsF;rw [hh,List.nil_append,hLe]
  (conv=>whnf);skip;refine ⟨fun hz=>?_,fun hz=>?_⟩<;>simp only [decide_eq_true_eq,decide_eq_false_iff_not,List.length_map] at hz
  ·have hr:rest=[]:=List.eq_nil_of_length_eq_zero (by omega);rw [hr,show wordsR E.toEnv [] p T=[] from rfl,List.append_nil,List.take_of_length_le hL1m,<- hr] at hW;(conv=>whnf);exact ⟨rfl,_,_,_,_,hT1,by rw [hW];exact hL1,(by first|exact List.Perm.refl _|exact List.perm_append_comm (l₁:=[_]) (l₂:=[_,_,_,_,_]))⟩
  obtain ⟨us,rest',hr⟩:∃ us r,rest=us::r:=by
   cases rest with
   | nil=>simp at hAl;omega
   | cons us r=>exact ⟨us,r,rfl⟩
  have hus:E.All[T.length]?=some us:=by rw [hA,hr,<- hpl];simp
  obtain ⟨hub,huo⟩:=hE.uses us (List.mem_of_getElem? hus);have IH:=IH us rest' hr;have hwr:wordsR E.toEnv rest p T=us.flatMap fun u=>(nextM E.s p u).flatMap fun q=>wordsF E.toEnv rest' q (T++[u]):=by rw [hr];rfl
  rw [hwr] at hW;(conv=>whnf);repeat (refine ix (by assumption) ?_;conv=>whnf)
  refine tloop rfl mixed [1,2,5,9,10,11,12,55,56,57] [] (StepJ E sk tk lk en p T us rest' ((L++wordsF E.toEnv rest p T).take (E.most+1))) ?_ (loopBody E sk tk lk en hE p T us rest' _ pre (by rw [hA,hr]) hpl hp IH _ X);(conv=>whnf);exact ⟨_,_,Turn.perm (by first|exact List.Perm.refl _|exact List.perm_append_comm (l₁:=[_]) (l₂:=[_,_,_,_,_])),_,0,_,L1,_,_,_,_,rfl,rfl,rfl,by first|rfl|omega,by omega,hT1,hL1,hL1m,hW⟩
 rintro v h1 ⟨rfl,tv',thp',lv',lhp',h1',h2',hpm⟩;exact ⟨_,_,⟨rfl,tv',thp',lv',lhp',h1',h2',rfl⟩,VLe.refl _,fun k o hm=>hpm.mem_iff.2 hm,fun hn=>by unfold keys at hn ⊢;exact ((hpm.map _).nodup_iff).1 hn⟩
theorem stepA (E:Run) (sk tk lk en:Nat) (hE:EnvOK E):∀ rest,StepC E sk tk lk en rest
 | []=>stepOne E sk tk lk en hE [] (fun us r h=>by cases h)
 | us::r=>stepOne E sk tk lk en hE (us::r) (fun us' r' h=>by cases h;exact stepA E sk tk lk en hE r)
end Go.Abs.Wall
