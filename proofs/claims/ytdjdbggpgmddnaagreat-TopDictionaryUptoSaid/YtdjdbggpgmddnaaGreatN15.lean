/- Small laws for the walks and contracts of functions; each theorem names its conditions. -/
import Derived.Test.YtdjdbggpgmddnaaGreatN14
set_option maxRecDepth 100000
set_option maxHeartbeats 2000000
set_option linter.unusedVariables false
set_option linter.unusedSimpArgs false
namespace Go.Abs.Wall
open Go Go.Abs Go.Proofs
end Go.Abs.Wall
namespace Go.Abs.Wall
open Go Go.Abs Go.Proofs
def encForest (G:List (List Edg)) (R:List Int):List AV:=[.sl 1 none (G.map encEdgs),.sl 1 none (ints R)]
def growV (H:Hou) (line:List Int):AV:=if growErr H line=0 then .iptr (encForest (graphM H line) (restT (graphM H line))) else .nilP
theorem restRow (G:List (List Edg)) (n:Nat) (h:G.length=n):(List.range (n+1)).map (fun j=>[restF G 0 j])=ints (restT G):=by rw [restT_map,h];unfold ints;rw [List.map_map];refine List.map_congr_left fun j _=>?_;show [AV.int .i64 (if 0<=j then restV G j else -1)]=_;rw [if_pos (Nat.zero_le _)];rfl
theorem growW (H:Hou) (line:List Int) (hfit:HouFit H) (hlen:line.length<=1048576):QCall Tryz.prog 59 [.agg (encHou H),.sl 1 none (ints line)] [] (.tup [growV H line,.int .i64 (growErr H line)]):=by
 have h0:=growA H line hfit hlen;have hl:(graphM H line).length=line.length:=(by simp [graphM]);refine QCall.of (ACalls.frzOr (R:=fun v h'=>(growErr H line≠0/\v=.tup [.nilP,.int .i64 (growErr H line)])\/(growErr H line=0/\∃ fb ev hp,v=.tup [.optr fb 0,.int .i64 0]/\Out 1 encEdgs (graphM H line) ev hp/\h'=(fb,.vec [ev,.sl 1 none (ints (restT (graphM H line)))])::hp)) (ACalls.frzOr h0 ?_) ?_)
 ·rintro v h1 (h|⟨hg,fb,rb,ev,hp,rfl,ho,rfl⟩)
  ·exact .inl (.inl h)
  refine .inr ⟨rb,_,_,(fb,.vec [ev,.sl 1 none (ints (restT (graphM H line)))])::hp,_,.there (.here _),.vec (.cons (.refl _) (.cons (fzF (restRow _ _ hl).symm) .nil)) (FzH.refl _),.refl _,.inr ⟨hg,fb,ev,hp,rfl,ho,rfl⟩⟩
 rintro v h1 (⟨hg,rfl⟩|⟨hg,fb,ev,hp,rfl,ho,rfl⟩)
 ·left;unfold growV;rw [if_neg hg];exact VLe.refl _
 refine .inr ⟨fb,_,hp,hp,_,.here _,FzH.refl _,.tup (.cons (.ptr rfl) (.cons (.refl _) .nil)),?_⟩;unfold growV;rw [if_pos hg,hg];exact VLe.tup (.cons (VLe.iptr (.cons (Out.le (by decide) ho) (.cons (VLe.refl _) .nil))) (.cons (VLe.refl _) .nil))
def c130:Cfg:=⟨[0,1,2,4,6,7,8,9,10,11,17,31],[],[],[],[(5,[0,1,2,3,4,5,6,7],[]),(8,[0,1,2,3,4,5,6,7,8,9,10,11,12,13,14,15],[])],[]⟩
def c131:Cfg:=⟨[0,1,2,6,7,8,9,16,22,31,68],[],[],[],[(11,[0,1,2,3,4,5,6,7,8],[]),(15,[0,1,2,3,4,5,6,7,8],[])],[]⟩
def c90:Cfg:=⟨[0,1,3,4],[],[],[],[(1,[0,1,2,3,4,5,6,7,8,9,10,11,12,13,14],[]),(2,[0,1,2,3,4,5,6,7,8,9,10,11],[])],[27]⟩
end Go.Abs.Wall
namespace Go.Abs.Wall
open Go Go.Abs Go.Proofs
def exS (code:List UInt8) (l:List Val):Sgn:=⟨code,1,1,false,l⟩
def exH:Hou:=⟨⟨1,[exS [65,49] [⟨1,[110],1,1⟩],exS [66,49] [⟨1,[110,102,114],1,1⟩],exS [67,49] [⟨1,[102],1,1⟩],exS [68,49] [⟨1,[114],1,1⟩],
  exS [69,49] [⟨2,[110,102,114],1,1⟩],exS [70,49] [⟨3,[103,111,111,100],1,1⟩],exS [71,49] [⟨1,[116],1,1⟩],exS [72,49] [⟨1,[110],1,1⟩,⟨2,[110],1,1⟩]]⟩,
 ⟨[⟨[110,102,114],1,[103,111,111,100],2⟩,⟨[110],2,[],1⟩],[⟨1,[116],[102,101,109],1⟩],[⟨[102],[104,105,115],3⟩]⟩,⟨1,0,0,0,4⟩,1⟩
def exU1:Use:=⟨1,[110,102,114]⟩
def exU2:Use:=⟨3,[114]⟩
def exU3:Use:=⟨4,[103,111,111,100]⟩
def c92:Cfg:=⟨[0,1,2],[1],[2],[],[],[]⟩
theorem wordW (w:Wrd) (h1:w.form.clitics.length<=AMAX) (h2:w.uses.length<=AMAX):QCall Tryz.prog 92 [.agg (encWrd w)] [] (.agg (encWrd w)):=by
 refine QCall.of' ?_;refine fcalls (F:=Tryz.f92) c92 rfl rfl rfl mixed rfl fun X=>?_;(conv=>whnf);intro b1;(conv=>whnf);intro b2;(conv=>whnf);repeat ((first|refine QCall.k0 (cloneI w.form.clitics h1) ?_|refine QCall.k0 (cloneU w.uses h2) ?_|refine ⟨_,_,Rem.here _,⟨Nat.le_of_ble_eq_true rfl,rfl⟩,?_⟩|refine ⟨_,_,.tail _ (.head _),rfl,?_⟩|refine ⟨_,_,.there (.here _),leOK,?_⟩);conv=>whnf)
 rfl
end Go.Abs.Wall
namespace Go.Abs.Wall
open Go Go.Abs Go.Proofs
def exN (q n0 n1 n2:Nat):AV:=.sl 1 (some q) [[.optr n0 0],[.optr n1 0],[.optr n2 0]]
def c61:Cfg:=⟨[0,2,3,4,5,6,7,8,16,17,18,29,30,31,32,45],[11,22],[7],[],[(9,[0,1,2,3,4,5,6,7,8],[]),(11,[0,1,2,3,4,5,6,7,8,9],[])],[55]⟩
def c91:Cfg:=⟨[0,1,2,6,7,8,9,10,11,12,22,39,43,83,105],[],[9,10,11],[],[(7,[0,1,2,3,4,5,6,7,8,9,10,11,12,13],[9]),(8,[0,1,2,3,4,5,6,7,8,9,10,11,12,13,14,15],[10]),(11,[0,1,2,3,4,5,6,7,8,9,10,11,12,13,14],[]),(14,[0,1,2,3,4,5,6,7,8,9,10,11,12,13,14,15,16],[])],[]⟩
end Go.Abs.Wall
namespace Go.Abs.Wall
open Go Go.Abs Go.Proofs
structure Rdg where
 words:List Wrd
 cost:Int
def encRdg (r:Rdg):List AV:=[.sl 4 none (r.words.map encWrd),.int .i64 r.cost]
def exW:Wrd:=⟨⟨0,-1,[]⟩,[exU1,exU2,exU3]⟩
def c62:Cfg:=⟨[0,1,4,5,6,7,8,17,31],[],[8],[],[(7,[0,1,2,3,4,5,6,7,8,9,10,11,12,13,14,15],[8]),(8,[0,1,2,3,4,5,6,7,8],[])],[]⟩
def c27:Cfg:=⟨[0,1,2,3,6,7,8,9,10,11,12,20,24,27,28,29,38,46],[],[11],[],[],[]⟩
def c10:Cfg:=⟨[0,1,2,4,5,6,7,15],[],[],[],[],[]⟩
end Go.Abs.Wall
namespace Go.Abs.Wall
open Go Go.Abs Go.Proofs
end Go.Abs.Wall
namespace Go.Abs.Wall
open Go Go.Abs Go.Proofs
def c66:Cfg:=⟨[0,1,2,3,6,7,8,9,14,20,27],[],[],[],[],[]⟩
def wordsE (H:Hou) (line:List Int) (a:Int):Int:=
 if lineErr H line≠0 then lineErr H line else if wthn a 0 line.length=false then 1 else if 2000<(edgsAt H line a.toNat).length then 2 else 0
def wordsLs (H:Hou) (line:List Int) (a:Int):List Edg:=if wordsE H line a=0 then edgsAt H line a.toNat else []
theorem wordsX (H:Hou) (line:List Int) (a:Int) (hf:HouFit H) (hl:line.length<=1048576) :
  QCall Tryz.prog 66 [.agg (encHou H),.sl 1 none (ints line),.int .i64 a] [] (.tup [.sl 7 none ((wordsLs H line a).map encEdg),.int .i64 (wordsE H line a)]):=by
 refine QCall.of ?_;refine fcalls (F:=Tryz.f66) c66 rfl rfl rfl mixed rfl fun X=>?_;(conv=>whnf);repeat (refine QCall.k0 (checkW H line hf (by unfold LMAX;omega)) ?_;conv=>whnf)
 refine ⟨fun h1=>?_,fun h1=>?_⟩<;>simp at h1
 ·have he:wordsE H line a=lineErr H line:=(by rw [wordsE,if_pos h1]);(conv=>whnf);skip;rw [wordsLs,he,if_neg h1];exact VLe.tup (.cons (VLe.nil (by decide)) (.cons (VLe.refl _) .nil))
 have hL:=lineOK h1;(conv=>whnf);repeat (refine QCall.k0 (within _ _ _) ?_;conv=>whnf)
 refine ⟨fun h2=>?_,fun h2=>?_⟩
 ·have h2:(!wthn a 0 ((ints line).length:Int))=true:=h2;rw [ints_length,Bool.not_eq_true'] at h2;have he:wordsE H line a=1:=(by rw [wordsE,if_neg (by omega),if_pos h2]);(conv=>whnf);skip;rw [wordsLs,he,if_neg (by decide)];exact VLe.tup (.cons (VLe.nil (by decide)) (.cons (VLe.refl _) .nil))
 have h2:(!wthn a 0 ((ints line).length:Int))=false:=h2;rw [ints_length,Bool.not_eq_false',wthn_iff] at h2;obtain ⟨n,rfl⟩:∃ n:Nat,a=(n:Int):=⟨a.toNat,by omega⟩;have h0':wordsE H line n=if 2000<(edgsAt H line n).length then 2 else 0:=by rw [wordsE,if_neg (by omega),if_neg (by rw [Bool.not_eq_false,wthn_iff];omega)];rfl
 (conv=>whnf);repeat (refine QCall.k0 (wordsW H line n 2000 hL.hou hf hL.signs hl (by omega) (by decide)) ?_;conv=>whnf)
 by_cases hb:(edgsAt H line n).length<=2000
 ·rw [if_neg (by omega)] at h0';rw [wordsM_fits hb];refine cF (by simp;omega) ?_;(conv=>whnf);skip;rw [wordsLs,h0',if_pos rfl];exact VLe.refl _
 rw [if_pos (by omega)] at h0';have hlg:=wordsM_long (H:=H) (line:=line) (at_:=n) (most:=2000) (by omega);refine cT (by rw [List.length_map,hlg];decide) ?_;(conv=>whnf);skip;rw [wordsLs,h0',if_neg (by decide)];exact VLe.tup (.cons (VLe.nil (by decide)) (.cons (VLe.refl _) .nil))
end Go.Abs.Wall
namespace Go.Abs.Wall
open Go Go.Abs Go.Proofs
end Go.Abs.Wall
namespace Go.Abs.Wall
open Go Go.Abs Go.Proofs
structure EdgOK (n i:Nat) (x:Edg):Prop where
 to:x.to=i+x.word.uses.length
 lo:(i:Int)<x.to
 hi:x.to<=n
 cost:0<=x.cost/\x.cost<=18000
 fit:WrdFit x.word
structure GOK (g:List (List Edg)):Prop where
 few:g.length<=60
 many:∀ (i:Nat) es,g[i]?=some es->es.length<=2000
 edge:∀ (i:Nat) es,g[i]?=some es->∀ x∈es,EdgOK g.length i x
theorem graphM_len (H:Hou) (line:List Int):(graphM H line).length=line.length:=by simp [graphM]
theorem graphM_get {H:Hou} {line:List Int} {i:Nat} (hi:i<line.length):(graphM H line)[i]?=some (edgsAt H line i):=by rw [graphM,List.getElem?_map,List.getElem?_range hi];rfl
theorem growOK {H:Hou} {line:List Int} (h:growErr H line=0):LineOK H line/\sumL (graphM H line)<=2000/\GOK (graphM H line):=by
 unfold growErr at h;split at h
 ·rename_i h1;exact absurd h h1
 rename_i h1;split at h
 ·cases h
 rename_i h2;have hL:=lineOK (H:=H) (line:=line) (by simpa using h1);refine ⟨hL,by omega,⟨by rw [graphM_len];exact hL.few,fun i es hes=>?_,fun i es hes x hx=>?_⟩⟩
 ·have h3:=sumL_take (g:=graphM H line) (i+1);rw [take_snoc hes,sumL_snoc] at h3;omega
 have hi:i<line.length:=by have:=(List.getElem?_eq_some_iff.1 hes).1;rwa [graphM_len] at this
 rw [graphM_get hi] at hes;cases hes
 obtain ⟨ha,hb,hc⟩:=edgsAt_mem hL.hou hL.signs (by omega) x hx;have:=ha.to;have:=ha.some;have h5:=ha.cl;have h6:=ha.few;exact ⟨ha.to,by omega,by rw [graphM_len];omega,hc,⟨by omega,by omega⟩⟩
end Go.Abs.Wall
namespace Go.Abs.Wall
open Go Go.Abs Go.Proofs
end Go.Abs.Wall
namespace Go.Abs.Wall
open Go Go.Abs Go.Proofs
end Go.Abs.Wall
namespace Go.Abs.Wall
open Go Go.Abs Go.Proofs
def RunP (s:Sp) (p:Prg):List Use->Prg->Prop
 | [],q=>q=p
 | u::us,q=>∃ r,r∈nextM s p u/\RunP s r us q
theorem RunP.snoc {s:Sp}:∀ {us:List Use} {p q:Prg} {u:Use} {r:Prg},RunP s p us q->r∈nextM s q u->RunP s p (us++[u]) r
 | [],p,q,u,r,h,h2=>by have h:q=p:=h;subst h;exact ⟨r,h2,rfl⟩
 | v::us,p,q,u,r,h,h2=>by obtain ⟨z,h3,h4⟩:=h;exact ⟨z,h3,RunP.snoc h4 h2⟩
def UsesIn (H:Hou):List Int->List Use->Prop
 | n::t,u::us=>u∈usesAt H n/\UsesIn H t us
 | [],[]=>True
 | _,_=>False
theorem useEqT {a b:Use}:useEq a b=true↔a=b:=by rw [useEq_iff,decide_eq_true_eq]
theorem any_useEq {u:Use} {l:List Use}:l.any (useEq u)=true↔u∈l:=by
 rw [List.any_eq_true];constructor
 ·rintro ⟨v,h1,h2⟩;rw [useEqT.1 h2];exact h1
 intro h;exact ⟨u,h,useEqT.2 rfl⟩
theorem spGo_iff {H:Hou} {s:Sp} {cl:List Int}:∀ (line:List Int) (us:List Use) (st:List Prg),line.length=us.length ->
  (spGo H s cl line us st=true↔UsesIn H line us/\∃ p∈st,∃ q,RunP s p us q/\endsM s q=true/\q.cl=cl)
 | [],[],st,_=>by
   unfold spGo UsesIn;rw [List.any_eq_true];constructor
   ·rintro ⟨p,h1,h2⟩;simp only [Bool.and_eq_true,decide_eq_true_eq] at h2;exact ⟨trivial,p,h1,p,rfl,h2.1,h2.2⟩
   rintro ⟨_,p,h1,q,h2,h3,h4⟩;have h2:q=p:=h2;subst h2;exact ⟨q,h1,by simp [h3,h4]⟩
 | n::t,u::us,st,hl=>by
   unfold spGo UsesIn;rw [Bool.and_eq_true,any_useEq,spGo_iff t us _ (by simpa using hl)];constructor
   ·rintro ⟨h1,h2,p,h3,q,h4,h5⟩;rw [List.mem_flatMap] at h3;obtain ⟨p0,h6,h7⟩:=h3;exact ⟨⟨h1,h2⟩,p0,h6,q,⟨p,h7,h4⟩,h5⟩
   rintro ⟨⟨h1,h2⟩,p0,h6,q,⟨p,h7,h4⟩,h5⟩;exact ⟨h1,h2,p,List.mem_flatMap.2 ⟨p0,h6,h7⟩,q,h4,h5⟩
 | [],_::_,_,hl=>by simp at hl
 | _::_,[],_,hl=>by simp at hl
def InRows:List (List Use)->List Use->Prop
 | _,[]=>True
 | r::rest,u::us=>u∈r/\InRows rest us
 | [],_::_=>False
theorem wordsR_mem {E:Env} {x:Edg}:∀ (rest:List (List Use)) (p:Prg) (T:List Use),x∈wordsR E rest p T↔∃ us q,us≠[]/\InRows rest us/\RunP E.s p us q/\endsM E.s q=true/\x=mkEdge E q (T++us)
 | [],p,T=>by
   unfold wordsR;constructor
   ·intro h;cases h
   rintro ⟨us,q,h1,h2,_⟩;cases us with
   | nil=>exact absurd rfl h1
   | cons u us=>exact h2.elim
 | r::rest,p,T=>by
   unfold wordsR;rw [List.mem_flatMap];constructor
   ·rintro ⟨u,hu,h⟩;rw [List.mem_flatMap] at h;obtain ⟨q,hq,h⟩:=h;rcases List.mem_append.1 h with h|h
    ·unfold headW at h;split at h
     ·rename_i hh;simp only [Bool.and_eq_true] at hh;rw [List.mem_singleton] at h;exact ⟨[u],q,by simp,⟨hu,by cases rest<;>exact trivial⟩,⟨q,hq,rfl⟩,hh.2,h⟩
     cases h
    rw [wordsR_mem rest q (T++[u])] at h;obtain ⟨us,q',h1,h2,h3,h4,h5⟩:=h;exact ⟨u::us,q',by simp,⟨hu,h2⟩,⟨q,hq,h3⟩,h4,by rw [h5,List.append_assoc];rfl⟩
   rintro ⟨us,q',h1,h2,h3,h4,h5⟩;cases us with
   | nil=>exact absurd rfl h1
   | cons u us=>
     obtain ⟨hu,h2⟩:=h2;obtain ⟨q,hq,h3⟩:=h3;refine ⟨u,hu,List.mem_flatMap.2 ⟨q,hq,List.mem_append.2 ?_⟩⟩;by_cases hus:us=[]
     ·subst hus;left;have h3:q'=q:=h3;subst h3;unfold headW;rw [if_pos (by simp [h4]),h5];exact List.mem_singleton.2 rfl
     right;rw [wordsR_mem rest q (T++[u])];exact ⟨us,q',hus,h2,h3,h4,by rw [h5,List.append_assoc];rfl⟩
theorem inRows_uses {H:Hou}:∀ {l:List Int} {us:List Use},InRows (l.map (usesAt H)) us↔us.length<=l.length/\UsesIn H (l.take us.length) us
 | l,[]=>by simp [InRows,UsesIn]
 | [],u::us=>by simp [InRows]
 | n::l,u::us=>by
   rw [List.map_cons];unfold InRows;rw [inRows_uses,List.length_cons,List.length_cons,List.take_succ_cons];rw [show UsesIn H (n::l.take us.length) (u::us)=(u∈usesAt H n/\UsesIn H (l.take us.length) us) from rfl];constructor
   ·rintro ⟨h1,h2,h3⟩;exact ⟨by omega,h1,h3⟩
   rintro ⟨h1,h2,h3⟩;exact ⟨h2,by omega,h3⟩
theorem cliOK_snoc {n:Nat}:∀ {l:List Int} {last c:Int},cliOK n l last=true->(match l.getLast? with|some z=>z|none=>last)<c->c<n->cliOK n (l++[c]) last=true
 | [],last,c,_,h1,h2=>by unfold cliOK cliOK;simp at h1 ⊢;omega
 | a::t,last,c,h,h1,h2=>by
   unfold cliOK at h;rw [Bool.and_eq_true] at h;rw [List.cons_append];unfold cliOK;rw [Bool.and_eq_true];refine ⟨h.1,cliOK_snoc h.2 ?_ h2⟩;cases t with
   | nil=>simpa using h1
   | cons b t=>
     rw [List.getLast?_cons_cons] at h1;cases hz:(b::t).getLast? with
     | none=>simp at hz
     | some z=>rw [hz] at h1;exact h1
structure CliUp (H:Hou) (p:Prg):Prop where
 up:cliOK H.lex.clitics.length p.cl (-1)=true
 few:p.cl.length<=3
theorem spellGo_mem {p:Prg} {u:Use} {q:Prg}:∀ {l:List Cli} {c:Int},q∈spellGo p u l c->∃ j:Nat,j<l.length/\q.cl=p.cl++[c+j]
 | [],c,h=>by cases h
 | k::t,c,h=>by
   unfold spellGo at h;rcases List.mem_append.1 h with h|h
   ·split at h
    ·rw [List.mem_singleton] at h;subst h;exact ⟨0,by simp,by simp⟩
    cases h
   obtain ⟨j,h1,h2⟩:=spellGo_mem h;exact ⟨j+1,by simpa using h1,by rw [h2];congr 2;omega⟩
theorem firstC_eq (cl:List Int):firstC cl=(match cl.getLast? with|some z=>z|none=>-1)+1:=by unfold firstC;cases cl.getLast?<;>rfl
theorem nextM_up {s:Sp} {p q:Prg} {u:Use} (hp:PrgOK s p) (h:CliUp s.H p) (hq:q∈nextM s p u):CliUp s.H q:=by
 have same:q.cl=p.cl->CliUp s.H q:=fun e=>⟨by rw [e];exact h.up,by rw [e];exact h.few⟩;have hone:∀ {a:Prg},a.cl=p.cl->q∈[a]->CliUp s.H q:=fun e hm=>same (by rw [List.mem_singleton.1 hm];exact e);unfold nextM at hq;split at hq
 ·unfold spellM at hq;split at hq
  ·split at hq
   ·exact hone (by rfl) hq
   cases hq
  split at hq
  ·rename_i h3;obtain ⟨j,hj,e⟩:=spellGo_mem hq;have hf:=firstC_ok hp;rw [List.length_drop] at hj;refine ⟨?_,by rw [e,List.length_append,List.length_singleton];omega⟩;rw [e];refine cliOK_snoc h.up ?_ ?_
   ·have:=firstC_eq p.cl;omega
   omega
  cases hq
 split at hq
 ·split at hq
  ·cases hq
  exact hone (by rfl) hq
 split at hq
 ·split at hq
  ·cases hq
  exact hone (by rfl) hq
 split at hq
 ·split at hq
  ·cases hq
  exact hone (by rfl) hq
 cases hq
theorem runP_ok {s:Sp} (hs:SpOK s):∀ {us:List Use} {p q:Prg},(∀ u∈us,UseOK u)->PrgOK s p->CliUp s.H p->RunP s p us q->PrgOK s q/\CliUp s.H q
 | [],p,q,_,hp,hc,h=>by have h:q=p:=h;subst h;exact ⟨hp,hc⟩
 | u::us,p,q,hu,hp,hc,⟨r,h1,h2⟩=>runP_ok hs (fun v hv=>hu v (by simp [hv])) (nextM_ok hs hp (hu u (by simp)) r h1) (nextM_up hp hc h1) h2
theorem usesIn_ok {H:Hou} (hH:HouOK H):∀ {l:List Int} {us:List Use},(∀ s∈l,0<=s/\s<H.list.signs.length)->UsesIn H l us->∀ u∈us,UseOK u
 | [],[],_,_,u,hu=>by cases hu
 | [],_::_,_,h,_,_=>h.elim
 | _::_,[],_,h,_,_=>h.elim
 | n::l,v::us,hl,⟨h1,h2⟩,u,hu=>by
   rcases List.mem_cons.1 hu with rfl|hu
   ·have hs2:=hl n (by simp);have hok:=(lstOK hH.lst).each _ (List.mem_of_getElem? (sgnAt_get hs2.1 hs2.2));exact (usesM_ok (p:=H.period) hok).2 _ h1
   exact usesIn_ok hH (fun s hs=>hl s (by simp [hs])) h2 u hu
theorem prg0_up (H:Hou):CliUp H prg0:=⟨rfl,by simp [prg0]⟩
def edgOf (H:Hou) (i:Nat) (w:Wrd):Edg:=⟨i,(i:Int)+w.uses.length,priceM H w,w⟩
theorem edgsAt_iff {H:Hou} {line:List Int} (hL:LineOK H line) (hle:lexErr H.lex=0) {i:Nat} (hi:i<=line.length) {x:Edg} :
  x∈edgsAt H line i↔(frmErr H.lex x.word.form=0/\i+x.word.uses.length<=line.length/\spellsM H ((line.drop i).take x.word.uses.length) x.word=true)/\x=edgOf H i x.word:=by
 have hH:=hL.hou;have hmem:∀ s∈(line.drop i).take 12,0<=s/\s<H.list.signs.length:=fun s hs=>hL.signs s (List.mem_of_mem_drop (List.mem_of_mem_take hs));have htk:∀ n,n<=12->((line.drop i).take 12).take n=(line.drop i).take n:=fun n hn=>by rw [List.take_take];congr 1;omega
 unfold edgsAt sortE;rw [sortL_mem];unfold wordsAll;rw [List.mem_flatMap];constructor
 ·rintro ⟨e,he,hx⟩;unfold wordsEnt at hx;rw [List.mem_flatMap] at hx;obtain ⟨k,hk,hx⟩:=hx;rw [List.mem_range] at he hk;unfold wordsOf at hx;split at hx
  ·cases hx
  rename_i hsk;unfold wordsF at hx;rw [headW_nil,List.nil_append,wordsR_mem] at hx;obtain ⟨us,q,h1,h2,h3,h4,h5⟩:=hx;rw [List.nil_append] at h5;unfold allAt at h2;rw [inRows_uses] at h2;have hl12:((line.drop i).take 12).length<=12:=by rw [List.length_take];omega
  have hl2:((line.drop i).take 12).length<=line.length - i:=by rw [List.length_take,List.length_drop];omega
  have hup:1<=us.length:=List.length_pos_iff.2 h1;have hsp:SpOK (envAt H i e ((k:Int) - 1)).s:=spAt hH (by omega) (by omega) (by omega);have huo:=usesIn_ok hH (fun s hs=>hmem s (List.mem_of_mem_take hs)) h2.2;obtain ⟨hqo,hqc⟩:=runP_ok hsp huo (prg0_ok _) (prg0_up _) h3;rw [htk _ (by omega)] at h2;subst h5;have hwu:(mkEdge (envAt H i e ((k:Int) - 1)) q us).word.uses=us:=rfl;have hwf:(mkEdge (envAt H i e ((k:Int) - 1)) q us).word.form=⟨e,(k:Int) - 1,q.cl⟩:=rfl;rw [hwu,hwf];refine ⟨⟨?_,by omega,?_⟩,rfl⟩
  ·unfold frmErr;rw [if_neg (by rw [hle];simp),if_neg (by rw [Bool.not_eq_false,wthn_iff];show 0<=(e:Int)/\(e:Int)<=_;omega),if_neg,if_neg (by have:=hqc.few;show ¬ 3<q.cl.length;omega),if_pos (show cliOK H.lex.clitics.length (Frm.mk (e:Int) ((k:Int) - 1) q.cl).clitics (-1)=true from hqc.up)];unfold badEnd;unfold skipE at hsk;simp only [Bool.and_eq_true,Bool.or_eq_true,Bool.not_eq_true',decide_eq_true_eq,decide_eq_false_iff_not,not_and,Classical.not_not,not_or] at hsk ⊢;intro hne;refine ⟨?_,hsk (by omega)⟩;rw [Bool.eq_false_iff,ne_eq,Bool.not_eq_true,Bool.not_eq_false];rw [wthn_iff];omega
  unfold spellsM;rw [Bool.and_eq_true,Bool.and_eq_true,wthn_iff,decide_eq_true_eq];have hll:((line.drop i).take us.length).length=us.length:=by rw [List.length_take,List.length_drop];omega
  refine ⟨⟨⟨by omega,by omega⟩,by show _=us.length;exact hll⟩,?_⟩;rw [spGo_iff _ _ _ (by show _=us.length;exact hll)];exact ⟨h2.2,prg0,by simp,q,h3,h4,rfl⟩
 rintro ⟨⟨h1,h2,h3⟩,h4⟩;obtain ⟨w,hw⟩:∃ w,w=x.word:=⟨_,rfl⟩;rw [<- hw] at h1 h2 h3 h4;subst h4;have hf:=frmOK h1;unfold spellsM at h3;rw [Bool.and_eq_true,Bool.and_eq_true,wthn_iff,decide_eq_true_eq] at h3;obtain ⟨⟨h5,h6⟩,h7⟩:=h3;rw [spGo_iff _ _ _ h6] at h7;obtain ⟨h8,p,hp,q,h9,h10,h11⟩:=h7;rw [List.mem_singleton] at hp;subst hp;have he:=hf.entry;have hn:-1<=w.form.ending/\w.form.ending<H.lex.endings.length:=by rcases hf.ending with h|h<;>omega
 refine ⟨w.form.entry.toNat,List.mem_range.2 (by omega),?_⟩;unfold wordsEnt;refine List.mem_flatMap.2 ⟨(w.form.ending+1).toNat,List.mem_range.2 (by omega),?_⟩;have e1:((w.form.entry.toNat:Nat):Int)=w.form.entry:=(by omega);have e2:(((w.form.ending+1).toNat:Nat):Int) - 1=w.form.ending:=(by omega);unfold wordsOf;rw [e1,e2]
 have hsk:skipE H.lex w.form.entry w.form.ending≠true:=by
  unfold skipE;simp only [Bool.and_eq_true,Bool.not_eq_true',decide_eq_true_eq,decide_eq_false_iff_not,ne_eq,not_and,Classical.not_not];intro h0;rcases hf.ending with h|h
  ·omega
  exact h.2.2
 rw [if_neg hsk];unfold wordsF;rw [headW_nil,List.nil_append,wordsR_mem];refine ⟨w.uses,q,?_,?_,h9,h10,?_⟩
 ·intro h0;rw [h6,h0] at h5;simp at h5
 ·unfold allAt;rw [inRows_uses];have hll:((line.drop i).take 12).length=min 12 (line.length - i):=(by rw [List.length_take,List.length_drop]);refine ⟨by omega,?_⟩;rw [htk _ (by omega)];exact h8
 obtain ⟨⟨fe,fn,fc⟩,us⟩:=w;simp only at h11;rw [List.nil_append];unfold mkEdge edgOf envAt;simp only;rw [h11]
end Go.Abs.Wall
namespace Go.Abs.Wall
open Go Go.Abs Go.Proofs
def encB (b:Bool):List AV:=[.bool b]
theorem encB_len:∀ b,(encB b).length=1:=fun _=>rfl
def markK (want:Nat->Nat->Bool) (a:Nat):List Edg->Nat->List Bool->List Bool
 | [],_,l=>l
 | x::t,k,l=>markK want a t (k+1) (if (l.getD a false&&want a k)=true then l.set x.to.toNat true else l)
def reachGo (want:Nat->Nat->Bool):List (List Edg)->Nat->List Bool->List Bool
 | [],_,l=>l
 | es::g,i,l=>reachGo want g (i+1) (markK want i es 0 l)
def reachM (g:List (List Edg)) (want:Nat->Nat->Bool):List Bool:=reachGo want g 0 ((List.replicate (g.length+1) false).set 0 true)
theorem markK_len (want:Nat->Nat->Bool) (a:Nat):∀ (es:List Edg) (k:Nat) (l:List Bool),(markK want a es k l).length=l.length
 | [],_,l=>rfl
 | x::t,k,l=>by unfold markK;rw [markK_len want a t];split<;>simp
theorem reachGo_len (want:Nat->Nat->Bool):∀ (g:List (List Edg)) (i:Nat) (l:List Bool),(reachGo want g i l).length=l.length
 | [],_,l=>rfl
 | es::g,i,l=>by unfold reachGo;rw [reachGo_len want g,markK_len]
theorem reachM_len (g:List (List Edg)) (want:Nat->Nat->Bool):(reachM g want).length=g.length+1:=by unfold reachM;rw [reachGo_len];simp
theorem getD_of {α:Type} {l:List α} {i:Nat} {x d:α} (h:l[i]?=some x):l.getD i d=x:=by rw [List.getD_eq_getElem?_getD,h];rfl
theorem boolRow0 (n:Nat):repC n [AV.bool false]=((List.replicate n false).map encB).flatten:=by
 rw [repC_one];induction n with
 | zero=>rfl
 | succ n ih=>rw [List.replicate_succ,List.replicate_succ,List.map_cons,List.flatten_cons,<- ih];rfl
theorem boolRow {f:FuncId} {vs:List AV} {h:Heap} {l:List Bool} {n:Nat} (hn:l.length=n) (hf:ACalls Tryz.prog f vs [] (fun v h'=>∃ b Z,v=.osl b 0 n 1/\h'=(b,.vec (l.map encB).flatten)::Z)):QCall Tryz.prog f vs [] (.sl 1 none (l.map encB)):=by refine QCall.of (ACalls.frz hf ?_);rintro v h1 ⟨b,Z,rfl,rfl⟩;exact ⟨b,_,Z,Z,_,.here _,FzH.refl _,fzEnc encB_len hn,VLe.refl _⟩
theorem GOK.costs {g:List (List Edg)} (h:GOK g):∀ es∈g,∀ x∈es,0<=x.cost/\x.cost<=18000:=by intro es hes x hx;obtain ⟨i,hi⟩:=List.mem_iff_getElem?.1 hes;exact (h.edge i es hi x hx).cost
theorem GOK.rest {g:List (List Edg)} (h:GOK g) (i:Nat) (hi:i<=g.length):-1<=restV g i/\restV g i<=1080000:=by have h1:=restT_get g i hi;have h2:=restT_bound g h.costs _ (List.mem_of_getElem? h1);have:=h.few;omega
end Go.Abs.Wall
namespace Go.Abs.Wall
open Go Go.Abs Go.Proofs
structure Lnk where
 entry:Int
 to:Int
deriving DecidableEq
def lnkOf (x:Edg):Lnk:=⟨x.word.form.entry,x.to⟩
def mkL (want:Int->Bool) (a:Nat):List Lnk->List Bool->List Bool
 | [],l=>l
 | x::t,l=>mkL want a t (if (l.getD a false&&want x.entry)=true then l.set x.to.toNat true else l)
def rdGo (want:Int->Bool):List (List Lnk)->Nat->List Bool->List Bool
 | [],_,l=>l
 | es::g,i,l=>rdGo want g (i+1) (mkL want i es l)
def rdL (want:Int->Bool) (g:List (List Lnk)):List Bool:=rdGo want g 0 ((List.replicate (g.length+1) false).set 0 true)
def rdM (want:Int->Bool) (g:List (List Lnk)):Bool:=(rdL want g).getD g.length false
theorem mkL_len (want:Int->Bool) (a:Nat):∀ (es:List Lnk) (l:List Bool),(mkL want a es l).length=l.length
 | [],l=>rfl
 | x::t,l=>by unfold mkL;rw [mkL_len want a t];split<;>simp
def LOK (g:List (List Lnk)):Prop:=∀ (i:Nat) es,g[i]?=some es->∀ x∈es,(i:Int)<x.to/\x.to<=g.length
inductive Rch (g:List (List Lnk)) (want:Int->Bool):Nat->Prop
 | zero:Rch g want 0
 | step {i:Nat} {es:List Lnk} {x:Lnk}:Rch g want i->g[i]?=some es->x∈es->want x.entry=true->Rch g want x.to.toNat
theorem gdSet {l:List Bool} {i j:Nat}:(l.set i true).getD j false=(decide (i=j/\j<l.length)||l.getD j false):=by
 rw [List.getD_eq_getElem?_getD,List.getD_eq_getElem?_getD,List.getElem?_set];by_cases h:i=j
 ·subst h;by_cases h2:i<l.length
  ·simp [h2]
  simp [h2]
 simp [h]
theorem mkL_sound {g:List (List Lnk)} {want:Int->Bool} {a:Nat} {all:List Lnk} (ha:g[a]?=some all):∀ (es:List Lnk) (l:List Bool),(∀ x∈es,x∈all) ->
  (∀ j,l.getD j false=true->Rch g want j)->∀ j,(mkL want a es l).getD j false=true->Rch g want j
 | [],l,_,h,j,hj=>h j hj
 | x::t,l,hs,h,j,hj=>by
   unfold mkL at hj;refine mkL_sound ha t _ (fun y hy=>hs y (List.mem_cons_of_mem _ hy)) ?_ j hj;intro k hk;split at hk
   ·rename_i hc;rw [Bool.and_eq_true] at hc;rw [gdSet,Bool.or_eq_true,decide_eq_true_eq] at hk;rcases hk with ⟨rfl,_⟩|hk
    ·exact .step (h a hc.1) ha (hs x (List.mem_cons_self ..)) hc.2
    exact h k hk
   exact h k hk
theorem rdGo_sound {g:List (List Lnk)} {want:Int->Bool}:∀ (d i:Nat) (l:List Bool),i+d=g.length ->
  (∀ j,l.getD j false=true->Rch g want j)->∀ j,(rdGo want (g.drop i) i l).getD j false=true->Rch g want j
 | 0,i,l,hi,h,j,hj=>by rw [drop_nil (by omega)] at hj;exact h j hj
 | d+1,i,l,hi,h,j,hj=>by obtain ⟨es,hes⟩:=get_lt (l:=g) (i:=i) (by omega);rw [drop_cons hes,rdGo] at hj;exact rdGo_sound d (i+1) _ (by omega) (mkL_sound hes es l (fun _ h=>h) h) j hj
theorem mkL_keep {want:Int->Bool} {a:Nat}:∀ (es:List Lnk) (l:List Bool) (j:Nat),l.getD j false=true->(mkL want a es l).getD j false=true
 | [],l,j,h=>h
 | x::t,l,j,h=>by
   unfold mkL;refine mkL_keep t _ j ?_;split
   ·rw [gdSet,h,Bool.or_true]
   exact h
theorem mkL_all {want:Int->Bool} {a:Nat}:∀ (es:List Lnk) (l:List Bool),l.getD a false=true->∀ x∈es,want x.entry=true->x.to.toNat<l.length->(mkL want a es l).getD x.to.toNat false=true
 | [],l,h,x,hx,_,_=>by cases hx
 | y::t,l,h,x,hx,hw,hl=>by
   unfold mkL;rcases List.mem_cons.1 hx with rfl|hx
   ·refine mkL_keep t _ _ ?_;rw [if_pos (by rw [h,hw];rfl),gdSet];simp [hl]
   refine mkL_all t _ ?_ x hx hw ?_
   ·split
    ·rw [gdSet,h,Bool.or_true]
    exact h
   split
   ·rw [List.length_set];exact hl
   exact hl
theorem rdGo_full {g:List (List Lnk)} {want:Int->Bool} (hg:LOK g):∀ (d i:Nat) (l:List Bool),i+d=g.length->l.length=g.length+1->l.getD 0 false=true ->
  (∀ (i':Nat) es x,i'<i->Rch g want i'->g[i']?=some es->x∈es->want x.entry=true->l.getD x.to.toNat false=true) ->
  ∀ j,Rch g want j->(rdGo want (g.drop i) i l).getD j false=true
 | 0,i,l,hi,hl,h0,h,j,hj=>by
   rw [drop_nil (by omega)];cases hj with
   | zero=>exact h0
   | step h1 h2 h3 h4=>exact h _ _ _ (by have:=(List.getElem?_eq_some_iff.1 h2).1;omega) h1 h2 h3 h4
 | d+1,i,l,hi,hl,h0,h,j,hj=>by
   obtain ⟨es,hes⟩:=get_lt (l:=g) (i:=i) (by omega);rw [drop_cons hes,rdGo];refine rdGo_full hg d (i+1) _ (by omega) (by rw [mkL_len];exact hl) (mkL_keep es l 0 h0) ?_ j hj;intro i' es' x hi' hr he hx hw;by_cases hlt:i'<i
   ·exact mkL_keep es l _ (h i' es' x hlt hr he hx hw)
   have:i'=i:=(by omega);subst this;rw [hes] at he;cases he
   have hto:=hg i' es hes x hx;refine mkL_all es l ?_ x hx hw (by omega);have hri:=hr;generalize hk:i'=k at hr;cases hr with
   | zero=>subst hk;exact h0
   | step h1 h2 h3 h4=>
     rename_i a esA y;have:=hg a esA h2 y h3;exact h a esA y (by omega) h1 h2 h3 h4
theorem rdM_iff {g:List (List Lnk)} {want:Int->Bool} (hg:LOK g):rdM want g=true↔Rch g want g.length:=by
 have h0:((List.replicate (g.length+1) false).set 0 true).getD 0 false=true:=by rw [gdSet];simp
 constructor
 ·intro h;refine rdGo_sound g.length 0 _ (by omega) ?_ _ h;intro j hj;rw [gdSet,Bool.or_eq_true,decide_eq_true_eq] at hj;rcases hj with ⟨rfl,_⟩|hj
  ·exact .zero
  rw [List.getD_eq_getElem?_getD,List.getElem?_replicate] at hj;split at hj<;>cases hj
 intro h;exact rdGo_full hg g.length 0 _ (by omega) (by simp) h0 (fun i' es x hi'=>absurd hi' (by omega)) _ h
theorem Rch.mono {g g':List (List Lnk)} {w w':Int->Bool} (h:∀ (i:Nat) es x,g[i]?=some es->x∈es->w x.entry=true->∃ es',g'[i]?=some es'/\∃ y∈es',y.to=x.to/\w' y.entry=true) {j:Nat} (hr:Rch g w j):Rch g' w' j:=by
 induction hr with
 | zero=>exact .zero
 | step h1 h2 h3 h4 ih=>
   obtain ⟨es',e1,y,e2,e3,e4⟩:=h _ _ _ h2 h3 h4;rw [<- e3];exact .step ih e1 e2 e4
theorem rdM_mono {g:List (List Lnk)} {w w':Int->Bool} (hg:LOK g) (h:∀ es∈g,∀ x∈es,w x.entry=true->w' x.entry=true) (hr:rdM w g=true):rdM w' g=true:=
 (rdM_iff hg).2 (((rdM_iff hg).1 hr).mono fun i es x h1 h2 h3=>⟨es,h1,x,h2,rfl,h es (List.mem_of_getElem? h1) x h2 h3⟩)
theorem rdM_congr {g:List (List Lnk)} {w w':Int->Bool} (hg:LOK g) (h:∀ es∈g,∀ x∈es,w x.entry=w' x.entry):rdM w g=rdM w' g:=by rw [Bool.eq_iff_iff];exact ⟨rdM_mono hg fun es h1 x h2 h3=>by rw [<- h es h1 x h2];exact h3,rdM_mono hg fun es h1 x h2 h3=>by rw [h es h1 x h2];exact h3⟩
def cpt {α:Type} [DecidableEq α]:List α->List α
 | []=>[]
 | [x]=>[x]
 | x::y::r=>if x=y then cpt (y::r) else x::cpt (y::r)
theorem cpt_mem {α:Type} [DecidableEq α] {x:α}:∀ {l:List α},x∈cpt l↔x∈l
 | []=>by simp [cpt]
 | [y]=>by simp [cpt]
 | y::z::r=>by
   unfold cpt;have ih:=cpt_mem (x:=x) (l:=z::r);split
   ·rename_i h;subst h;rw [ih];simp
   rw [List.mem_cons,ih,List.mem_cons (a:=x) (b:=y)]
theorem LOK.cpt {g:List (List Lnk)} (hg:LOK g):LOK (g.map cpt):=by intro i es hes x hx;rw [List.getElem?_map] at hes;obtain ⟨fs,hf,rfl⟩:=Option.map_eq_some_iff.1 hes;rw [List.length_map];exact hg i fs hf x (cpt_mem.1 hx)
theorem rdM_cpt {g:List (List Lnk)} {w:Int->Bool} (hg:LOK g):rdM w (g.map cpt)=rdM w g:=by
 rw [Bool.eq_iff_iff,rdM_iff hg.cpt,rdM_iff hg,List.length_map];constructor
 ·refine Rch.mono fun i es x h1 h2 h3=>?_;rw [List.getElem?_map] at h1;obtain ⟨fs,hf,rfl⟩:=Option.map_eq_some_iff.1 h1;exact ⟨fs,hf,x,cpt_mem.1 h2,rfl,h3⟩
 refine Rch.mono fun i es x h1 h2 h3=>?_;exact ⟨_,by rw [List.getElem?_map,h1];rfl,x,cpt_mem.2 h2,rfl,h3⟩
end Go.Abs.Wall
