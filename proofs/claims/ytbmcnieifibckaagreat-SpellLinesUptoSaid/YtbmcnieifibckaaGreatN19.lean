/- What is proved: small laws for the walks of this seat, and contracts of its functions. No condition but those each theorem names. -/
import Derived.Test.YtbmcnieifibckaaGreatN11
import Derived.Test.YtbmcnieifibckaaGreatN18
import Derived.Test.YtbmcnieifibckaaGreatN8
set_option maxRecDepth 100000
set_option maxHeartbeats 2000000
set_option linter.unusedVariables false
set_option linter.unusedSimpArgs false
namespace Go.Abs.Wall
open Go Go.Abs Go.Proofs
structure MoreL (x y:Lex):Prop where
 ent:∃ l,y.entries=x.entries++l
 edn:∃ l,y.endings=x.endings++l
 cli:∃ l,y.clitics=x.clitics++l
structure MoreH (H H':Hou):Prop where
 lex:MoreL H.lex H'.lex
 costs:H'.costs=H.costs
 period:H'.period=H.period
 signs:H'.list.signs.length=H.list.signs.length
 vals:∀ n:Nat,∃ l,(H'.list.signs.getD n ⟨[],0,0,false,[]⟩).values=(H.list.signs.getD n ⟨[],0,0,false,[]⟩).values++l
theorem getD_app {α:Type} {a l:List α} {d:α} {n:Int} (h:0≤n∧n<a.length):(a++l).getD n.toNat d=a.getD n.toNat d:=by
 rw [List.getD_eq_getElem?_getD,List.getD_eq_getElem?_getD,List.getElem?_append_left (by omega)]
theorem MoreL.entAt {x y:Lex} (h:MoreL x y) {n:Int} (hn:0≤n∧n<x.entries.length):entAt y n=entAt x n:=by
 obtain ⟨l,e⟩:=h.ent
 unfold Wall.entAt
 rw [e,getD_app hn]
theorem MoreL.ednAt {x y:Lex} (h:MoreL x y) {n:Int} (hn:0≤n∧n<x.endings.length):ednAt y n=ednAt x n:=by
 obtain ⟨l,e⟩:=h.edn
 unfold Wall.ednAt
 rw [e,getD_app hn]
theorem MoreL.cliAt {x y:Lex} (h:MoreL x y) {n:Int} (hn:0≤n∧n<x.clitics.length):cliAt y n=cliAt x n:=by
 obtain ⟨l,e⟩:=h.cli
 unfold Wall.cliAt
 rw [e,getD_app hn]
theorem MoreL.cliT {x y:Lex} (h:MoreL x y) {cl:List Int} (hc:∀ c∈cl,0≤c∧c<x.clitics.length):cliT y cl=cliT x cl:=by
 unfold Wall.cliT
 rw [List.map_congr_left fun c hm=>by rw [h.cliAt (hc c hm)]]
theorem MoreL.cliW {x y:Lex} (h:MoreL x y) {cl:List Int} (hc:∀ c∈cl,0≤c∧c<x.clitics.length):cliW y cl=cliW x cl:=by
 unfold Wall.cliW
 rw [List.map_congr_left fun c hm=>by rw [h.cliAt (hc c hm)]]
theorem MoreL.wgtM {x y:Lex} (h:MoreL x y) {f:Frm} (hF:FrmOK x f):wgtM y f=wgtM x f:=by
 unfold Wall.wgtM
 rw [h.entAt hF.entry,h.cliW hF.cli]
 rcases hF.ending with hz|⟨h1,h2,_⟩
 ·rw [if_neg (by omega),if_neg (by omega)]
 ·rw [h.ednAt ⟨h1,h2⟩]
theorem MoreL.bodyM {x y:Lex} (h:MoreL x y) {f:Frm} (hF:FrmOK x f):bodyM y f.entry f.ending=bodyM x f.entry f.ending:=by
 unfold Wall.bodyM
 rw [h.entAt hF.entry]
 rcases hF.ending with hz|⟨h1,h2,_⟩
 ·rw [if_pos (by omega),if_pos (by omega)]
 ·rw [h.ednAt ⟨h1,h2⟩]
end Go.Abs.Wall
namespace Go.Abs.Wall
open Go Go.Abs Go.Proofs
def RunP (s:Sp) (p:Prg):List Use→Prg→Prop
 | [],q=>q=p
 | u::us,q=>∃ r,r∈nextM s p u∧RunP s r us q
theorem RunP.snoc {s:Sp}:∀ {us:List Use} {p q:Prg} {u:Use} {r:Prg},RunP s p us q→r∈nextM s q u→RunP s p (us++[u]) r
 | [],p,q,u,r,h,h2=>by
   have h:q=p:=h
   subst h
   exact ⟨r,h2,rfl⟩
 | v::us,p,q,u,r,h,h2=>by
   obtain ⟨z,h3,h4⟩:=h
   exact ⟨z,h3,RunP.snoc h4 h2⟩
structure CliUp (H:Hou) (p:Prg):Prop where
 up:cliOK H.lex.clitics.length p.cl (-1)=true
 few:p.cl.length≤3
end Go.Abs.Wall
namespace Go.Abs.Wall.Lst
open Go Go.Abs Go.Proofs Go.Abs.Wall
def Rows (g:List (List Edg)):Prop:=∀ (i:Nat) es,g[i]?=some es→∀ (j k:Nat) x y,j<k→es[j]?=some x→es[k]?=some y→wrdCmp x.word y.word<0
end Go.Abs.Wall.Lst
namespace Go.Abs.Wall.Lst
open Go Go.Abs Go.Proofs Go.Abs.Wall
end Go.Abs.Wall.Lst
