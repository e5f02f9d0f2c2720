/- What is proved: small laws for the walks of this seat, and contracts of its functions. No condition but those each theorem names. -/
import Derived.Test.YtbmcnieifibckaaGreatN40
import Derived.Test.YtbmcnieifibckaaGreatN39
import Derived.Test.YtbmcnieifibckaaGreatN31
import Derived.Test.YtbmcnieifibckaaGreatN41
import Derived.Test.YtbmcnieifibckaaGreatN24
set_option maxRecDepth 100000
set_option maxHeartbeats 2000000
set_option linter.unusedVariables false
set_option linter.unusedSimpArgs false
namespace Go.Abs.Wall.Spl
open Go Go.Abs Go.Proofs Go.Abs.Wall
def c84:aw:=⟨[0,1,2,3,4,9],[],[],[],[],[]⟩
def c41:aw:=⟨[0,1,2,3,4,5,10,22,48,61,83],[],[],[],[(8,[0,1,2,3,4,5,6,7,8,9,10],[]),(9,[0,1,2,3,4,5,6,7,8,9,10,11],[]),(10,[0,1,2,3,4,5,6,7,8,9,10],[]),(11,[0,1,2,3,4,5,6,7,8,9,10,11],[])],[]⟩
def c42:aw:=⟨[0,1,2,3,5,6,7,8,9,10,18,22],[],[],[],[(8,[0,1,2,3,4,5,6,7,8,9],[])],[]⟩
def c11:aw:=⟨[0,1,2,3,4,5,6,7,8,9,10,11,12,13,14,15,16,30,54,73,86,134,147,179],[],[7,12],[],[(15,[0,1,2,3,4,5,6,7,8,9,10,11,12,13,14,15,16,17,18,19],[]),(16,[0,1,2,3,4,5,6,7,8,9,10,11,12,13,14,15,16,17,18,19,20,21,22,23,24,25,26,27],[]),(18,[0,1,2,3,4,5,6,7,8,9,10,11,12],[]),(20,[0,1,2,3,4,5,6,7,8,9],[]),(21,[0,1,2,3,4,5,6,7,8,9,10,11,12,13,14,15,16,17,18,19,20,21,22],[])],[]⟩
theorem RJ (a b:ao):ae Tryz.prog 84 [.agg (aT a),.agg (aT b)] [] (.bool (decide (fl a b<0))):=by
 refine aG (F:=Tryz.f84) c84 rfl rfl rfl mixed rfl fun X=>?_;(conv=>whnf);repeat ((first|refine ⟨af ⟨by omega,by omega⟩,?_⟩|refine ix (by assumption) ?_|refine sx (by assumption) ?_|refine ⟨_,_,aK.here _,⟨Nat.le_of_ble_eq_true rfl,rfl⟩,?_⟩|refine ⟨_,_,aK.here _,?_⟩|refine ⟨_,_,aK.there (.here _),?_⟩|refine ⟨_,_,.head _,rfl,?_⟩|refine ⟨_,_,.tail _ (.head _),rfl,?_⟩|refine ⟨_,_,.here _,aF,?_⟩|refine ⟨_,_,.there (.here _),aF,?_⟩|refine And.intro (by show aJ (aH Tryz.f84 _) _=true;decide +kernel) ?_|intro (nb:Nat));conv=>whnf)
 have hu:fl a b=if bN a.kind b.kind≠0 then bN a.kind b.kind else oF a.text b.text:=by unfold fl;rw [yN]
 refine ⟨fun hq=>?_,fun hq=>?_⟩<;>simp at hq
 ·(conv=>whnf);repeat ((first|refine ⟨af ⟨by omega,by omega⟩,?_⟩|refine ix (by assumption) ?_|refine sx (by assumption) ?_|refine ⟨_,_,aK.here _,⟨Nat.le_of_ble_eq_true rfl,rfl⟩,?_⟩|refine ⟨_,_,aK.here _,?_⟩|refine ⟨_,_,aK.there (.here _),?_⟩|refine ⟨_,_,.head _,rfl,?_⟩|refine ⟨_,_,.tail _ (.head _),rfl,?_⟩|refine ⟨_,_,.here _,aF,?_⟩|refine ⟨_,_,.there (.here _),aF,?_⟩|refine And.intro (by show aJ (aH Tryz.f84 _) _=true;decide +kernel) ?_|intro (nb:Nat));conv=>whnf)
  refine ⟨congrArg AV.bool ?_,rfl⟩;rw [hu,if_pos (by rw [ne_eq,kT];exact hq),decide_eq_decide,sN]
 (conv=>whnf);repeat ((first|refine ⟨af ⟨by omega,by omega⟩,?_⟩|refine ix (by assumption) ?_|refine sx (by assumption) ?_|refine ⟨_,_,aK.here _,⟨Nat.le_of_ble_eq_true rfl,rfl⟩,?_⟩|refine ⟨_,_,aK.here _,?_⟩|refine ⟨_,_,aK.there (.here _),?_⟩|refine ⟨_,_,.head _,rfl,?_⟩|refine ⟨_,_,.tail _ (.head _),rfl,?_⟩|refine ⟨_,_,.here _,aF,?_⟩|refine ⟨_,_,.there (.here _),aF,?_⟩|refine And.intro (by show aJ (aH Tryz.f84 _) _=true;decide +kernel) ?_|intro (nb:Nat));conv=>whnf)
 refine ⟨congrArg AV.bool ?_,rfl⟩;rw [hu,if_neg (by rw [ne_eq,kT];simpa using hq),bytesLess_eq,decide_eq_decide,Ay]
theorem c9 {a:List Int} {u:List ao} {b:List Int} {v:List ao} (h:a=[]\/u=[]\/v=[]):nL a u b v=false:=by cases a<;>cases u<;>cases b<;>cases v<;>simp_all [nL]
theorem KM (a b:Spl) (h1:a.aB.length<=1048576) (h2:b.aB.length<=1048576) (h3:a.aj.length<=1048576) (h4:b.aj.length<=1048576):ae Tryz.prog 41 [.agg (kJ a),.agg (kJ b)] [] (.bool (qy a b)):=by
 refine aG (F:=Tryz.f41) c41 rfl rfl rfl mixed rfl fun X=>?_;(conv=>whnf);repeat ((first|refine ⟨af ⟨by omega,by omega⟩,?_⟩|refine ix (by assumption) ?_|refine sx (by assumption) ?_|refine ⟨_,_,aK.here _,⟨Nat.le_of_ble_eq_true rfl,rfl⟩,?_⟩|refine ⟨_,_,aK.here _,?_⟩|refine ⟨_,_,aK.there (.here _),?_⟩|refine ⟨_,_,.head _,rfl,?_⟩|refine ⟨_,_,.tail _ (.head _),rfl,?_⟩|refine ⟨_,_,.here _,aF,?_⟩|refine ⟨_,_,.there (.here _),aF,?_⟩|refine And.intro (by show aJ (aH Tryz.f41 _) _=true;decide +kernel) ?_|intro (nb:Nat));conv=>whnf)
 refine ⟨fun hc=>?_,fun hc=>?_⟩<;>simp at hc
 ·(conv=>whnf);repeat ((first|refine ⟨af ⟨by omega,by omega⟩,?_⟩|refine ix (by assumption) ?_|refine sx (by assumption) ?_|refine ⟨_,_,aK.here _,⟨Nat.le_of_ble_eq_true rfl,rfl⟩,?_⟩|refine ⟨_,_,aK.here _,?_⟩|refine ⟨_,_,aK.there (.here _),?_⟩|refine ⟨_,_,.head _,rfl,?_⟩|refine ⟨_,_,.tail _ (.head _),rfl,?_⟩|refine ⟨_,_,.here _,aF,?_⟩|refine ⟨_,_,.there (.here _),aF,?_⟩|refine And.intro (by show aJ (aH Tryz.f41 _) _=true;decide +kernel) ?_|intro (nb:Nat));conv=>whnf)
  exact ⟨congrArg AV.bool (by unfold qy;rw [if_pos hc]),rfl⟩
 (conv=>whnf);repeat ((first|refine ⟨af ⟨by omega,by omega⟩,?_⟩|refine ix (by assumption) ?_|refine sx (by assumption) ?_|refine ⟨_,_,aK.here _,⟨Nat.le_of_ble_eq_true rfl,rfl⟩,?_⟩|refine ⟨_,_,aK.here _,?_⟩|refine ⟨_,_,aK.there (.here _),?_⟩|refine ⟨_,_,.head _,rfl,?_⟩|refine ⟨_,_,.tail _ (.head _),rfl,?_⟩|refine ⟨_,_,.here _,aF,?_⟩|refine ⟨_,_,.there (.here _),aF,?_⟩|refine And.intro (by show aJ (aH Tryz.f41 _) _=true;decide +kernel) ?_|intro (nb:Nat));conv=>whnf)
 refine ⟨fun hd=>?_,fun hd=>?_⟩<;>simp [dB] at hd
 ·(conv=>whnf);repeat ((first|refine ⟨af ⟨by omega,by omega⟩,?_⟩|refine ix (by assumption) ?_|refine sx (by assumption) ?_|refine ⟨_,_,aK.here _,⟨Nat.le_of_ble_eq_true rfl,rfl⟩,?_⟩|refine ⟨_,_,aK.here _,?_⟩|refine ⟨_,_,aK.there (.here _),?_⟩|refine ⟨_,_,.head _,rfl,?_⟩|refine ⟨_,_,.tail _ (.head _),rfl,?_⟩|refine ⟨_,_,.here _,aF,?_⟩|refine ⟨_,_,.there (.here _),aF,?_⟩|refine And.intro (by show aJ (aH Tryz.f41 _) _=true;decide +kernel) ?_|intro (nb:Nat));conv=>whnf)
  refine ⟨congrArg AV.bool ?_,rfl⟩;unfold qy;rw [if_neg (by omega),if_pos (by omega),dB,dB,decide_eq_decide];omega
 have ck:qy a b=nL a.aB a.aj b.aB b.aj:=by unfold qy;rw [if_neg (by omega),if_neg (by omega)]
 (conv=>whnf);repeat ((first|refine ⟨af ⟨by omega,by omega⟩,?_⟩|refine ix (by assumption) ?_|refine sx (by assumption) ?_|refine ⟨_,_,aK.here _,⟨Nat.le_of_ble_eq_true rfl,rfl⟩,?_⟩|refine ⟨_,_,aK.here _,?_⟩|refine ⟨_,_,aK.there (.here _),?_⟩|refine ⟨_,_,.head _,rfl,?_⟩|refine ⟨_,_,.tail _ (.head _),rfl,?_⟩|refine ⟨_,_,.here _,aF,?_⟩|refine ⟨_,_,.there (.here _),aF,?_⟩|refine And.intro (by show aJ (aH Tryz.f41 _) _=true;decide +kernel) ?_|intro (nb:Nat));conv=>whnf)
 refine bM rfl mixed [2,3,5] [] (fun m r h=>∃ (i:Nat),r=[(2,[],.au (kJ a)),(3,[],.au (kJ b)),(5,[],.int .i64 i)]/\h=[]/\m=a.aB.length - i/\i<=a.aB.length/\qy a b=nL (a.aB.drop i) (a.aj.drop i) (b.aB.drop i) (b.aj.drop i)) ?_ ?_
 ·(conv=>whnf);exact ⟨_,0,rfl,rfl,rfl,by omega,ck⟩
 clear ck;rintro m r h ⟨i,rfl,rfl,rfl,hi,hg⟩;(conv=>whnf);repeat ((first|refine ⟨af ⟨by omega,by omega⟩,?_⟩|refine ix (by assumption) ?_|refine sx (by assumption) ?_|refine ⟨_,_,aK.here _,⟨Nat.le_of_ble_eq_true rfl,rfl⟩,?_⟩|refine ⟨_,_,aK.here _,?_⟩|refine ⟨_,_,aK.there (.here _),?_⟩|refine ⟨_,_,.head _,rfl,?_⟩|refine ⟨_,_,.tail _ (.head _),rfl,?_⟩|refine ⟨_,_,.here _,aF,?_⟩|refine ⟨_,_,.there (.here _),aF,?_⟩|refine And.intro (by show aJ (aH Tryz.f41 _) _=true;decide +kernel) ?_|intro (nb:Nat));conv=>whnf)
 refine ⟨fun hz=>?_,fun hz=>?_⟩
 ·have hz:((decide ((i:Int)<((ints a.aB).length:Int))&&decide ((i:Int)<((a.aj.map aT).length:Int)))&&decide ((i:Int)<((b.aj.map aT).length:Int)))=true:=hz;simp [dB] at hz;obtain ⟨⟨z1,z2⟩,z3⟩:=hz;obtain ⟨s,hs⟩:=aN z1;obtain ⟨u,hu⟩:=aN z2;obtain ⟨v,hv⟩:=aN z3;obtain ⟨t,ht⟩:=aN (l:=b.aB) (i:=i) (by omega);rw [drop_cons hs,drop_cons hu,drop_cons ht,drop_cons hv,nL] at hg;(conv=>whnf);repeat ((first|refine ⟨af ⟨by omega,by omega⟩,?_⟩|refine ix (by assumption) ?_|refine sx (by assumption) ?_|(refine cj (enc:=fun n=>[AV.int .i64 n]) i rfl hs ?_)|(refine cj (enc:=fun n=>[AV.int .i64 n]) i rfl ht ?_)|refine ⟨_,_,aK.here _,⟨Nat.le_of_ble_eq_true rfl,rfl⟩,?_⟩|refine ⟨_,_,aK.here _,?_⟩|refine ⟨_,_,aK.there (.here _),?_⟩|refine ⟨_,_,.head _,rfl,?_⟩|refine ⟨_,_,.tail _ (.head _),rfl,?_⟩|refine ⟨_,_,.here _,aF,?_⟩|refine ⟨_,_,.there (.here _),aF,?_⟩|refine And.intro (by show aJ (aH Tryz.f41 _) _=true;decide +kernel) ?_|intro (nb:Nat));conv=>whnf)
  refine ⟨fun he=>?_,fun he=>?_⟩<;>simp at he
  ·rw [if_pos he] at hg;(conv=>whnf);repeat ((first|refine ⟨af ⟨by omega,by omega⟩,?_⟩|refine ix (by assumption) ?_|refine sx (by assumption) ?_|(refine cj (enc:=fun n=>[AV.int .i64 n]) i rfl hs ?_)|(refine cj (enc:=fun n=>[AV.int .i64 n]) i rfl ht ?_)|refine ⟨_,_,aK.here _,⟨Nat.le_of_ble_eq_true rfl,rfl⟩,?_⟩|refine ⟨_,_,aK.here _,?_⟩|refine ⟨_,_,aK.there (.here _),?_⟩|refine ⟨_,_,.head _,rfl,?_⟩|refine ⟨_,_,.tail _ (.head _),rfl,?_⟩|refine ⟨_,_,.here _,aF,?_⟩|refine ⟨_,_,.there (.here _),aF,?_⟩|refine And.intro (by show aJ (aH Tryz.f41 _) _=true;decide +kernel) ?_|intro (nb:Nat));conv=>whnf)
   exact ⟨by rw [hg],rfl⟩
  rw [if_neg (by omega)] at hg;(conv=>whnf);repeat ((first|refine ⟨af ⟨by omega,by omega⟩,?_⟩|refine ix (by assumption) ?_|refine sx (by assumption) ?_|(refine cj i rfl hu ?_)|(refine cj i rfl hv ?_)|(refine ⟨Dg,?_⟩)|refine ⟨_,_,aK.here _,⟨Nat.le_of_ble_eq_true rfl,rfl⟩,?_⟩|refine ⟨_,_,aK.here _,?_⟩|refine ⟨_,_,aK.there (.here _),?_⟩|refine ⟨_,_,.head _,rfl,?_⟩|refine ⟨_,_,.tail _ (.head _),rfl,?_⟩|refine ⟨_,_,.here _,aF,?_⟩|refine ⟨_,_,.there (.here _),aF,?_⟩|refine And.intro (by show aJ (aH Tryz.f41 _) _=true;decide +kernel) ?_|intro (nb:Nat));conv=>whnf)
  refine ⟨fun hy=>?_,fun hy=>?_⟩
  ·have hy:(!mg u v)=true:=hy;rw [tE,Bool.not_eq_true',decide_eq_false_iff_not] at hy;rw [if_pos hy] at hg;(conv=>whnf);repeat ((first|refine ⟨af ⟨by omega,by omega⟩,?_⟩|refine ix (by assumption) ?_|refine sx (by assumption) ?_|(refine cj i rfl hu ?_)|(refine cj i rfl hv ?_)|refine ae.k0 (RJ u v) ?_|refine aX (RJ u v) ?_|refine ⟨_,_,aK.here _,⟨Nat.le_of_ble_eq_true rfl,rfl⟩,?_⟩|refine ⟨_,_,aK.here _,?_⟩|refine ⟨_,_,aK.there (.here _),?_⟩|refine ⟨_,_,.head _,rfl,?_⟩|refine ⟨_,_,.tail _ (.head _),rfl,?_⟩|refine ⟨_,_,.here _,aF,?_⟩|refine ⟨_,_,.there (.here _),aF,?_⟩|refine And.intro (by show aJ (aH Tryz.f41 _) _=true;decide +kernel) ?_|intro (nb:Nat));conv=>whnf)
   exact ⟨by rw [hg],rfl⟩
  have hy:(!mg u v)=false:=hy;rw [tE,Bool.not_eq_false',decide_eq_true_eq] at hy;rw [if_neg (fun k=>k hy)] at hg;(conv=>whnf);repeat ((first|refine ⟨af ⟨by omega,by omega⟩,?_⟩|refine ix (by assumption) ?_|refine sx (by assumption) ?_|refine ⟨_,_,aK.here _,⟨Nat.le_of_ble_eq_true rfl,rfl⟩,?_⟩|refine ⟨_,_,aK.here _,?_⟩|refine ⟨_,_,aK.there (.here _),?_⟩|refine ⟨_,_,.head _,rfl,?_⟩|refine ⟨_,_,.tail _ (.head _),rfl,?_⟩|refine ⟨_,_,.here _,aF,?_⟩|refine ⟨_,_,.there (.here _),aF,?_⟩|refine And.intro (by show aJ (aH Tryz.f41 _) _=true;decide +kernel) ?_|intro (nb:Nat));conv=>whnf)
  exact ⟨_,by omega,i+1,rfl,rfl,rfl,by omega,hg⟩
 have hz:((decide ((i:Int)<((ints a.aB).length:Int))&&decide ((i:Int)<((a.aj.map aT).length:Int)))&&decide ((i:Int)<((b.aj.map aT).length:Int)))=false:=hz;rw [c9] at hg
 ·(conv=>whnf);exact ⟨by rw [hg],rfl⟩
 simp [dB] at hz;rw [List.drop_eq_nil_iff,List.drop_eq_nil_iff,List.drop_eq_nil_iff];omega
def Az (H:ax) (line:List Int) (f:bc):Bool:=if jA H line 0=2 then true else decide (jA H line 0=0)&&decide (f∈qA H line)
theorem j1 (H:ax) (line:List Int) (f:bc) (hf:eP H) (hl:line.length<=1048576) (hc:f.ah.length<=1048576) :
  ae Tryz.prog 42 [.agg (bJ H),.sl 1 none (ints line),.agg (dm f)] [] (.bool (Az H line f)):=by
 have gi:=ZZ (H:=H) (line:=line);have MZ:=b8 (H:=H) (line:=line);refine aG (F:=Tryz.f42) c42 rfl rfl rfl mixed rfl fun X=>?_;(conv=>whnf);repeat ((first|refine ⟨af ⟨by omega,by omega⟩,?_⟩|refine ix (by assumption) ?_|refine sx (by assumption) ?_|refine ae.k0 (RH H line hf hl) ?_|refine aX (RH H line hf hl) ?_|refine ⟨_,_,aK.here _,⟨Nat.le_of_ble_eq_true rfl,rfl⟩,?_⟩|refine ⟨_,_,aK.here _,?_⟩|refine ⟨_,_,aK.there (.here _),?_⟩|refine ⟨_,_,.head _,rfl,?_⟩|refine ⟨_,_,.tail _ (.head _),rfl,?_⟩|refine ⟨_,_,.here _,aF,?_⟩|refine ⟨_,_,.there (.here _),aF,?_⟩|refine And.intro (by show aJ (aH Tryz.f42 _) _=true;decide +kernel) ?_|intro (nb:Nat));conv=>whnf)
 refine ⟨fun h0=>?_,fun h0=>?_⟩<;>simp at h0
 ·(conv=>whnf);exact ⟨by unfold Az;rw [if_pos h0],rfl⟩
 have h1:Az H line f=(decide (jA H line 0=0)&&decide (f∈qA H line)):=by unfold Az;rw [if_neg h0]
 rw [h1];generalize qA H line=L at *;generalize jA H line 0=e at *;(conv=>whnf);repeat ((first|refine ⟨af ⟨by omega,by omega⟩,?_⟩|refine ix (by assumption) ?_|refine sx (by assumption) ?_|refine ⟨_,_,aK.here _,⟨Nat.le_of_ble_eq_true rfl,rfl⟩,?_⟩|refine ⟨_,_,aK.here _,?_⟩|refine ⟨_,_,aK.there (.here _),?_⟩|refine ⟨_,_,.head _,rfl,?_⟩|refine ⟨_,_,.tail _ (.head _),rfl,?_⟩|refine ⟨_,_,.here _,aF,?_⟩|refine ⟨_,_,.there (.here _),aF,?_⟩|refine And.intro (by show aJ (aH Tryz.f42 _) _=true;decide +kernel) ?_|intro (nb:Nat));conv=>whnf)
 refine bM rfl mixed [5,7,8,9,10] [] (fun m r h=>∃ (i:Nat) (c:Bool),r=[(5,[],.au (dm f)),(7,[],.sl 3 none (L.map dm)),(8,[],.int .i64 e),(9,[],.bool c),(10,[],.int .i64 i)]/\h=[]/\m=L.length - i/\i<=L.length/\c=decide (f∈L.take i)) ?_ ?_
 ·(conv=>whnf);exact ⟨_,0,false,rfl,rfl,rfl,by omega,by simp⟩
 rintro m r h ⟨i,c,rfl,rfl,rfl,hi,hg⟩;(conv=>whnf);refine ⟨fun hz=>?_,fun hz=>?_⟩<;>simp at hz
 ·obtain ⟨x,hx⟩:=aN hz;have oq:=gi x (List.mem_of_getElem? hx);have hs:=dg hx;(conv=>whnf);repeat ((first|refine ⟨af ⟨by omega,by omega⟩,?_⟩|refine ix (by assumption) ?_|refine sx (by assumption) ?_|(refine cj i rfl hx ?_)|refine ae.k0 (Mu x f (by unfold aq;omega) (by unfold aq;omega)) ?_|refine aX (Mu x f (by unfold aq;omega) (by unfold aq;omega)) ?_|refine ⟨_,_,aK.here _,⟨Nat.le_of_ble_eq_true rfl,rfl⟩,?_⟩|refine ⟨_,_,aK.here _,?_⟩|refine ⟨_,_,aK.there (.here _),?_⟩|refine ⟨_,_,.head _,rfl,?_⟩|refine ⟨_,_,.tail _ (.head _),rfl,?_⟩|refine ⟨_,_,.here _,aF,?_⟩|refine ⟨_,_,.there (.here _),aF,?_⟩|refine And.intro (by show aJ (aH Tryz.f42 _) _=true;decide +kernel) ?_|intro (nb:Nat));conv=>whnf)
  refine ⟨_,by omega,i+1,_,rfl,rfl,rfl,by omega,?_⟩;rw [hs,hg];by_cases b:f=x
  ·rw [b];simp
  have b2:¬ x=f:=fun e=>b e.symm;simp [b,b2]
 rw [List.take_of_length_le hz] at hg;(conv=>whnf);repeat ((first|refine ⟨af ⟨by omega,by omega⟩,?_⟩|refine ix (by assumption) ?_|refine sx (by assumption) ?_|refine ⟨_,_,aK.here _,⟨Nat.le_of_ble_eq_true rfl,rfl⟩,?_⟩|refine ⟨_,_,aK.here _,?_⟩|refine ⟨_,_,aK.there (.here _),?_⟩|refine ⟨_,_,.head _,rfl,?_⟩|refine ⟨_,_,.tail _ (.head _),rfl,?_⟩|refine ⟨_,_,.here _,aF,?_⟩|refine ⟨_,_,.there (.here _),aF,?_⟩|refine And.intro (by show aJ (aH Tryz.f42 _) _=true;decide +kernel) ?_|intro (nb:Nat));conv=>whnf)
 exact ⟨by rw [hg],rfl⟩
structure AA where
 most:Int
 cK:Jl
def FV (r:AA):List AV:=[.int .i64 r.most]++Jm r.cK
def sO (H:ax) (B:bX) (r:AA):Spl:=⟨r.cK.line,r.cK.word.aj,tV H B r.cK.line r.cK.word⟩
theorem FW {H:ax} {B:bX} {f:bc} {most:Int} (h:iT H B f most=0) {i:Nat} {x:Spl} (hx:(gE H B f most)[i]?=some x):(i:Int)<most/\∃ w,(df (bC H B f) dR)[i]?=some w/\x=jn (bC H B f) w:=by
 obtain ⟨_,hm,_⟩:=Ax h;unfold gE at hx;rw [if_pos h] at hx;unfold gS at hx;rw [List.getElem?_map] at hx;cases hw:((df (bC H B f) dR).take most.toNat)[i]? with
 | none=>rw [hw] at hx;cases hx
 | some w=>
   rw [hw] at hx;have hi:i<most.toNat:=by have:=(List.getElem?_eq_some_iff.1 hw).1;rw [List.length_take] at this;omega
   rw [List.getElem?_take_of_lt hi] at hw;exact ⟨by omega,w,hw,(Option.some.inj hx).symm⟩
theorem RK {H:ax} {B:bX} {f:bc} {most:Int} (h:iT H B f most=0):1<=(gE H B f most).length/\((gE H B f most).length:Int)<=most/\((gE H B f most).length:Int)=min most (df (bC H B f) dR).length:=by obtain ⟨_,hm,hn⟩:=Ax h;have hp:=List.length_pos_iff.2 hn;unfold gE;rw [if_pos h];unfold gS;rw [List.length_map,List.length_take];omega
theorem RL {H:ax} {B:bX} {f:bc} {most:Int} (h:iT H B f most=0) {i:Nat} {x:Spl} (hx:(gE H B f most)[i]?=some x):kQ H B x.aB ⟨f,x.aj⟩=0/\tV H B x.aB ⟨f,x.aj⟩=x.cost/\∀ u∈x.aj,u.text.length<=8:=by obtain ⟨_,w,hw,rfl⟩:=FW h hx;obtain ⟨h1,h2⟩:=Qt (Ax h).1 hw;exact ⟨h1,h2,c8 (Ax h).1 hw⟩
theorem j9 {H:ax} {B:bX} {f:bc} {most:Int} (h:iT H B f most=0) {i j:Nat} (nK:i<j) {x y:Spl} (hx:(gE H B f most)[i]?=some x) (hy:(gE H B f most)[j]?=some y):qy x y=true:=by obtain ⟨_,v,hv,rfl⟩:=FW h hx;obtain ⟨_,w,hw,rfl⟩:=FW h hy;obtain ⟨h0,hr,hf⟩:=CR (Ax h).1;exact QC (yq h0 hr (mG hf)) (QD h0) nK hv hw
theorem k6 {H:ax} {B:bX} {f:bc} {most:Int} (h:iT H B f most=0) {i:Nat} {x:Spl} (hx:(gE H B f most)[i]?=some x):Az H x.aB f=true:=by
 obtain ⟨h1,_,_⟩:=RL h hx;obtain ⟨_,h2,_⟩:=c7 h1;obtain ⟨h3,h4,h5⟩:=Fj h2;have hl:=xL h5;have hD:x.aB.length=x.aj.length:=hl.2;unfold Az;by_cases hw:jA H x.aB 0=2
 ·rw [if_pos hw]
 have h0:jA H x.aB 0=0:=by
  unfold jA at hw ⊢;rw [if_neg (by omega)] at hw ⊢;rw [if_neg (by rw [Bool.not_eq_false,dS];omega)] at hw ⊢;split
  ·rename_i h;rw [if_pos h] at hw;exact absurd rfl hw
  rfl
 rw [if_neg hw,h0];obtain ⟨hL,hle,_⟩:=Df h0
 have cn:uL H 0 ⟨f,x.aj⟩∈cD H x.aB 0:=by
  refine (yb hL hle (Nat.zero_le _)).2 ⟨⟨h4,?_,?_⟩,rfl⟩
  ·show 0+x.aj.length<=x.aB.length;omega
  show kC H ((x.aB.drop 0).take x.aj.length) ⟨f,x.aj⟩=true;rw [List.drop_zero,<- hD,List.take_length];exact h5
 have hm:f∈qA H x.aB:=by unfold qA;rw [if_pos h0,Rw];unfold jQ;refine List.mem_map.2 ⟨_,List.mem_filter.2 ⟨cn,?_⟩,rfl⟩;unfold vw;refine decide_eq_true ?_;show ((0:Nat):Int)+x.aj.length=_;omega
 rw [decide_eq_true hm];rfl
theorem k7 {a b:Spl}:Aj a b=true↔a=b:=by
 obtain ⟨a1,a2,a3⟩:=a;obtain ⟨b1,b2,b3⟩:=b;unfold Aj;simp only [Bool.and_eq_true,decide_eq_true_eq,Spl.mk.injEq];constructor
 ·rintro ⟨⟨h1,h2⟩,h3⟩;exact ⟨h2,h3,h1⟩
 rintro ⟨h1,h2,h3⟩;exact ⟨⟨h3,h1⟩,h2⟩
theorem k8 {H:ax} {B:bX} {r:AA} (h:iT H B r.cK.word.form r.most=0) (hg:kQ H B r.cK.line r.cK.word=0) (hn:(gE H B r.cK.word.form r.most).any (fun x=>Aj x (sO H B r))=false) :
  ((gE H B r.cK.word.form r.most).length:Int)=r.most/\∀ z,(gE H B r.cK.word.form r.most)[(gE H B r.cK.word.form r.most).length - 1]?=some z->qy (sO H B r) z=false:=by
 obtain ⟨_,hm,_⟩:=Ax h;obtain ⟨l1,l2,l3⟩:=RK h;obtain ⟨hb,ρ,w,hw,hs⟩:=Qu (f:=r.cK.word.form) (us:=r.cK.word.aj) hg;have hs:jn (bC H B r.cK.word.form) w=sO H B r:=hs;have aL:=(List.getElem?_eq_some_iff.1 hw).1
 have pf:r.most<=ρ:=by
  refine Classical.byContradiction fun hc=>?_;have hi:ρ<r.most.toNat:=(by omega);have:(gE H B r.cK.word.form r.most)[ρ]?=some (sO H B r):=by unfold gE;rw [if_pos h];unfold gS;rw [List.getElem?_map,List.getElem?_take_of_lt hi,hw,<- hs];rfl
  rw [List.any_eq_false] at hn;exact hn _ (List.mem_of_getElem? this) (k7.2 rfl)
 refine ⟨by omega,fun z hz=>?_⟩;obtain ⟨_,v,hv,rfl⟩:=FW h hz;obtain ⟨h0,hr,hf⟩:=CR hb;rw [<- hs];exact Yp (QC (yq h0 hr (mG hf)) (QD h0) (by omega) hv hw)
theorem RM {H:ax} {B:bX} {r:AA} (h:iT H B r.cK.word.form r.most=61):kQ H B r.cK.line r.cK.word≠0:=by
 intro hg;obtain ⟨hb,ρ,w,hw,_⟩:=Qu (f:=r.cK.word.form) (us:=r.cK.word.aj) hg;unfold iT at h;rw [if_neg (by omega)] at h;split at h
 ·split at h
  ·rename_i he;rw [he] at hw;simp at hw
  cases h
 cases h
theorem k9 (H:ax) (B:bX) (rv:AA) (hf:eP H) (hB:wB B) (hl:rv.cK.line.length<=1048576) (hw:od rv.cK.word):ae Tryz.prog 11 [.agg (bJ H),.agg (mj B),.agg (FV rv)] [] (.bool true):=by
 have eO:rv.cK.word.form.ah.length<=aq:=by have:=hw.cl;unfold aq;omega
 have RN:=Pr H B rv.cK.line rv.cK.word hf hB hl hw;refine aG (F:=Tryz.f11) c11 rfl rfl rfl mixed rfl fun X=>?_;(conv=>whnf);repeat ((first|refine ⟨af ⟨by omega,by omega⟩,?_⟩|refine ix (by assumption) ?_|refine sx (by assumption) ?_|refine ae.k0 (Qa H) ?_|refine aX (Qa H) ?_|refine ⟨_,_,aK.here _,⟨Nat.le_of_ble_eq_true rfl,rfl⟩,?_⟩|refine ⟨_,_,aK.here _,?_⟩|refine ⟨_,_,aK.there (.here _),?_⟩|refine ⟨_,_,.head _,rfl,?_⟩|refine ⟨_,_,.tail _ (.head _),rfl,?_⟩|refine ⟨_,_,.here _,aF,?_⟩|refine ⟨_,_,.there (.here _),aF,?_⟩|refine And.intro (by show aJ (aH Tryz.f11 _) _=true;decide +kernel) ?_|intro (nb:Nat));conv=>whnf)
 refine ⟨fun h0=>?_,fun h0=>?_⟩
 ·(conv=>whnf);repeat ((first|refine ⟨af ⟨by omega,by omega⟩,?_⟩|refine ix (by assumption) ?_|refine sx (by assumption) ?_|refine ae.k0 (zY) ?_|refine aX (zY) ?_|refine ⟨_,_,aK.here _,⟨Nat.le_of_ble_eq_true rfl,rfl⟩,?_⟩|refine ⟨_,_,aK.here _,?_⟩|refine ⟨_,_,aK.there (.here _),?_⟩|refine ⟨_,_,.head _,rfl,?_⟩|refine ⟨_,_,.tail _ (.head _),rfl,?_⟩|refine ⟨_,_,.here _,aF,?_⟩|refine ⟨_,_,.there (.here _),aF,?_⟩|refine And.intro (by show aJ (aH Tryz.f11 _) _=true;decide +kernel) ?_|intro (nb:Nat));conv=>whnf)
  exact ⟨rfl,rfl⟩
 (conv=>whnf);repeat ((first|refine ⟨af ⟨by omega,by omega⟩,?_⟩|refine ix (by assumption) ?_|refine sx (by assumption) ?_|refine ae.k0 (Ji H B rv.cK.word.form rv.most hf hB eO) ?_|refine aX (Ji H B rv.cK.word.form rv.most hf hB eO) ?_|refine ae.k0 (RN) ?_|refine aX (RN) ?_|refine ⟨_,_,aK.here _,⟨Nat.le_of_ble_eq_true rfl,rfl⟩,?_⟩|refine ⟨_,_,aK.here _,?_⟩|refine ⟨_,_,aK.there (.here _),?_⟩|refine ⟨_,_,.head _,rfl,?_⟩|refine ⟨_,_,.tail _ (.head _),rfl,?_⟩|refine ⟨_,_,.here _,aF,?_⟩|refine ⟨_,_,.there (.here _),aF,?_⟩|refine And.intro (by show aJ (aH Tryz.f11 _) _=true;decide +kernel) ?_|intro (nb:Nat));conv=>whnf)
 refine ⟨fun h1=>?_,fun h1=>?_⟩<;>simp at h1
 ·(conv=>whnf);repeat ((first|refine ⟨af ⟨by omega,by omega⟩,?_⟩|refine ix (by assumption) ?_|refine sx (by assumption) ?_|refine ae.k0 (zY) ?_|refine aX (zY) ?_|refine ⟨_,_,aK.here _,⟨Nat.le_of_ble_eq_true rfl,rfl⟩,?_⟩|refine ⟨_,_,aK.here _,?_⟩|refine ⟨_,_,aK.there (.here _),?_⟩|refine ⟨_,_,.head _,rfl,?_⟩|refine ⟨_,_,.tail _ (.head _),rfl,?_⟩|refine ⟨_,_,.here _,aF,?_⟩|refine ⟨_,_,.there (.here _),aF,?_⟩|refine And.intro (by show aJ (aH Tryz.f11 _) _=true;decide +kernel) ?_|intro (nb:Nat));conv=>whnf)
  refine ⟨congrArg AV.bool ?_,rfl⟩;by_cases h2:iT H B rv.cK.word.form rv.most=61
  ·rw [decide_eq_false (RM h2)];simp
  rw [decide_eq_false h2];rfl
 have Ar:=RM (H:=H) (B:=B) (r:=rv);obtain ⟨l1,l2,l3⟩:=RK h1;have dN:=fun i x=>RL (H:=H) (B:=B) (f:=rv.cK.word.form) (most:=rv.most) h1 (i:=i) (x:=x);have FU:=fun i j (nK:i<j) x y=>j9 (H:=H) (B:=B) (f:=rv.cK.word.form) (most:=rv.most) h1 nK (x:=x) (y:=y);have nd:=fun i x=>k6 (H:=H) (B:=B) (f:=rv.cK.word.form) (most:=rv.most) h1 (i:=i) (x:=x);have ji:=k8 (H:=H) (B:=B) (r:=rv) h1;have rS:=XL (H:=H) (B:=B) (f:=rv.cK.word.form) (most:=rv.most);have V7:=XM (H:=H) (B:=B) (f:=rv.cK.word.form) (most:=rv.most);rw [h1];generalize gE H B rv.cK.word.form rv.most=L at *;have tm:((L.map kJ).length:Int)=L.length:=(by rw [List.length_map]);(conv=>whnf);repeat ((first|refine ⟨af ⟨by omega,by omega⟩,?_⟩|refine ix (by assumption) ?_|refine sx (by assumption) ?_|refine ⟨_,_,aK.here _,⟨Nat.le_of_ble_eq_true rfl,rfl⟩,?_⟩|refine ⟨_,_,aK.here _,?_⟩|refine ⟨_,_,aK.there (.here _),?_⟩|refine ⟨_,_,.head _,rfl,?_⟩|refine ⟨_,_,.tail _ (.head _),rfl,?_⟩|refine ⟨_,_,.here _,aF,?_⟩|refine ⟨_,_,.there (.here _),aF,?_⟩|refine And.intro (by show aJ (aH Tryz.f11 _) _=true;decide +kernel) ?_|intro (nb:Nat));conv=>whnf)
 refine cF (by rw [tm,decide_eq_false (by omega),decide_eq_false (by omega)];rfl) ?_;(conv=>whnf);repeat ((first|refine ⟨af ⟨by omega,by omega⟩,?_⟩|refine ix (by assumption) ?_|refine sx (by assumption) ?_|refine ⟨_,_,aK.here _,⟨Nat.le_of_ble_eq_true rfl,rfl⟩,?_⟩|refine ⟨_,_,aK.here _,?_⟩|refine ⟨_,_,aK.there (.here _),?_⟩|refine ⟨_,_,.head _,rfl,?_⟩|refine ⟨_,_,.tail _ (.head _),rfl,?_⟩|refine ⟨_,_,.here _,aF,?_⟩|refine ⟨_,_,.there (.here _),aF,?_⟩|refine And.intro (by show aJ (aH Tryz.f11 _) _=true;decide +kernel) ?_|intro (nb:Nat));conv=>whnf)
 have RO:(sO H B rv).aB.length<=1048576/\(sO H B rv).aj.length<=1048576:=⟨hl,hw.us⟩;refine bM rfl mixed [3,4,5,7,8,11,12,13,14] [] (fun m r h=>∃ (i:Nat) (c:Bool),r=[(3,[],.au (bJ H)),(4,[],.au (mj B)),(5,[],.au (FV rv)),(7,[],.au (dm rv.cK.word.form)),(8,[],.sl 3 none (L.map kJ)),(11,[],.int .i64 (kQ H B rv.cK.line rv.cK.word)),(12,[],.au (kJ (sO H B rv))),(13,[],.bool c),(14,[],.int .i64 i)]/\h=[]/\m=L.length - i/\i<=L.length/\c=(L.take i).any fun x=>Aj x (sO H B rv)) ?_ ?_
 ·(conv=>whnf);exact ⟨_,0,false,rfl,rfl,rfl,by omega,rfl⟩
 rintro m r h ⟨i,c,rfl,rfl,rfl,hi,hc⟩;(conv=>whnf);refine ⟨fun hz=>?_,fun hz=>?_⟩<;>simp at hz
 ·obtain ⟨x,hx⟩:=aN hz;obtain ⟨p1,p2,p3⟩:=dN i x hx;have Ri:=rS x (List.mem_of_getElem? hx);have yO:=Pr H B x.aB ⟨rv.cK.word.form,x.aj⟩ hf hB (by omega) ⟨hw.cl,fun u hu=>by have:=p3 u hu;omega,by show x.aj.length<=_;omega⟩;rw [p1,p2] at yO;have yP:=j1 H x.aB rv.cK.word.form hf (by omega) hw.cl;rw [nd i x hx] at yP;have tz:=XI x (sO H B rv) (by unfold aq;omega) (by unfold aq;omega) (by unfold aq;omega) (by unfold aq;omega);rcases Nat.eq_zero_or_pos i with l4|l4
  ·have l5:=KM x x (by omega) (by omega) (by omega) (by omega);(conv=>whnf);repeat ((first|refine ⟨af ⟨by omega,by omega⟩,?_⟩|refine ix (by assumption) ?_|refine sx (by assumption) ?_|(refine cj i rfl hx ?_)|(refine ⟨_,af yO,?_⟩)|refine ae.k0 (yO) ?_|refine aX (yO) ?_|(refine ⟨0,kJ x,?_,?_⟩;(focus (conv=>whnf;skip));(focus (intro g1 g2;exact absurd (of_decide_eq_true g2) (by omega))))|(refine ⟨_,af l5,?_⟩)|refine ⟨_,_,aK.here _,⟨Nat.le_of_ble_eq_true rfl,rfl⟩,?_⟩|refine ⟨_,_,aK.here _,?_⟩|refine ⟨_,_,aK.there (.here _),?_⟩|refine ⟨_,_,.head _,rfl,?_⟩|refine ⟨_,_,.tail _ (.head _),rfl,?_⟩|refine ⟨_,_,.here _,aF,?_⟩|refine ⟨_,_,.there (.here _),aF,?_⟩|refine And.intro (by show aJ (aH Tryz.f11 _) _=true;decide +kernel) ?_|intro (nb:Nat));conv=>whnf)
   refine cF (by rw [decide_eq_false (p:=(0:Int)<(i:Int)) (by omega)];simp) ?_;(conv=>whnf);repeat ((first|refine ⟨af ⟨by omega,by omega⟩,?_⟩|refine ix (by assumption) ?_|refine sx (by assumption) ?_|(refine cj i rfl hx ?_)|(refine ⟨_,af yP,?_⟩)|refine ae.k0 (yP) ?_|refine aX (yP) ?_|refine ⟨_,_,aK.here _,⟨Nat.le_of_ble_eq_true rfl,rfl⟩,?_⟩|refine ⟨_,_,aK.here _,?_⟩|refine ⟨_,_,aK.there (.here _),?_⟩|refine ⟨_,_,.head _,rfl,?_⟩|refine ⟨_,_,.tail _ (.head _),rfl,?_⟩|refine ⟨_,_,.here _,aF,?_⟩|refine ⟨_,_,.there (.here _),aF,?_⟩|refine And.intro (by show aJ (aH Tryz.f11 _) _=true;decide +kernel) ?_|intro (nb:Nat));conv=>whnf)
   refine cF (by simp) ?_;(conv=>whnf);repeat ((first|refine ⟨af ⟨by omega,by omega⟩,?_⟩|refine ix (by assumption) ?_|refine sx (by assumption) ?_|(refine cj i rfl hx ?_)|(refine ⟨_,af tz,?_⟩)|refine ae.k0 (tz) ?_|refine aX (tz) ?_|refine ⟨_,_,aK.here _,⟨Nat.le_of_ble_eq_true rfl,rfl⟩,?_⟩|refine ⟨_,_,aK.here _,?_⟩|refine ⟨_,_,aK.there (.here _),?_⟩|refine ⟨_,_,.head _,rfl,?_⟩|refine ⟨_,_,.tail _ (.head _),rfl,?_⟩|refine ⟨_,_,.here _,aF,?_⟩|refine ⟨_,_,.there (.here _),aF,?_⟩|refine And.intro (by show aJ (aH Tryz.f11 _) _=true;decide +kernel) ?_|intro (nb:Nat));conv=>whnf)
   refine ⟨_,by omega,i+1,_,rfl,rfl,rfl,by omega,?_⟩;rw [dg hx,List.any_append,hc];simp
  obtain ⟨y,hy⟩:=aN (l:=L) (i:=i - 1) (by omega);have kf:=rS y (List.mem_of_getElem? hy);have RP:=KM y x (by omega) (by omega) (by omega) (by omega);rw [FU (i - 1) i (by omega) y x hy hx] at RP;(conv=>whnf);repeat ((first|refine ⟨af ⟨by omega,by omega⟩,?_⟩|refine ix (by assumption) ?_|refine sx (by assumption) ?_|(refine cj i rfl hx ?_)|(refine ⟨_,af yO,?_⟩)|refine ae.k0 (yO) ?_|refine aX (yO) ?_|(refine ⟨i - 1,kJ y,af ⟨by omega,by rw [List.getElem?_map,hy];rfl⟩,?_⟩)|(refine ⟨_,af RP,?_⟩)|refine ⟨_,_,aK.here _,⟨Nat.le_of_ble_eq_true rfl,rfl⟩,?_⟩|refine ⟨_,_,aK.here _,?_⟩|refine ⟨_,_,aK.there (.here _),?_⟩|refine ⟨_,_,.head _,rfl,?_⟩|refine ⟨_,_,.tail _ (.head _),rfl,?_⟩|refine ⟨_,_,.here _,aF,?_⟩|refine ⟨_,_,.there (.here _),aF,?_⟩|refine And.intro (by show aJ (aH Tryz.f11 _) _=true;decide +kernel) ?_|intro (nb:Nat));conv=>whnf)
  refine cF (by simp) ?_;(conv=>whnf);repeat ((first|refine ⟨af ⟨by omega,by omega⟩,?_⟩|refine ix (by assumption) ?_|refine sx (by assumption) ?_|(refine cj i rfl hx ?_)|(refine ⟨_,af yP,?_⟩)|refine ae.k0 (yP) ?_|refine aX (yP) ?_|refine ⟨_,_,aK.here _,⟨Nat.le_of_ble_eq_true rfl,rfl⟩,?_⟩|refine ⟨_,_,aK.here _,?_⟩|refine ⟨_,_,aK.there (.here _),?_⟩|refine ⟨_,_,.head _,rfl,?_⟩|refine ⟨_,_,.tail _ (.head _),rfl,?_⟩|refine ⟨_,_,.here _,aF,?_⟩|refine ⟨_,_,.there (.here _),aF,?_⟩|refine And.intro (by show aJ (aH Tryz.f11 _) _=true;decide +kernel) ?_|intro (nb:Nat));conv=>whnf)
  refine cF (by simp) ?_;(conv=>whnf);repeat ((first|refine ⟨af ⟨by omega,by omega⟩,?_⟩|refine ix (by assumption) ?_|refine sx (by assumption) ?_|(refine cj i rfl hx ?_)|(refine ⟨_,af tz,?_⟩)|refine ae.k0 (tz) ?_|refine aX (tz) ?_|refine ⟨_,_,aK.here _,⟨Nat.le_of_ble_eq_true rfl,rfl⟩,?_⟩|refine ⟨_,_,aK.here _,?_⟩|refine ⟨_,_,aK.there (.here _),?_⟩|refine ⟨_,_,.head _,rfl,?_⟩|refine ⟨_,_,.tail _ (.head _),rfl,?_⟩|refine ⟨_,_,.here _,aF,?_⟩|refine ⟨_,_,.there (.here _),aF,?_⟩|refine And.intro (by show aJ (aH Tryz.f11 _) _=true;decide +kernel) ?_|intro (nb:Nat));conv=>whnf)
  refine ⟨_,by omega,i+1,_,rfl,rfl,rfl,by omega,?_⟩;rw [dg hx,List.any_append,hc];simp
 rw [List.take_of_length_le (by omega)] at hc;subst hc;obtain ⟨z,eX⟩:=aN (l:=L) (i:=L.length - 1) (by omega);have lM:=rS z (List.mem_of_getElem? eX);have l6:=KM (sO H B rv) z RO.1 (by omega) RO.2 (by omega);(conv=>whnf);repeat ((first|refine ⟨af ⟨by omega,by omega⟩,?_⟩|refine ix (by assumption) ?_|refine sx (by assumption) ?_|(refine ⟨L.length - 1,kJ z,af ⟨by rw [tm];omega,by rw [List.getElem?_map,eX];rfl⟩,?_⟩)|(refine ⟨_,af l6,?_⟩)|(refine ⟨af (by rw [tm];omega),?_⟩)|refine ⟨_,_,aK.here _,⟨Nat.le_of_ble_eq_true rfl,rfl⟩,?_⟩|refine ⟨_,_,aK.here _,?_⟩|refine ⟨_,_,aK.there (.here _),?_⟩|refine ⟨_,_,.head _,rfl,?_⟩|refine ⟨_,_,.tail _ (.head _),rfl,?_⟩|refine ⟨_,_,.here _,aF,?_⟩|refine ⟨_,_,.there (.here _),aF,?_⟩|refine And.intro (by show aJ (aH Tryz.f11 _) _=true;decide +kernel) ?_|intro (nb:Nat));conv=>whnf)
 refine cF ?_ ?_
 ·rw [tm];cases hA:decide (kQ H B rv.cK.line rv.cK.word=0)&&!L.any fun x=>Aj x (sO H B rv) with
  | false=>rfl
  | true=>
    rw [Bool.and_eq_true,decide_eq_true_eq,Bool.not_eq_true'] at hA;obtain ⟨q1,q2⟩:=ji hA.1 hA.2;rw [q2 z eX,decide_eq_false (by omega)];rfl
 (conv=>whnf);repeat ((first|refine ⟨af ⟨by omega,by omega⟩,?_⟩|refine ix (by assumption) ?_|refine sx (by assumption) ?_|refine ae.k0 (zY) ?_|refine aX (zY) ?_|refine ⟨_,_,aK.here _,⟨Nat.le_of_ble_eq_true rfl,rfl⟩,?_⟩|refine ⟨_,_,aK.here _,?_⟩|refine ⟨_,_,aK.there (.here _),?_⟩|refine ⟨_,_,.head _,rfl,?_⟩|refine ⟨_,_,.tail _ (.head _),rfl,?_⟩|refine ⟨_,_,.here _,aF,?_⟩|refine ⟨_,_,.there (.here _),aF,?_⟩|refine And.intro (by show aJ (aH Tryz.f11 _) _=true;decide +kernel) ?_|intro (nb:Nat));conv=>whnf)
 exact ⟨rfl,rfl⟩
end Go.Abs.Wall.Spl
namespace Go.Abs.Wall.Spl
open Go Go.Abs Go.Proofs Go.Abs.Wall Go.Proofs.YtbmcnieifibckaaGreat.Br
theorem l7 {xs:List AV} (h:Sh Tryz.prog eL 71 xs):∃ w:Jl,xs=Jm w/\w.line.length<=eL/\KN w.word:=by obtain ⟨ps,rfl,hp⟩:=oC h rfl;obtain ⟨x,y,rfl,h1,h2⟩:=Dh hp;obtain ⟨a,rfl,ha,hi⟩:=Jk h1;obtain ⟨b,rfl,hb⟩:=l8 h2;exact ⟨⟨a,b⟩,by unfold Jm;simp,ha,hb⟩
theorem l9 {x:AV} (h:vg Tryz.prog eL 81 x):∃ r:AA,x=.agg (FV r)/\r.cK.line.length<=eL/\KN r.cK.word:=by obtain ⟨xs,h,hx⟩:=h;have hx:x=.agg xs:=hx;subst hx;obtain ⟨ps,rfl,hp⟩:=oC h rfl;obtain ⟨x,y,rfl,h1,h2⟩:=Dh hp;obtain ⟨n,rfl,hn⟩:=iU h1;obtain ⟨b,rfl,hl,hb⟩:=l7 h2;exact ⟨⟨n,b⟩,by unfold FV;simp,hl,hb⟩
end Go.Abs.Wall.Spl
