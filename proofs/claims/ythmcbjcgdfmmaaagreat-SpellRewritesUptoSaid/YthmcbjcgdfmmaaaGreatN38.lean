/- Small laws for the walks and contracts of functions; each theorem names its conditions. -/
import Derived.Test.YthmcbjcgdfmmaaaGreatN37
import Derived.Test.YthmcbjcgdfmmaaaGreatN30
import Derived.Test.YthmcbjcgdfmmaaaGreatN33
set_option maxRecDepth 100000
set_option maxHeartbeats 2000000
namespace Go.Abs.Wall.Spl
open Go Go.Abs Go.Proofs Go.Abs.Wall
open Go.Abs.Wall.Lst (mM ed iX jo kT uj wZ ui)
def c7:av:=⟨[0,1,2,3,4,6,7,8,9,10,11,12,13,14,15,20,30,39,48,68,83],[35],[14],[],[(15,[0,1,2,3,4,5,6,7,8,9,10],[]),(16,[0,1,2,3,4,5,6,7,8,9,10],[]),(17,[],[])],[]⟩
def pR (K:List (List ar)) (i:Nat) (v:AV) (j:Nat):AV:=if j<i then .sl 7 none ((K.getD j []).map bZ) else if j=i then v else .aS
theorem Ru (K:List (List ar)) (i n:Nat) (v w:AV):dq n (fun j=>if j=0+i*1 then w else pR K i v j)=dq n (pR K i w):=by
 refine vp fun j _=>?_;unfold pR;by_cases h:j=i
 ·rw [if_pos (by omega),if_neg (by omega),if_pos h]
 rw [if_neg (by omega),if_neg h];rw [if_neg h]
theorem Zr {n:Nat} {f g:Nat->AV} (h:∀ j,aa (f j) (g j)):cu (dq n f) (dq n g):=by
 unfold dq;generalize List.range n=l;induction l with
 | nil=>exact .nil
 | cons a l ih=>exact .cons (h a) ih
theorem Zs {K:List (List ar)} {i:Nat} {L:List ar} {v:AV} {hp:af} (hL:K.getD i []=L) (ho:Out 7 bZ L v hp) (j:Nat):aa (pR K i v j) (pR K (i+1) .aS j):=by
 unfold pR;by_cases h:j<i
 ·rw [if_pos h,if_pos (by omega)];exact aa.refl _
 rw [if_neg h];by_cases h2:j=i
 ·rw [if_pos h2,if_pos (by omega),h2,hL];exact ho.le (by decide)
 rw [if_neg h2,if_neg (by omega),ite_self];exact aa.refl _
theorem Zt {K:List (List ar)} {n:Nat} (h:K.length=n):dq n (pR K n .aS)=(K.map kg).flatten:=by
 subst h;refine List.ext_getElem? fun j=>?_
 have hl:(K.map kg).flatten=K.map fun es=>AV.sl 7 none (es.map bZ):=by
  induction K with
  | nil=>rfl
  | cons a l ih=>rw [List.map_cons,List.flatten_cons,ih];rfl
 rw [hl];by_cases hj:j<K.length
 ·rw [GH hj,List.getElem?_map];obtain ⟨es,bp⟩:=aF hj;unfold pR;rw [bp,if_pos hj,List.getD_eq_getElem?_getD,bp];rfl
 rw [List.getElem?_eq_none (by rw [QT];omega),List.getElem?_eq_none (by rw [List.length_map];omega)]
theorem Rv {H:aD} {B:bE} {line:List Int}:∀ (l:List ar) (i:Nat),uj (jU H B line) i l->uj (cZ H line) i l
 | [],i,h=>by have h:i=(jU H B line).length:=h;show i=(cZ H line).length;rw [h,GL,sM]
 | x::l,i,h=>by obtain ⟨es,h1,h2,h3⟩:=h;obtain ⟨te,h4,rfl⟩:=Lv h1;exact ⟨te,h4,(List.mem_filter.1 h2).1,Rv l _ h3⟩
theorem Zu {H:aD} {B:bE} {line:List Int} (hG:fJ (cZ H line)) (h:bz (cZ H line) 0=[]):bz (jU H B line) 0=[]:=by
 cases hq:bz (jU H B line) 0 with
 | nil=>rfl
 | cons p t=>
   have hp:p∈bz (jU H B line) 0:=by rw [hq];exact List.mem_cons_self ..
   obtain ⟨h1,h2⟩:=(wZ (GM hG) (jU H B line).length 0 (by omega) p).1 hp;have:=(wZ hG (cZ H line).length 0 (by omega) p).2 ⟨Rv _ _ h1,h2⟩;rw [h] at this;cases this
set_option maxHeartbeats 4000000 in
theorem Zv (H:aD) (B:bE) (line:List Int) (hf:dx H) (hB:lN B) (hl:line.length<=1048576) :
  ab Tryz.prog 7 [.agg (aZ H),.agg (dO B),.sl 1 none (ints line)] [] (.aB [.agg (km (qZ H B line)),.int .i64 (mo H B line)]):=by
 have ra:∀ e:Int,aa (.aB [.agg [.aS,.int .i64 0],.int .i64 e]) (.aB [.agg (km ui),.int .i64 e]):=fun e=>aa.aB (.cons (aa.agg (.cons (aa.nil (by decide)) (.cons (aa.refl _) .nil))) (.cons (aa.refl _) .nil));refine ab.of ?_;refine aA (F:=Tryz.f7) c7 rfl rfl rfl mixed rfl fun X=>?_;(conv=>whnf);intro rb;(conv=>whnf);repeat (refine ab.k0 (Gm H B hf hB) ?_;conv=>whnf)
 refine ⟨fun h0=>?_,fun h0=>?_⟩<;>simp at h0
 ·have he:mo H B line=kr H B:=by unfold mo;rw [if_pos h0]
  unfold qZ;rw [he,if_neg h0];(conv=>whnf);repeat ((first|refine ⟨_,_,.head _,rfl,?_⟩|refine ⟨_,_,.here _,aI,?_⟩);conv=>whnf)
  exact ra _
 (conv=>whnf);repeat (refine ab.k0 (Nz H line hf hl) ?_;conv=>whnf)
 refine ⟨fun h1=>?_,fun h1=>?_⟩<;>simp at h1
 ·have hle:ed H line 1=dU H line:=by unfold ed;rw [if_pos h1]
  have he:mo H B line=dU H line:=by unfold mo;rw [if_neg (by omega),hle,if_pos h1]
  unfold qZ;rw [he,if_neg h1];(conv=>whnf);repeat ((first|refine ⟨_,_,.head _,rfl,?_⟩|refine ⟨_,_,.here _,aI,?_⟩);conv=>whnf)
  exact ra _
 have Ji:tZ H line=cZ H line:=by unfold tZ;rw [if_pos h1]
 obtain ⟨hL,_,hG⟩:=wI h1;have dG:=hL.bB;have Gk:B.aK.length=H.list.aK.length:=(PY (Dq h0).2).1;obtain ⟨K,hK⟩:∃ K,K=jU H B line:=⟨_,rfl⟩;have tG:fJ K:=by rw [hK];exact GM hG
 have GQ:K.length=line.length:=(by rw [hK,GL]);have hlen:((cZ H line).map kg).length=line.length:=(by rw [List.length_map,sM]);rw [Ji];(conv=>whnf);repeat ((refine ⟨⟨rfl,by rw [hlen];omega,by rw [hlen];omega⟩,fun kb=>?_⟩);conv=>whnf)
 rw [hlen,show (line.length:Int).toNat=line.length by omega];have og:gS line.length [AV.aS]=dq line.length (pR K 0 .aS):=by rw [Je];refine vp fun j _=>?_;unfold pR;rw [if_neg (by omega),ite_self]
 rw [og];refine bD rfl mixed [2,3,4,6,9,11,12] [] (fun m r h=>∃ (i:Nat),r=[(2,[],.sl 1 none (ints line)),(3,[],.ai (aZ H)),(4,[],.ai (dO B)),(6,[],.ba rb 0),(9,[],.sl 1 none ((cZ H line).map kg)),(11,[],.aQ kb 0 line.length 1),(12,[],.int .i64 i)]/\h=(kb,.vec (dq line.length (pR K i .aS)))::(rb,.vec [.aS,.int .i64 0])::[]/\m=line.length - i/\i<=line.length) ?_ ?_
 ·(conv=>whnf);exact ⟨_,_,ah.refl _ _,_,0,rfl,rfl,rfl,by omega⟩
 rintro m r h' ⟨i,rfl,rfl,rfl,hi⟩;(conv=>whnf);refine ⟨fun hz=>?_,fun hz=>?_⟩<;>simp [sM] at hz
 ·obtain ⟨es,bp⟩:∃ es,es=ei H line i:=⟨_,rfl⟩;have As:(cZ H line)[i]?=some es:=by rw [bp];exact wH hz
  have Zw:K[i]?=some (es.filter (oq H B line i)):=by rw [hK];exact Re As
  have Zx:K.getD i []=es.filter (oq H B line i):=by rw [List.getD_eq_getElem?_getD,Zw];rfl
  have Ly:∀ x∈es,KF H line i x:=fun x hx=>Ro h1 (by omega) (by rw [<- bp];exact hx);have Rs:es.length<=2000:=hG.many i _ As;(conv=>whnf);skip;refine bD rfl mixed [2,3,4,6,9,11,12,13] [] (fun m r h=>∃ (k:Nat) (v:AV) (hp:af),r=[(2,[],.sl 1 none (ints line)),(3,[],.ai (aZ H)),(4,[],.ai (dO B)),(6,[],.ba rb 0),(9,[],.sl 1 none ((cZ H line).map kg)),(11,[],.aQ kb 0 line.length 1),(12,[],.int .i64 i),(13,[],.int .i64 k)]/\h=(kb,.vec (dq line.length (pR K i v)))::(rb,.vec [.aS,.int .i64 0])::hp/\m=es.length - k/\k<=es.length/\Out 7 bZ ((es.take k).filter (oq H B line i)) v hp) ?_ ?_
  ·(conv=>whnf);exact ⟨_,_,ah.refl _ _,_,0,.aS,[],rfl,rfl,rfl,by omega,.inl ⟨rfl,rfl,rfl⟩⟩
  rintro m r h' ⟨k,v,hp,rfl,rfl,rfl,hk,ho⟩;have fu:(((es.take k).filter (oq H B line i)).map bZ).length<=2000:=by rw [List.length_map];have:=List.length_filter_le (oq H B line i) (es.take k);rw [List.length_take] at this;omega
  have Bm:pR K i v (0+i*1)=v:=by unfold pR;rw [if_neg (by omega),if_pos (by omega)]
  (conv=>whnf);repeat (refine ix (by assumption) ?_;conv=>whnf)
  refine ⟨fun bg=>?_,fun bg=>?_⟩<;>simp at bg
  ·obtain ⟨x,hx⟩:=aF bg;have gy:=Ly x (List.mem_of_getElem? hx);have Zy:=gy.uL;have oc:=gy.to;have Zp:=gy.lo;have Zq:=gy.hi;have hu:=gy.ay;have bq:((line.take x.to.toNat).drop i).length=x.word.ay.length:=by rw [List.length_drop,List.length_take];omega
   have uJ:=Xz H B ((line.take x.to.toNat).drop i) x.word (by omega) bq gy.form (fun z hz=>by rw [Gk];exact hL.aK z (List.mem_of_mem_take (List.mem_of_mem_drop hz)));rw [Xt H B bq,show ints ((line.take x.to.toNat).drop i)=((ints line).take x.to.toNat).drop x.uL.toNat by rw [Zy,Int.toNat_natCast];unfold ints;rw [List.map_drop,List.map_take]] at uJ;have xL:oq H B line i x=xq H B ((line.take x.to.toNat).drop i) x.word:=rfl;rw [<- xL] at uJ;have ej:=Rw (f:=oq H B line i) hx;(conv=>whnf);repeat ((first|refine ix (by assumption) ?_|(refine ⟨ag ⟨by omega,by omega,by rw [cO];omega⟩,?_⟩)|(refine ⟨_,ag (uJ.wide _),?_⟩)|refine ⟨_,_,bj.here _,⟨Nat.le_of_ble_eq_true rfl,rfl⟩,?_⟩|refine And.intro (by show aJ (aH Tryz.f7 _) _=true;decide +kernel) ?_|intro (nb:Nat));conv=>whnf)
   refine ⟨fun q1=>?_,fun q1=>?_⟩
   ·rw [if_pos q1] at ej;rcases ho with ⟨fw,rfl,rfl⟩|⟨q,rfl,rfl⟩
    ·(conv=>whnf);repeat ((first|refine ⟨ag ⟨by omega,by omega⟩,?_⟩|(refine fy (i:=i) (by omega) ?_)|(refine sT .aS (.head _) rfl (by omega) Bm ?_)|(refine ⟨Nat.le_of_ble_eq_true rfl,fun q=>?_⟩)|(refine yR ?_ (.there (.here _)) ?_;(focus omega))|refine And.intro (by show aJ (aH Tryz.f7 _) _=true;decide +kernel) ?_);conv=>whnf)
     rw [Ru];exact ⟨_,_,ah.perm (List.perm_middle (l₁:=[_,_])).symm,_,(by omega),k+1,.sl 7 (some q) [bZ x],[(q,.tok)],rfl,rfl,rfl,by omega,.inr ⟨q,by rw [ej,fw];rfl,rfl⟩⟩
    (conv=>whnf);repeat ((first|refine ⟨ag ⟨by omega,by omega⟩,?_⟩|(refine fy (i:=i) (by omega) ?_)|(refine sT _ (.head _) rfl (by omega) Bm ?_)|(refine ⟨(by rw [List.length_append];simp only [List.length_singleton];unfold aN;omega),fun q2=>⟨_,.there (.there (.here _)),?_⟩⟩)|(refine yR ?_ (.here _) ?_;(focus omega))|refine And.intro (by show aJ (aH Tryz.f7 _) _=true;decide +kernel) ?_);conv=>whnf)
    rw [Ru];exact ⟨_,_,ah.refl _ _,_,(by omega),k+1,_,[(q2,.tok)],rfl,rfl,rfl,by omega,.inr ⟨q2,by rw [ej,List.map_append];rfl,rfl⟩⟩
   rw [if_neg (by rw [q1];decide),List.append_nil] at ej;(conv=>whnf);repeat (refine ⟨ag ⟨by omega,by omega⟩,?_⟩;conv=>whnf)
   exact ⟨_,_,ah.refl _ _,_,(by omega),k+1,v,hp,rfl,rfl,rfl,by omega,by rw [ej];exact ho⟩
  rw [List.take_of_length_le (by omega)] at ho;(conv=>whnf);repeat (refine ⟨ag ⟨by omega,by omega⟩,?_⟩;conv=>whnf)
  exact ⟨_,_,ah.trans (ah.cells (.here _) (Zr fun j=>Zs Zx ho j)) (Lst.ah.left (A:=[_,_])),_,(by omega),i+1,rfl,rfl,rfl,by omega⟩
 have cH:i=line.length:=(by omega);subst cH;rw [Zt GQ];have Rx:jf kb (K.map kg).flatten (.aQ kb 0 line.length 1) (.sl 1 none (K.map kg)):=Ry (fun _=>rfl) GQ;(conv=>whnf);skip;refine Ll rfl mixed (ah.freeze (b:=kb) (.here _) (jd.refl _) (.cons (.refl _) (.cons (.refl _) (.cons (.refl _) (.cons (.refl _) (.cons (.refl _) (.cons Rx (qW.refl _)))))))) ?_;(conv=>whnf);repeat (refine ab.k0 (Lst.Ot K tG 1 (by omega) (by omega)) ?_;conv=>whnf)
 have hle:ed H line 1=if bz (cZ H line) 0=[] then 52 else 0:=by unfold ed;rw [if_neg (by omega),if_pos (by decide)]
 have he:mo H B line=if bz K 0=[] then 52 else 0:=by
  unfold mo;rw [if_neg (by omega),<- hK,hle];by_cases hn:bz (cZ H line) 0=[]
  ·rw [if_pos hn,if_pos (by decide),if_pos (by rw [hK];exact Zu hG hn)]
  rw [if_neg hn,if_neg (by decide)]
 refine ⟨fun hc=>?_,fun hc=>?_⟩<;>simp at hc
 ·have hn:=(Lst.CM (g:=K) (m:=1) (by omega)).1 hc;rw [if_pos hn] at he;unfold qZ;rw [he,if_neg (by decide)];(conv=>whnf);repeat ((first|refine ⟨_,_,.head _,rfl,?_⟩|refine ⟨_,_,.here _,aI,?_⟩);conv=>whnf)
  exact ra _
 have hn:bz K 0≠[]:=fun h=>hc ((Lst.CM (g:=K) (m:=1) (by omega)).2 h);rw [if_neg hn] at he;unfold qZ;rw [he,if_pos rfl,<- hK]
 obtain ⟨p,t,Zz⟩:∃ p t,jo K 1=p::t:=by
  cases hq:jo K 1 with
  | nil=>exact absurd hq hc
  | cons p t=>exact ⟨p,t,rfl⟩
 rw [Zz];(conv=>whnf);repeat ((first|(refine cp 0 rfl (l:=p::t) (x:=p) rfl ?_)|refine ⟨_,_,.head _,rfl,?_⟩|refine ⟨_,_,.here _,aI,?_⟩);conv=>whnf)
 exact aa.refl _
end Go.Abs.Wall.Spl
namespace Go.Abs.Wall.Spl
open Go Go.Abs Go.Proofs Go.Abs.Wall
open Go.Abs.Wall.Lst (mM ed iX jo kT uj wZ ui CN Ov Ow FA AE)
def c9:av:=⟨[0,1,2,3,4,6,7,8,9,10,11,13,14,20,29,32,33,34,35],[],[9,13],[],[],[]⟩
def c10:av:=⟨[0,1,2,3,4,6,7,8,9,10,11,17,26],[],[9],[],[(7,[0,1,2,3,4,5,6,7,8,9,10,11,12],[])],[]⟩
def c28:av:=⟨[0,2,3,4,8],[],[],[],[],[]⟩
def c3:av:=⟨[0,1,2,3,4,6,7,8,9,10,11,12,15,39],[],[7,9],[],[],[]⟩
def sd (H:aD) (line:List Int):List br:=(mM H line).words.map (·.form)
def se (H:aD) (B:bE) (line:List Int):Int:=if kr H B≠0 then kr H B else if ed H line 1≠0 then ed H line 1 else fX H B (sd H line)
def pS (H:aD) (B:bE) (line:List Int):List Int:=if kr H B≠0 then [] else if ed H line 1≠0 then [] else om H B (sd H line)
theorem LA (H:aD) (line:List Int):(sd H line).length<=60/\∀ f∈sd H line,f.ao.length<=1048576:=by have h:=Ow (H:=H) (line:=line);refine ⟨by unfold sd;rw [List.length_map];exact h.1,fun f hf=>?_⟩;obtain ⟨w,hw,rfl⟩:=List.mem_map.1 hf;exact (h.2 w hw).cl
theorem ZA (H:aD) (B:bE) (line:List Int) (hf:dx H) (hB:lN B) (hl:line.length<=1048576) :
  ab Tryz.prog 9 [.agg (aZ H),.agg (dO B),.sl 1 none (ints line)] [] (.aB [.sl 1 none (ints (pS H B line)),.int .i64 (se H B line)]):=by
 have ra:∀ e:Int,aa (.aB [.aS,.int .i64 e]) (.aB [.sl 1 none (ints []),.int .i64 e]):=fun e=>aa.aB (.cons (aa.nil (by decide)) (.cons (aa.refl _) .nil));obtain ⟨cY,jv⟩:=LA H line;refine ab.of ?_;refine aA (F:=Tryz.f9) c9 rfl rfl rfl mixed rfl fun X=>?_;(conv=>whnf);repeat (refine ab.k0 (Gb H B hf hB) ?_;conv=>whnf)
 refine ⟨fun h0=>?_,fun h0=>?_⟩<;>simp at h0
 ·unfold se pS;rw [if_pos h0,if_pos h0];(conv=>whnf);skip;exact ra _
 (conv=>whnf);repeat ((first|refine ab.k0 (CN H line hf hl) ?_|refine ⟨_,_,bj.here _,⟨Nat.le_of_ble_eq_true rfl,rfl⟩,?_⟩|intro (nb:Nat));conv=>whnf)
 refine ⟨fun h1=>?_,fun h1=>?_⟩<;>simp at h1
 ·have e1:se H B line=ed H line 1:=by unfold se;rw [if_neg (by omega),if_pos h1]
  have e2:pS H B line=[]:=by unfold pS;rw [if_neg (by omega),if_pos h1]
  rw [e1,e2];(conv=>whnf);skip;exact ra _
 have e1:se H B line=fX H B (sd H line):=by unfold se;rw [if_neg (by omega),if_neg (by omega)]
 have e2:pS H B line=om H B (sd H line):=by unfold pS;rw [if_neg (by omega),if_neg (by omega)]
 rw [e1,e2];obtain ⟨ws,Eb⟩:∃ ws,ws=(mM H line).words:=⟨_,rfl⟩;have zM:sd H line=ws.map (·.form):=by rw [Eb];rfl
 rw [zM] at cY jv ⊢;rw [List.length_map] at cY;(conv=>whnf);skip;rw [<- Eb];refine bD rfl mixed [3,4,11,32,33,34] [] (fun m r h=>∃ (i:Nat) (v:AV) (hp:af),r=[(3,[],.ai (aZ H)),(4,[],.ai (dO B)),(11,[],v),(32,[],.sl 4 none (ws.map cG)),(33,[],.int .i64 (ws.map cG).length),(34,[],.int .i64 i)]/\h=hp/\m=ws.length - i/\i<=ws.length/\Out 3 dt ((ws.take i).map (·.form)) v hp) ?_ ?_
 ·(conv=>whnf);exact ⟨_,_,ah.refl _ _,_,0,.aS,[],rfl,rfl,rfl,by omega,.inl ⟨rfl,rfl,rfl⟩⟩
 rintro m r h' ⟨i,v,hp,rfl,rfl,rfl,hi,ho⟩;(conv=>whnf);refine ⟨fun hc=>?_,fun hc=>?_⟩<;>simp at hc
 ·obtain ⟨w,hw⟩:=aF hc;have ej:(ws.take (i+1)).map (·.form)=(ws.take i).map (·.form)++[w.form]:=by rw [cN hw,List.map_append];rfl
  have fu:(((ws.take i).map (·.form)).map dt).length<=60:=by rw [List.length_map,List.length_map,List.length_take];omega
  rcases ho with ⟨fw,rfl,rfl⟩|⟨q,rfl,rfl⟩
  ·(conv=>whnf);repeat ((first|refine ⟨ag ⟨by omega,by omega⟩,?_⟩|refine ix (by assumption) ?_|(refine ⟨Nat.le_of_ble_eq_true rfl,fun q=>?_⟩)|refine ⟨_,_,bj.here _,⟨Nat.le_of_ble_eq_true rfl,rfl⟩,?_⟩|intro (nb:Nat));conv=>whnf)
   exact ⟨_,_,ah.refl _ _,_,(by omega),i+1,.sl 3 (some q) [dt w.form],[(q,.tok)],rfl,rfl,rfl,by omega,.inr ⟨q,by rw [ej,fw];rfl,rfl⟩⟩
  (conv=>whnf);repeat ((first|refine ⟨ag ⟨by omega,by omega⟩,?_⟩|refine ix (by assumption) ?_|(refine ⟨(by rw [List.length_append,List.length_singleton];unfold aN;omega),fun q2=>⟨_,.here _,?_⟩⟩)|refine ⟨_,_,bj.here _,⟨Nat.le_of_ble_eq_true rfl,rfl⟩,?_⟩|intro (nb:Nat));conv=>whnf)
  exact ⟨_,_,ah.refl _ _,_,(by omega),i+1,_,[(q2,.tok)],rfl,rfl,rfl,by omega,.inr ⟨q2,by rw [ej,List.map_append];rfl,rfl⟩⟩
 rw [List.take_of_length_le (by omega)] at ho;have Lw:=ab.args (YU H B (ws.map (·.form)) hf hB (by rw [List.length_map];omega) jv) (.cons (aa.refl _) (.cons (aa.refl _) (.cons (ho.le (by decide)) .nil)));(conv=>whnf);repeat ((refine (Lw.wide _).k ?_);conv=>whnf)
 (conv=>whnf);skip;exact aa.refl _
theorem ZB (ws:List eJ) (h:ws.length<=60):ab Tryz.prog 28 [.sl 4 none (ws.map cG)] [] (.sl 3 none ((ws.map (·.form)).map dt)):=by
 refine ab.of ?_;refine aA (F:=Tryz.f28) c28 rfl rfl rfl mixed rfl fun X=>?_;(conv=>whnf);skip;refine bD rfl mixed [0,3,4] [] (fun m r h=>∃ (i:Nat) (v:AV) (hp:af),r=[(0,[],.sl 4 none (ws.map cG)),(3,[],v),(4,[],.int .i64 i)]/\h=hp/\m=ws.length - i/\i<=ws.length/\Out 3 dt ((ws.take i).map (·.form)) v hp) ?_ ?_
 ·(conv=>whnf);exact ⟨_,_,ah.refl _ _,_,0,.aS,[],rfl,rfl,rfl,by omega,.inl ⟨rfl,rfl,rfl⟩⟩
 rintro m r h' ⟨i,v,hp,rfl,rfl,rfl,hi,ho⟩;(conv=>whnf);refine ⟨fun hc=>?_,fun hc=>?_⟩<;>simp at hc
 ·obtain ⟨w,hw⟩:=aF hc;have ej:(ws.take (i+1)).map (·.form)=(ws.take i).map (·.form)++[w.form]:=by rw [cN hw,List.map_append];rfl
  have fu:(((ws.take i).map (·.form)).map dt).length<=60:=by rw [List.length_map,List.length_map,List.length_take];omega
  rcases ho with ⟨fw,rfl,rfl⟩|⟨q,rfl,rfl⟩
  ·(conv=>whnf);repeat ((first|refine ⟨ag ⟨by omega,by omega⟩,?_⟩|refine ix (by assumption) ?_|(refine ⟨Nat.le_of_ble_eq_true rfl,fun q=>?_⟩));conv=>whnf)
   exact ⟨_,_,ah.refl _ _,_,(by omega),i+1,.sl 3 (some q) [dt w.form],[(q,.tok)],rfl,rfl,rfl,by omega,.inr ⟨q,by rw [ej,fw];rfl,rfl⟩⟩
  (conv=>whnf);repeat ((first|refine ⟨ag ⟨by omega,by omega⟩,?_⟩|refine ix (by assumption) ?_|(refine ⟨(by rw [List.length_append,List.length_singleton];unfold aN;omega),fun q2=>⟨_,.here _,?_⟩⟩));conv=>whnf)
  exact ⟨_,_,ah.refl _ _,_,(by omega),i+1,_,[(q2,.tok)],rfl,rfl,rfl,by omega,.inr ⟨q2,by rw [ej,List.map_append];rfl,rfl⟩⟩
 rw [List.take_of_length_le (by omega)] at ho;(conv=>whnf);skip;exact ho.le (by decide)
theorem ZC (H:aD) (B:bE) (line:List Int) (hf:dx H) (hB:lN B) (hl:line.length<=1048576) :
  ab Tryz.prog 10 [.agg (aZ H),.agg (dO B),.sl 1 none (ints line)] [] (.aB [.sl 1 none (ints (pS H B line)),.int .i64 (se H B line)]):=by
 have ra:∀ e:Int,aa (.aB [.aS,.int .i64 e]) (.aB [.sl 1 none (ints []),.int .i64 e]):=fun e=>aa.aB (.cons (aa.nil (by decide)) (.cons (aa.refl _) .nil));obtain ⟨cY,jv⟩:=LA H line;refine ab.of ?_;refine aA (F:=Tryz.f10) c10 rfl rfl rfl mixed rfl fun X=>?_;(conv=>whnf);repeat (refine ab.k0 (Gm H B hf hB) ?_;conv=>whnf)
 refine ⟨fun h0=>?_,fun h0=>?_⟩<;>simp at h0
 ·unfold se pS;rw [if_pos h0,if_pos h0];(conv=>whnf);skip;exact ra _
 (conv=>whnf);repeat ((first|refine ab.k0 (Ov H line hf hl) ?_|refine ⟨_,_,bj.here _,⟨Nat.le_of_ble_eq_true rfl,rfl⟩,?_⟩|intro (nb:Nat));conv=>whnf)
 refine ⟨fun h1=>?_,fun h1=>?_⟩<;>simp at h1
 ·have e1:se H B line=ed H line 1:=by unfold se;rw [if_neg (by omega),if_pos h1]
  have e2:pS H B line=[]:=by unfold pS;rw [if_neg (by omega),if_pos h1]
  rw [e1,e2];(conv=>whnf);skip;exact ra _
 have e1:se H B line=fX H B (sd H line):=by unfold se;rw [if_neg (by omega),if_neg (by omega)]
 have e2:pS H B line=om H B (sd H line):=by unfold pS;rw [if_neg (by omega),if_neg (by omega)]
 rw [e1,e2];obtain ⟨ws,Eb⟩:∃ ws,ws=(mM H line).words:=⟨_,rfl⟩;have zM:sd H line=ws.map (·.form):=by rw [Eb];rfl
 rw [zM] at cY jv ⊢;rw [List.length_map] at cY;subst Eb;(conv=>whnf);have jG:=ZB _ cY;have vz:=YX H B ((mM H line).words.map (·.form)) hf hB (by rw [List.length_map];omega) jv;repeat ((first|(refine ⟨_,ag (jG.wide _),?_⟩)|refine And.intro (by show aJ (aH Tryz.f10 _) _=true;decide +kernel) ?_);conv=>whnf)
 refine ⟨_,ag vz,?_⟩;(conv=>whnf);skip;exact aa.refl _
theorem ZD (H:aD) (B:bE) (line:List Int):AE (qZ H B line):=by
 unfold qZ;split
 ·rename_i h0
  have mJ:dU H line=0:=by
   unfold mo at h0;split at h0
   ·rename_i h;exact absurd h0 h
   split at h0
   ·rename_i h;exact absurd h0 h
   rename_i h;exact (Lst.Pd (by simpa using h)).1
  have tG:=GM (B:=B) (wI mJ).2.2;cases hq:jo (jU H B line) 1 with
  | nil=>exact ⟨by show 0<=60;omega,fun w hw=>by cases hw⟩
  | cons r t=>
    have hr:r∈jo (jU H B line) 1:=by rw [hq];exact List.mem_cons_self ..
    unfold jo at hr;obtain ⟨p,hp,rfl⟩:=List.mem_map.1 hr;obtain ⟨h3,h4⟩:=Lst.On tG (jU H B line).length 0 (by omega) p (List.mem_of_mem_take hp);have:=tG.bB;refine ⟨by show (List.map _ _).length<=60;rw [List.length_map];omega,fun w hw=>?_⟩;obtain ⟨x,hx,rfl⟩:=List.mem_map.1 hw;exact h4 x hx
 exact ⟨by show 0<=60;omega,fun w hw=>by cases hw⟩
theorem ZE (H:aD) (B:bE) (line:List Int):(pS H B line).length<=aq:=by
 have cY:=(LA H line).1;have:=GK H B (sd H line);unfold pS om aq;split
 ·simp
 split
 ·simp
 split
 ·omega
 simp
theorem ZF (H:aD) (B:bE) (line:List Int) (hf:dx H) (hB:lN B) (hl:line.length<=1048576):ab Tryz.prog 3 [.agg (aZ H),.agg (dO B),.sl 1 none (ints line)] [] (.bool true):=by
 have hr:=ZD H B line;have hs:=ZE H B line;refine aA (F:=Tryz.f3) c3 rfl rfl rfl mixed rfl fun X=>?_;(conv=>whnf);repeat (refine ab.k0 (YO H line) ?_;conv=>whnf)
 refine ⟨fun h0=>?_,fun h0=>?_⟩
 ·(conv=>whnf);repeat (refine ab.k0 (PT) ?_;conv=>whnf)
  exact ⟨rfl,rfl⟩
 (conv=>whnf);repeat ((first|refine ab.k0 (Zn H B line hf hB hl) ?_|refine ab.k0 (Zv H B line hf hB hl) ?_|refine aY (Lst.Vo _ _ hr hr) ?_|refine ⟨_,_,bj.here _,⟨Nat.le_of_ble_eq_true rfl,rfl⟩,?_⟩|intro (nb:Nat));conv=>whnf)
 refine cF (by simp) ?_;(conv=>whnf);repeat ((first|refine ab.k0 (ZA H B line hf hB hl) ?_|refine ab.k0 (ZC H B line hf hB hl) ?_|refine aY (Im _ _ hs hs) ?_|refine aY (PT) ?_);conv=>whnf)
 exact ⟨congrArg AV.bool (by simp),rfl⟩
end Go.Abs.Wall.Spl
