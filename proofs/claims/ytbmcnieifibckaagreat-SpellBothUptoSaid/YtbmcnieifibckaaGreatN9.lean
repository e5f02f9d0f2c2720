/- What is proved: small laws for the walks of this seat, and contracts of its functions. No condition but those each theorem names. -/
import Derived.Test.YtbmcnieifibckaaGreatN7
import Derived.Test.YtbmcnieifibckaaGreatN8
set_option maxRecDepth 100000
set_option maxHeartbeats 2000000
set_option linter.unusedVariables false
set_option linter.unusedSimpArgs false
namespace Go.Abs.Wall
open Go Go.Abs Go.Proofs
def wgtP (p:Prg):Nat:=10 ^ (3 - p.cl.length)
def wgtL (l:List Prg):Nat:=(l.map wgtP).sum
theorem wgtP_pos (p:Prg):1≤wgtP p:=Nat.one_le_pow _ _ (by omega)
theorem wgtL_app (a b:List Prg):wgtL (a++b)=wgtL a+wgtL b:=by unfold wgtL;rw [List.map_append,List.sum_append]
theorem wgtL_len:∀ l:List Prg,l.length≤wgtL l
 | []=>by simp
 | p::l=>by
   have h1:=wgtL_len l
   have h2:=wgtP_pos p
   unfold wgtL at h1 ⊢
   rw [List.map_cons,List.sum_cons,List.length_cons]
   omega
theorem wgt_spellGo {p:Prg} {u:Use} (h3:p.cl.length<3):∀ (l:List Cli) (c:Int),wgtL (spellGo p u l c)≤l.length*10 ^ (2 - p.cl.length)
 | [],_=>by simp [spellGo,wgtL]
 | k::t,c=>by
   have ih:=wgt_spellGo (u:=u) h3 t (c+1)
   unfold spellGo
   rw [wgtL_app,List.length_cons,Nat.succ_mul]
   have h1:wgtL (if begins k.text u.text=true then [(⟨p.sounds++u.text,p.closed,p.cl++[c],u⟩:Prg)] else [])≤10 ^ (2 - p.cl.length):=by
    split
    ·unfold wgtL wgtP
     rw [List.map_cons,List.map_nil,List.sum_cons,List.sum_nil,List.length_append,List.length_singleton,show 3 - (p.cl.length+1)=2 - p.cl.length by omega]
     omega
    ·simp [wgtL]
   omega
theorem wgt_next {s:Sp} (hs:SpOK s) (p:Prg) (u:Use):wgtL (nextM s p u)≤wgtP p:=by
 have h10:=hs.lex.many.2.2
 have one:∀ q:Prg,q.cl=p.cl→wgtL [q]≤wgtP p:=fun q hq=>by
  unfold wgtL wgtP
  rw [List.map_cons,List.map_nil,List.sum_cons,List.sum_nil,hq]
  omega
 have none':wgtL []≤wgtP p:=by simp [wgtL]
 unfold nextM
 split
 ·unfold spellM
  split
  ·split
   ·exact one _ rfl
   ·exact none'
  ·split
   ·rename_i h3
    refine Nat.le_trans (wgt_spellGo h3 _ _) ?_
    unfold wgtP
    rw [show 3 - p.cl.length=(2 - p.cl.length)+1 by omega,Nat.pow_succ,Nat.mul_comm]
    refine Nat.mul_le_mul_left _ ?_
    rw [List.length_drop]
    omega
   ·exact none'
 split
 ·split
  ·exact none'
  ·exact one _ rfl
 split
 ·split
  ·exact none'
  ·exact one _ rfl
 split
 ·split
  ·exact none'
  ·exact one _ rfl
 ·exact none'
theorem wgt_flat {s:Sp} (hs:SpOK s) (u:Use):∀ l:List Prg,wgtL (l.flatMap fun p=>nextM s p u)≤wgtL l
 | []=>by simp
 | p::l=>by
   have h1:=wgt_next hs p u
   have h2:=wgt_flat hs u l
   rw [List.flatMap_cons,wgtL_app]
   unfold wgtL at h2 h1 ⊢
   rw [List.map_cons,List.sum_cons]
   omega
def spGo (H:Hou) (s:Sp) (cl:List Int):List Int→List Use→List Prg→Bool
 | n::t,u::us,st=>(usesAt H n).any (useEq u)&&spGo H s cl t us (st.flatMap fun p=>nextM s p u)
 | _,_,st=>st.any fun p=>endsM s p&&decide (p.cl=cl)
def spOf (H:Hou) (f:Frm):Sp:=⟨H,entAt H.lex f.entry,bodyM H.lex f.entry f.ending⟩
def spellsM (H:Hou) (line:List Int) (w:Wrd):Bool:=(wthn line.length 1 12&&decide (line.length=w.uses.length))&&spGo H (spOf H w.form) w.form.clitics line w.uses [prg0]
def c156:Cfg:=⟨[0,1,2,3,4],[],[],[],[],[]⟩
def c223:Cfg:=⟨[0,1,4,5,7,8,9,16],[],[],[],[],[]⟩
def c155:Cfg:=⟨[0,1,4],[],[],[],[],[]⟩
def c94:Cfg:=⟨[0,1,2,3,5,6,7,8,9,10,11,13,25,48,49,50,51,64,65,66,67,68],[],[7,13],[],[(3,[0,1,2,3,4,5,6,7,8,9,10,11,12,13,14,15,16,17,18,19,20,21],[7]),(8,[0,1,2,3,4,5,6,7,8,9],[]),(14,[0,1,2,3,4,5,6,7,8,9,10],[])],[]⟩
def c70:Cfg:=⟨[0,1,2,3,5,6,7,8,9,14,22,28],[],[],[],[],[]⟩
theorem spellsF (s:Sp) (p:Prg) (w:Wrd) (hs:SpOK s) (hp:PrgOK s p) (hw:w.form.clitics.length≤LMAX):QCall Tryz.prog 156 [.agg (encPrg p),.iptr [.iptr (encSp s)],.iptr (encWrd w)] [] (.bool (endsM s p&&decide (p.cl=w.form.clitics))):=by
 have hfew:=hp.few
 refine fcalls (F:=Tryz.f156) c156 rfl rfl rfl mixed rfl fun X=>?_
 conv=>whnf
 repeat ((first|refine QCall.k0 (endsA s p hs hp) ?_|refine gcall (equalI p.cl w.form.clitics (by unfold LMAX;omega) hw) ?_);conv=>whnf)
 exact ⟨rfl,rfl⟩
theorem indexFuncP (l:List Prg) (hl:l.length≤LMAX) (f:FuncId) (caps:List AV) (p:Prg→Bool) (hp:∀ w∈l,QCall Tryz.prog f (.agg (encPrg w)::caps) [] (.bool (p w))) :
  QCall Tryz.prog 223 [.sl 6 none (l.map encPrg),.fn f caps] [] (.int .i64 (firstI p l)):=by
 refine fcalls (F:=Tryz.f223) c223 rfl rfl rfl mixed rfl fun X=>?_
 conv=>whnf
 unfold LMAX at hl
 refine sloop rfl mixed [0,1,7,8] [] (fun m r h=>∃ (i:Nat),r=[(0,[],.sl 6 none (l.map encPrg)),(1,[],.fn f caps),(7,[],.int .i64 (l.map encPrg).length),(8,[],.int .i64 i)]∧h=[]∧m=l.length - i∧i≤l.length∧Below p l i) ?_ ?_
 ·conv=>whnf
  exact ⟨_,0,rfl,rfl,rfl,by omega,.zero⟩
 ·rintro m r h ⟨i,rfl,rfl,rfl,hi,hg⟩
  conv=>whnf
  refine ⟨fun hc=>?_,fun hc=>?_⟩<;>simp at hc
  ·obtain ⟨x,hx⟩:=get_lt hc
   conv=>whnf
   repeat ((first|refine ix (by assumption) ?_|(refine QCall.k0 (hp x (List.mem_of_getElem? hx)) ?_));conv=>whnf)
   refine ⟨fun hd=>?_,fun hd=>?_⟩
   ·conv=>whnf
    exact ⟨by rw [hg.at hx hd],rfl⟩
   ·conv=>whnf
    repeat (refine ⟨gP_of ⟨by omega,by omega⟩,?_⟩;conv=>whnf)
    exact ⟨_,by omega,i+1,rfl,rfl,rfl,by omega,hg.succ hx hd⟩
  ·conv=>whnf
   exact ⟨by rw [hg.end hc],rfl⟩
theorem containsFuncP (l:List Prg) (hl:l.length≤LMAX) (f:FuncId) (caps:List AV) (p:Prg→Bool) (hp:∀ w∈l,QCall Tryz.prog f (.agg (encPrg w)::caps) [] (.bool (p w))) :
  QCall Tryz.prog 155 [.sl 6 none (l.map encPrg),.fn f caps] [] (.bool (l.any p)):=by
 refine fcalls (F:=Tryz.f155) c155 rfl rfl rfl mixed rfl fun X=>?_
 conv=>whnf
 refine QCall.k0 (indexFuncP l hl f caps p hp) ?_
 conv=>whnf
 exact ⟨congrArg AV.bool (firstI_any p l),rfl⟩
theorem spOf_ok {H:Hou} (hH:HouOK H) {f:Frm} (hf:FrmOK H.lex f):SpOK (spOf H f):=by
 have hx:f.ending<H.lex.endings.length:=by rcases hf.ending with h|h<;>omega
 exact spAt (at_:=0) hH hf.entry.1 hf.entry.2 hx
theorem spellsA (H:Hou) (line:List Int) (w:Wrd) (hH:HouOK H) (hline:∀ s∈line,0≤s∧s<H.list.signs.length) (hl:line.length≤1048576) (hf:FrmOK H.lex w.form) (hu:∀ u∈w.uses,u.text.length≤1048576) (hul:w.uses.length≤1048576) :
  QCall Tryz.prog 94 [.agg (encHou H),.sl 1 none (ints line),.agg (encWrd w)] [] (.bool (spellsM H line w)):=by
 have hs:=spOf_ok hH hf
 have hfew:=hf.few
 have hx:w.form.ending<H.lex.endings.length:=by rcases hf.ending with h|h<;>omega
 have hsm:spellsM H line w=((wthn line.length 1 12&&decide (line.length=w.uses.length))&&spGo H (spOf H w.form) w.form.clitics line w.uses [prg0]):=rfl
 refine QCall.of' ?_
 refine fcalls (F:=Tryz.f94) c94 rfl rfl rfl mixed rfl fun X=>?_
 conv=>whnf
 repeat (refine QCall.k0 (within _ _ _) ?_;conv=>whnf)
 refine ⟨fun hq=>?_,fun hq=>?_⟩
 ·have hq:(!wthn ((ints line).length:Int) 1 12||!decide (((ints line).length:Int)=((w.uses.map encUse).length:Int)))=true:=hq
  rw [List.length_map,ints_length] at hq
  have hz:(wthn line.length 1 12&&decide (line.length=w.uses.length))=false:=by
   rw [Bool.or_eq_true,Bool.not_eq_true',Bool.not_eq_true',decide_eq_false_iff_not] at hq
   rw [Bool.and_eq_false_iff,decide_eq_false_iff_not]
   rcases hq with hq|hq
   ·exact .inl hq
   ·exact .inr (by omega)
  rw [hsm,hz]
  conv=>whnf
  skip
  rfl
 have hq:(!wthn ((ints line).length:Int) 1 12||!decide (((ints line).length:Int)=((w.uses.map encUse).length:Int)))=false:=hq
 rw [List.length_map,ints_length,Bool.or_eq_false_iff,Bool.not_eq_false',Bool.not_eq_false',decide_eq_true_eq] at hq
 have hw12:=wthn_iff.1 hq.1
 have hlu:line.length=w.uses.length:=by omega
 have hsm:spellsM H line w=spGo H (spOf H w.form) w.form.clitics line w.uses [prg0]:=by rw [hsm,hq.1,decide_eq_true hlu];rfl
 conv=>whnf
 repeat ((first|(refine ixn w.form.entry.toNat (by have:=hf.entry;omega) (entAt_get hf.entry.1 hf.entry.2) ?_)|refine gcall (bodyA H.lex w.form.entry w.form.ending hH.lex hf.entry.1 hf.entry.2 hx) ?_|refine ⟨_,_,Rem.here _,?_⟩|refine ⟨_,_,.here _,leOK,?_⟩|refine And.intro (by show drawOK (opsAt Tryz.f94 _) _=true;decide +kernel) ?_|intro (nb:Nat));conv=>whnf)
 refine tloop rfl mixed [3,5,7,8,48,49,50] [] (fun m r h=>∃ (i:Nat) (st:List Prg),r=[(3,[],.iptr (encHou H)),(5,[],.iptr (encWrd w)),(7,[],.iptr [.iptr (encSp (spOf H w.form))]),(8,[],.sl 6 none (st.map encPrg)),(48,[],.sl 1 none (ints line)),(49,[],.int .i64 (ints line).length),(50,[],.int .i64 i)]∧h=[]∧m=line.length - i∧i≤line.length∧(∀ q∈st,PrgOK (spOf H w.form) q)∧wgtL st≤1000∧spellsM H line w=spGo H (spOf H w.form) w.form.clitics (line.drop i) (w.uses.drop i) st) ?_ ?_
 ·conv=>whnf
  exact ⟨_,_,Turn.weak (.cons (VLe.refl _) (.cons (VLe.refl _) (.cons (VLe.refl _) (.cons (VLe.els (.cons (.cons (VLe.refl _) (.cons (VLe.refl _) (.cons (VLe.refl _) (.cons (VLe.nil (by decide)) (.cons (VLe.refl _) (.cons (VLe.refl _) .nil)))))) .nil)) (RLe.refl _))))),_,0,[prg0],rfl,rfl,rfl,by omega,fun q hq=>by cases List.mem_singleton.1 hq;exact prg0_ok _,by decide,hsm⟩
 ·rintro m r h' ⟨i,st,rfl,rfl,rfl,hi,hst,hwt,hg⟩
  have hsl:=wgtL_len st
  conv=>whnf
  refine ⟨fun hi2=>?_,fun hi2=>?_⟩<;>simp at hi2
  ·obtain ⟨n,hn⟩:=get_lt hi2
   obtain ⟨u,hu'⟩:=get_lt (l:=w.uses) (i:=i) (by omega)
   have hnb:=hline n (List.mem_of_getElem? hn)
   have hus:=hu u (List.mem_of_getElem? hu')
   have hsg:=sgnAt_get hnb.1 hnb.2
   have hsv:=((lstOK hH.lst).each _ (List.mem_of_getElem? hsg)).few
   have hok:=usesM_ok (p:=H.period) ((lstOK hH.lst).each _ (List.mem_of_getElem? hsg))
   rw [drop_cons hn,drop_cons hu',spGo] at hg
   conv=>whnf
   repeat ((first|refine ix (by assumption) ?_|(refine gcall (usesW H n (sgnAt H n) hnb.1 hsg (by omega)) ?_)|(refine gcall (containsU (usesM H.period (sgnAt H n)) u (by unfold LMAX;omega)) ?_)|refine And.intro (by show drawOK (opsAt Tryz.f94 _) _=true;decide +kernel) ?_);conv=>whnf)
   refine ⟨fun hq=>?_,fun hq=>?_⟩
   ·have hq:(!((usesAt H n).any (useEq u)))=true:=hq
    rw [Bool.not_eq_true'] at hq
    rw [hg,hq]
    conv=>whnf
    skip
    rfl
   ·have hq:(!((usesAt H n).any (useEq u)))=false:=hq
    rw [Bool.not_eq_false'] at hq
    rw [hq,Bool.true_and] at hg
    have huo:UseOK u:=by
     rw [List.any_eq_true] at hq
     obtain ⟨x,hx,hxe⟩:=hq
     rw [useEq_iff,decide_eq_true_eq] at hxe
     subst hxe
     exact hok.2 _ hx
    conv=>whnf
    skip
    refine tloop rfl mixed [3,5,7,9,11,48,49,50,65,66,67] [] (fun m r h=>∃ (k:Nat) (v:AV) (hp:Heap),r=[(3,[],.iptr (encHou H)),(5,[],.iptr (encWrd w)),(7,[],.iptr [.iptr (encSp (spOf H w.form))]),(9,[],.int .i64 i),(11,[],v),(48,[],.sl 1 none (ints line)),(49,[],.int .i64 (ints line).length),(50,[],.int .i64 i),(65,[],.sl 6 none (st.map encPrg)),(66,[],.int .i64 (st.map encPrg).length),(67,[],.int .i64 k)]∧h=hp∧m=st.length - k∧k≤st.length∧Out 6 encPrg ((st.take k).flatMap fun p=>nextM (spOf H w.form) p u) v hp) ?_ ?_
    ·conv=>whnf
     exact ⟨_,_,Turn.refl _ _,_,0,_,_,rfl,rfl,rfl,by omega,.inl ⟨rfl,rfl,rfl⟩⟩
    ·rintro m r h' ⟨k,v,hp,rfl,rfl,rfl,hk,ho⟩
     conv=>whnf
     refine ⟨fun hk2=>?_,fun hk2=>?_⟩<;>simp at hk2
     ·obtain ⟨p,hp'⟩:=get_lt hk2
      have hpo:=hst p (List.mem_of_getElem? hp')
      have htk:((st.take (k+1)).flatMap fun p=>nextM (spOf H w.form) p u)=((st.take k).flatMap fun p=>nextM (spOf H w.form) p u)++nextM (spOf H w.form) p u:=by rw [take_snoc hp',List.flatMap_append,List.flatMap_singleton]
      have hnl:=nextM_len hs p u
      have hfl:((st.take k).flatMap fun p=>nextM (spOf H w.form) p u).length≤1000:=by
       have h1:=wgtL_len ((st.take k).flatMap fun p=>nextM (spOf H w.form) p u)
       have h2:=wgt_flat hs u (st.take k)
       have h3:wgtL (st.take k)≤wgtL st:=by
        have:=wgtL_app (st.take k) (st.drop k)
        rw [List.take_append_drop] at this
        omega
       omega
      rcases ho with ⟨he,rfl,rfl⟩|⟨q,rfl,rfl⟩
      all_goals
       conv=>whnf
       repeat ((first|refine ⟨gP_of ⟨by omega,by omega⟩,?_⟩|refine ix (by assumption) ?_|(refine gcall (nextA (spOf H w.form) p u hs hpo (by omega)) ?_)|(refine ⟨(by first|(simp;done)|(simp;unfold AMAX;omega)),fun q'=>?_⟩)|(refine ⟨(by rw [List.length_append,List.length_map,List.length_map];unfold AMAX;omega),fun q'=>⟨_,.here _,?_⟩⟩)|refine ⟨_,_,Rem.here _,⟨Nat.le_of_ble_eq_true rfl,rfl⟩,?_⟩|refine And.intro (by show drawOK (opsAt Tryz.f94 _) _=true;decide +kernel) ?_|intro (nb:Nat));conv=>whnf)
       refine ⟨_,_,Turn.refl _ _,_,(by omega),k+1,_,_,rfl,rfl,rfl,by omega,.inr ⟨q',?_,rfl⟩⟩
       rw [htk,List.map_append]
       first|done|rfl|(rw [he];done)|(rw [he];rfl)
     ·rw [List.take_of_length_le hk2] at ho
      conv=>whnf
      repeat (refine ⟨gP_of ⟨by omega,by omega⟩,?_⟩;conv=>whnf)
      refine ⟨_,_,Turn.trans (Turn.weak (.cons (VLe.refl _) (.cons (VLe.refl _) (.cons (VLe.refl _) (.cons (ho.le (by decide)) (RLe.refl _)))))) (Turn.sub (h':=[]) (fun _ _ h=>by cases h) (fun _=>.nil)),_,(by omega),i+1,_,rfl,rfl,rfl,by omega,?_,?_,hg⟩
      ·intro q hq2
       obtain ⟨p,hp1,hp2⟩:=List.mem_flatMap.1 hq2
       exact nextM_ok hs (hst p hp1) huo q hp2
      ·have:=wgt_flat hs u st
       omega
  ·rw [drop_nil hi2,spGo] at hg
   rw [hg]
   conv=>whnf
   repeat (refine QCall.k0 (containsFuncP st (by unfold LMAX;omega) _ _ (fun p=>endsM (spOf H w.form) p&&decide (p.cl=w.form.clitics)) (fun p hp=>spellsF (spOf H w.form) p w hs (hst p hp) (by unfold LMAX;omega))) ?_;conv=>whnf)
   intro n t u us h1 h2
   cases h1
def priceE (H:Hou) (line:List Int) (w:Wrd):Int:=
 if lineErr H line≠0 then lineErr H line else if frmErr H.lex w.form≠0 then frmErr H.lex w.form else if spellsM H line w=true then 0 else 51
def priceL (H:Hou) (line:List Int) (w:Wrd):Int:=if priceE H line w=0 then priceM H w else 0
theorem PriceW (H:Hou) (line:List Int) (w:Wrd) (hf:HouFit H) (hl:line.length≤1048576) (hc:w.form.clitics.length≤1048576) (hu:∀ u∈w.uses,u.text.length≤1048576) (hul:w.uses.length≤1048576) :
  QCall Tryz.prog 70 [.agg (encHou H),.sl 1 none (ints line),.agg (encWrd w)] [] (.tup [.int .i64 (priceL H line w),.int .i64 (priceE H line w)]):=by
 refine fcalls (F:=Tryz.f70) c70 rfl rfl rfl mixed rfl fun X=>?_
 conv=>whnf
 repeat (refine QCall.k0 (checkW H line hf (by unfold LMAX;omega)) ?_;conv=>whnf)
 refine ⟨fun h1=>?_,fun h1=>?_⟩<;>simp at h1
 ·have he:priceE H line w=lineErr H line:=by rw [priceE,if_pos h1]
  conv=>whnf
  skip
  exact ⟨by rw [priceL,he,if_neg h1],rfl⟩
 have hL:=lineOK h1
 conv=>whnf
 repeat (refine QCall.k0 (checkForm H.lex w.form hf.lex (by unfold LMAX;omega)) ?_;conv=>whnf)
 refine ⟨fun h2=>?_,fun h2=>?_⟩<;>simp at h2
 ·have he:priceE H line w=frmErr H.lex w.form:=by rw [priceE,if_neg (by omega),if_pos h2]
  conv=>whnf
  skip
  exact ⟨by rw [priceL,he,if_neg h2],rfl⟩
 have hF:=frmOK h2
 conv=>whnf
 repeat (refine QCall.k0 (spellsA H line w hL.hou hL.signs hl hF hu hul) ?_;conv=>whnf)
 refine ⟨fun h3=>?_,fun h3=>?_⟩<;>simp at h3
 ·have he:priceE H line w=51:=by rw [priceE,if_neg (by omega),if_neg (by omega),if_neg (by rw [h3];decide)]
  conv=>whnf
  skip
  exact ⟨by rw [priceL,he,if_neg (by decide)],rfl⟩
 ·have he:priceE H line w=0:=by rw [priceE,if_neg (by omega),if_neg (by omega),if_pos h3]
  conv=>whnf
  repeat (refine QCall.k0 (priceW H w hf.lex hL.hou (by unfold LMAX;omega) hF.entry hul) ?_;conv=>whnf)
  exact ⟨by rw [priceL,he,if_pos rfl],rfl⟩
end Go.Abs.Wall
namespace Go.Abs.Wall
open Go Go.Abs Go.Proofs
structure Hlf where
 form:Frm
 part:List UInt8
 done:Int
 all:List UInt8
 closed:Bool
 uses:List Use
def lastPart (s:Sp) (cl:List Int):List UInt8:=match cl.getLast? with
 | some c=>(cliAt s.H.lex c).text
 | none=>s.body
def baseL (s:Sp) (cl:List Int):Nat:=(tot s cl).length - (lastPart s cl).length
theorem lastPart_snoc (s:Sp) (cl:List Int) (c:Int):lastPart s (cl++[c])=(cliAt s.H.lex c).text:=by unfold lastPart;simp
theorem tot_last (s:Sp) (cl:List Int):∃ pre,tot s cl=pre++lastPart s cl∧pre.length=baseL s cl:=by
 rcases List.eq_nil_or_concat cl with rfl|⟨l,c,hcl⟩
 ·refine ⟨[],?_,?_⟩
  ·simp [tot,cliT,lastPart]
  ·simp [baseL,tot,cliT,lastPart]
 ·rw [List.concat_eq_append] at hcl
  subst hcl
  refine ⟨tot s l,?_,?_⟩
  ·rw [lastPart_snoc,tot_snoc]
  ·unfold baseL
   rw [lastPart_snoc,tot_snoc,List.length_append]
   omega
structure HOK (s:Sp) (p:Prg) (T:List Use):Prop where
 ok:PrgOK s p
 base:baseL s p.cl≤p.sounds.length
 new:T=[]→p.last.kind=0
 last:T≠[]→T.getLast?=some p.last∧p.last.kind≠0
 few:T.length≤12
 len:p.last.text.length≤8
theorem HOK.part {s:Sp} {p:Prg} {T:List Use} (h:HOK s p T):partM s p=(lastPart s p.cl).drop ((p.sounds.length:Int) - baseL s p.cl).toNat∧(p.sounds.length:Int) - baseL s p.cl≤(lastPart s p.cl).length:=by
 obtain ⟨pre,h1,h2⟩:=tot_last s p.cl
 have h3:=h.base
 have h4:=h.ok.sounds
 rw [h1,List.length_append] at h4
 refine ⟨?_,by omega⟩
 unfold partM
 rw [h1,List.drop_append,List.drop_eq_nil_of_le (by omega),List.nil_append]
 congr 1
 omega
theorem hok0 (s:Sp):HOK s prg0 []:=⟨prg0_ok s,by simp [baseL,tot,cliT,lastPart,prg0],fun _=>rfl,fun h=>absurd rfl h,by simp,by simp [prg0]⟩
theorem VLe.one {k:Nat} {t:Option Nat} {x y:List AV} (h:VsLe x y):VLe (.sl k t [x]) (.sl k none [y]):=by
 refine fun c u hu=>VLe.sl c u (VLe.els (.cons h .nil) c u hu)
end Go.Abs.Wall
namespace Go.Abs.Wall
open Go Go.Abs Go.Proofs
end Go.Abs.Wall
namespace Go.Abs.Wall
open Go Go.Abs Go.Proofs
end Go.Abs.Wall
namespace Go.Abs.Wall
open Go Go.Abs Go.Proofs
structure FrmSmall (f:Frm):Prop where
 entry:-1≤f.entry∧f.entry≤1048576
 ending:-1≤f.ending∧f.ending≤1048576
 cl:∀ c∈f.clitics,-1≤c∧c≤1048576
 few:f.clitics.length≤1048576
structure WrdSmall (w:Wrd):Prop where
 form:FrmSmall w.form
 uses:w.uses.length≤1048576
end Go.Abs.Wall
