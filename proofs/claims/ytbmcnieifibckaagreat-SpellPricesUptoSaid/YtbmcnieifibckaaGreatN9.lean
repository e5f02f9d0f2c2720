/- What is proved: small laws for the walks of this seat, and contracts of its functions. No condition but those each theorem names. -/
import Derived.Test.YtbmcnieifibckaaGreatN7
import Derived.Test.YtbmcnieifibckaaGreatN8
set_option maxRecDepth 100000
set_option maxHeartbeats 2000000
set_option linter.unusedVariables false
set_option linter.unusedSimpArgs false
namespace Go.Abs.Wall
open Go Go.Abs Go.Proofs
def wgtP (p:Prg):Nat:=10 ^ (3 - p.cl.length)
def wgtL (l:List Prg):Nat:=(l.map wgtP).sum
theorem wgtP_pos (p:Prg):1≤wgtP p:=Nat.one_le_pow _ _ (by omega)
theorem wgtL_app (a b:List Prg):wgtL (a++b)=wgtL a+wgtL b:=by unfold wgtL;rw [List.map_append,List.sum_append]
theorem wgtL_len:∀ l:List Prg,l.length≤wgtL l
 | []=>by simp
 | p::l=>by
   have h1:=wgtL_len l
   have h2:=wgtP_pos p
   unfold wgtL at h1 ⊢
   rw [List.map_cons,List.sum_cons,List.length_cons]
   omega
theorem wgt_spellGo {p:Prg} {u:Use} (h3:p.cl.length<3):∀ (l:List Cli) (c:Int),wgtL (spellGo p u l c)≤l.length*10 ^ (2 - p.cl.length)
 | [],_=>by simp [spellGo,wgtL]
 | k::t,c=>by
   have ih:=wgt_spellGo (u:=u) h3 t (c+1)
   unfold spellGo
   rw [wgtL_app,List.length_cons,Nat.succ_mul]
   have h1:wgtL (if begins k.text u.text=true then [(⟨p.sounds++u.text,p.closed,p.cl++[c],u⟩:Prg)] else [])≤10 ^ (2 - p.cl.length):=by
    split
    ·unfold wgtL wgtP
     rw [List.map_cons,List.map_nil,List.sum_cons,List.sum_nil,List.length_append,List.length_singleton,show 3 - (p.cl.length+1)=2 - p.cl.length by omega]
     omega
    ·simp [wgtL]
   omega
theorem wgt_next {s:Sp} (hs:SpOK s) (p:Prg) (u:Use):wgtL (nextM s p u)≤wgtP p:=by
 have h10:=hs.lex.many.2.2
 have one:∀ q:Prg,q.cl=p.cl→wgtL [q]≤wgtP p:=fun q hq=>by
  unfold wgtL wgtP
  rw [List.map_cons,List.map_nil,List.sum_cons,List.sum_nil,hq]
  omega
 have none':wgtL []≤wgtP p:=by simp [wgtL]
 unfold nextM
 split
 ·unfold spellM
  split
  ·split
   ·exact one _ rfl
   ·exact none'
  ·split
   ·rename_i h3
    refine Nat.le_trans (wgt_spellGo h3 _ _) ?_
    unfold wgtP
    rw [show 3 - p.cl.length=(2 - p.cl.length)+1 by omega,Nat.pow_succ,Nat.mul_comm]
    refine Nat.mul_le_mul_left _ ?_
    rw [List.length_drop]
    omega
   ·exact none'
 split
 ·split
  ·exact none'
  ·exact one _ rfl
 split
 ·split
  ·exact none'
  ·exact one _ rfl
 split
 ·split
  ·exact none'
  ·exact one _ rfl
 ·exact none'
theorem wgt_flat {s:Sp} (hs:SpOK s) (u:Use):∀ l:List Prg,wgtL (l.flatMap fun p=>nextM s p u)≤wgtL l
 | []=>by simp
 | p::l=>by
   have h1:=wgt_next hs p u
   have h2:=wgt_flat hs u l
   rw [List.flatMap_cons,wgtL_app]
   unfold wgtL at h2 h1 ⊢
   rw [List.map_cons,List.sum_cons]
   omega
def spGo (H:Hou) (s:Sp) (cl:List Int):List Int→List Use→List Prg→Bool
 | n::t,u::us,st=>(usesAt H n).any (useEq u)&&spGo H s cl t us (st.flatMap fun p=>nextM s p u)
 | _,_,st=>st.any fun p=>endsM s p&&decide (p.cl=cl)
def spOf (H:Hou) (f:Frm):Sp:=⟨H,entAt H.lex f.entry,bodyM H.lex f.entry f.ending⟩
def spellsM (H:Hou) (line:List Int) (w:Wrd):Bool:=(wthn line.length 1 12&&decide (line.length=w.uses.length))&&spGo H (spOf H w.form) w.form.clitics line w.uses [prg0]
def c156:Cfg:=⟨[0,1,2,3,4],[],[],[],[],[]⟩
def c223:Cfg:=⟨[0,1,4,5,7,8,9,16],[],[],[],[],[]⟩
def c155:Cfg:=⟨[0,1,4],[],[],[],[],[]⟩
def c94:Cfg:=⟨[0,1,2,3,5,6,7,8,9,10,11,13,25,48,49,50,51,64,65,66,67,68],[],[7,13],[],[(3,[0,1,2,3,4,5,6,7,8,9,10,11,12,13,14,15,16,17,18,19,20,21],[7]),(8,[0,1,2,3,4,5,6,7,8,9],[]),(14,[0,1,2,3,4,5,6,7,8,9,10],[])],[]⟩
def c70:Cfg:=⟨[0,1,2,3,5,6,7,8,9,14,22,28],[],[],[],[],[]⟩
theorem spellsF (s:Sp) (p:Prg) (w:Wrd) (hs:SpOK s) (hp:PrgOK s p) (hw:w.form.clitics.length≤LMAX):QCall Tryz.prog 156 [.agg (encPrg p),.iptr [.iptr (encSp s)],.iptr (encWrd w)] [] (.bool (endsM s p&&decide (p.cl=w.form.clitics))):=by
 have hfew:=hp.few
 refine fcalls (F:=Tryz.f156) c156 rfl rfl rfl mixed rfl fun X=>?_
 conv=>whnf
 repeat ((first|refine QCall.k0 (endsA s p hs hp) ?_|refine gcall (equalI p.cl w.form.clitics (by unfold LMAX;omega) hw) ?_);conv=>whnf)
 exact ⟨rfl,rfl⟩
theorem indexFuncP (l:List Prg) (hl:l.length≤LMAX) (f:FuncId) (caps:List AV) (p:Prg→Bool) (hp:∀ w∈l,QCall Tryz.prog f (.agg (encPrg w)::caps) [] (.bool (p w))) :
  QCall Tryz.prog 223 [.sl 6 none (l.map encPrg),.fn f caps] [] (.int .i64 (firstI p l)):=by
 refine fcalls (F:=Tryz.f223) c223 rfl rfl rfl mixed rfl fun X=>?_
 conv=>whnf
 unfold LMAX at hl
 refine sloop rfl mixed [0,1,7,8] [] (fun m r h=>∃ (i:Nat),r=[(0,[],.sl 6 none (l.map encPrg)),(1,[],.fn f caps),(7,[],.int .i64 (l.map encPrg).length),(8,[],.int .i64 i)]∧h=[]∧m=l.length - i∧i≤l.length∧Below p l i) ?_ ?_
 ·conv=>whnf
  exact ⟨_,0,rfl,rfl,rfl,by omega,.zero⟩
 ·rintro m r h ⟨i,rfl,rfl,rfl,hi,hg⟩
  conv=>whnf
  refine ⟨fun hc=>?_,fun hc=>?_⟩<;>simp at hc
  ·obtain ⟨x,hx⟩:=get_lt hc
   conv=>whnf
   repeat ((first|refine ix (by assumption) ?_|(refine QCall.k0 (hp x (List.mem_of_getElem? hx)) ?_));conv=>whnf)
   refine ⟨fun hd=>?_,fun hd=>?_⟩
   ·conv=>whnf
    exact ⟨by rw [hg.at hx hd],rfl⟩
   ·conv=>whnf
    repeat (refine ⟨gP_of ⟨by omega,by omega⟩,?_⟩;conv=>whnf)
    exact ⟨_,by omega,i+1,rfl,rfl,rfl,by omega,hg.succ hx hd⟩
  ·conv=>whnf
   exact ⟨by rw [hg.end hc],rfl⟩
theorem containsFuncP (l:List Prg) (hl:l.length≤LMAX) (f:FuncId) (caps:List AV) (p:Prg→Bool) (hp:∀ w∈l,QCall Tryz.prog f (.agg (encPrg w)::caps) [] (.bool (p w))) :
  QCall Tryz.prog 155 [.sl 6 none (l.map encPrg),.fn f caps] [] (.bool (l.any p)):=by
 refine fcalls (F:=Tryz.f155) c155 rfl rfl rfl mixed rfl fun X=>?_
 conv=>whnf
 refine QCall.k0 (indexFuncP l hl f caps p hp) ?_
 conv=>whnf
 exact ⟨congrArg AV.bool (firstI_any p l),rfl⟩
theorem spOf_ok {H:Hou} (hH:HouOK H) {f:Frm} (hf:FrmOK H.lex f):SpOK (spOf H f):=by
 have hx:f.ending<H.lex.endings.length:=by rcases hf.ending with h|h<;>omega
 exact spAt (at_:=0) hH hf.entry.1 hf.entry.2 hx
theorem spellsA (H:Hou) (line:List Int) (w:Wrd) (hH:HouOK H) (hline:∀ s∈line,0≤s∧s<H.list.signs.length) (hl:line.length≤1048576) (hf:FrmOK H.lex w.form) (hu:∀ u∈w.uses,u.text.length≤1048576) (hul:w.uses.length≤1048576) :
  QCall Tryz.prog 94 [.agg (encHou H),.sl 1 none (ints line),.agg (encWrd w)] [] (.bool (spellsM H line w)):=by
 have hs:=spOf_ok hH hf
 have hfew:=hf.few
 have hx:w.form.ending<H.lex.endings.length:=by rcases hf.ending with h|h<;>omega
 have hsm:spellsM H line w=((wthn line.length 1 12&&decide (line.length=w.uses.length))&&spGo H (spOf H w.form) w.form.clitics line w.uses [prg0]):=rfl
 refine QCall.of' ?_
 refine fcalls (F:=Tryz.f94) c94 rfl rfl rfl mixed rfl fun X=>?_
 conv=>whnf
 repeat (refine QCall.k0 (within _ _ _) ?_;conv=>whnf)
 refine ⟨fun hq=>?_,fun hq=>?_⟩
 ·have hq:(!wthn ((ints line).length:Int) 1 12||!decide (((ints line).length:Int)=((w.uses.map encUse).length:Int)))=true:=hq
  rw [List.length_map,ints_length] at hq
  have hz:(wthn line.length 1 12&&decide (line.length=w.uses.length))=false:=by
   rw [Bool.or_eq_true,Bool.not_eq_true',Bool.not_eq_true',decide_eq_false_iff_not] at hq
   rw [Bool.and_eq_false_iff,decide_eq_false_iff_not]
   rcases hq with hq|hq
   ·exact .inl hq
   ·exact .inr (by omega)
  rw [hsm,hz]
  conv=>whnf
  skip
  rfl
 have hq:(!wthn ((ints line).length:Int) 1 12||!decide (((ints line).length:Int)=((w.uses.map encUse).length:Int)))=false:=hq
 rw [List.length_map,ints_length,Bool.or_eq_false_iff,Bool.not_eq_false',Bool.not_eq_false',decide_eq_true_eq] at hq
 have hw12:=wthn_iff.1 hq.1
 have hlu:line.length=w.uses.length:=by omega
 have hsm:spellsM H line w=spGo H (spOf H w.form) w.form.clitics line w.uses [prg0]:=by rw [hsm,hq.1,decide_eq_true hlu];rfl
 conv=>whnf
 repeat ((first|(refine ixn w.form.entry.toNat (by have:=hf.entry;omega) (entAt_get hf.entry.1 hf.entry.2) ?_)|refine gcall (bodyA H.lex w.form.entry w.form.ending hH.lex hf.entry.1 hf.entry.2 hx) ?_|refine ⟨_,_,Rem.here _,?_⟩|refine ⟨_,_,.here _,leOK,?_⟩|refine And.intro (by show drawOK (opsAt Tryz.f94 _) _=true;decide +kernel) ?_|intro (nb:Nat));conv=>whnf)
 refine tloop rfl mixed [3,5,7,8,48,49,50] [] (fun m r h=>∃ (i:Nat) (st:List Prg),r=[(3,[],.iptr (encHou H)),(5,[],.iptr (encWrd w)),(7,[],.iptr [.iptr (encSp (spOf H w.form))]),(8,[],.sl 6 none (st.map encPrg)),(48,[],.sl 1 none (ints line)),(49,[],.int .i64 (ints line).length),(50,[],.int .i64 i)]∧h=[]∧m=line.length - i∧i≤line.length∧(∀ q∈st,PrgOK (spOf H w.form) q)∧wgtL st≤1000∧spellsM H line w=spGo H (spOf H w.form) w.form.clitics (line.drop i) (w.uses.drop i) st) ?_ ?_
 ·conv=>whnf
  exact ⟨_,_,Turn.weak (.cons (VLe.refl _) (.cons (VLe.refl _) (.cons (VLe.refl _) (.cons (VLe.els (.cons (.cons (VLe.refl _) (.cons (VLe.refl _) (.cons (VLe.refl _) (.cons (VLe.nil (by decide)) (.cons (VLe.refl _) (.cons (VLe.refl _) .nil)))))) .nil)) (RLe.refl _))))),_,0,[prg0],rfl,rfl,rfl,by omega,fun q hq=>by cases List.mem_singleton.1 hq;exact prg0_ok _,by decide,hsm⟩
 ·rintro m r h' ⟨i,st,rfl,rfl,rfl,hi,hst,hwt,hg⟩
  have hsl:=wgtL_len st
  conv=>whnf
  refine ⟨fun hi2=>?_,fun hi2=>?_⟩<;>simp at hi2
  ·obtain ⟨n,hn⟩:=get_lt hi2
   obtain ⟨u,hu'⟩:=get_lt (l:=w.uses) (i:=i) (by omega)
   have hnb:=hline n (List.mem_of_getElem? hn)
   have hus:=hu u (List.mem_of_getElem? hu')
   have hsg:=sgnAt_get hnb.1 hnb.2
   have hsv:=((lstOK hH.lst).each _ (List.mem_of_getElem? hsg)).few
   have hok:=usesM_ok (p:=H.period) ((lstOK hH.lst).each _ (List.mem_of_getElem? hsg))
   rw [drop_cons hn,drop_cons hu',spGo] at hg
   conv=>whnf
   repeat ((first|refine ix (by assumption) ?_|(refine gcall (usesW H n (sgnAt H n) hnb.1 hsg (by omega)) ?_)|(refine gcall (containsU (usesM H.period (sgnAt H n)) u (by unfold LMAX;omega)) ?_)|refine And.intro (by show drawOK (opsAt Tryz.f94 _) _=true;decide +kernel) ?_);conv=>whnf)
   refine ⟨fun hq=>?_,fun hq=>?_⟩
   ·have hq:(!((usesAt H n).any (useEq u)))=true:=hq
    rw [Bool.not_eq_true'] at hq
    rw [hg,hq]
    conv=>whnf
    skip
    rfl
   ·have hq:(!((usesAt H n).any (useEq u)))=false:=hq
    rw [Bool.not_eq_false'] at hq
    rw [hq,Bool.true_and] at hg
    have huo:UseOK u:=by
     rw [List.any_eq_true] at hq
     obtain ⟨x,hx,hxe⟩:=hq
     rw [useEq_iff,decide_eq_true_eq] at hxe
     subst hxe
     exact hok.2 _ hx
    conv=>whnf
    skip
    refine tloop rfl mixed [3,5,7,9,11,48,49,50,65,66,67] [] (fun m r h=>∃ (k:Nat) (v:AV) (hp:Heap),r=[(3,[],.iptr (encHou H)),(5,[],.iptr (encWrd w)),(7,[],.iptr [.iptr (encSp (spOf H w.form))]),(9,[],.int .i64 i),(11,[],v),(48,[],.sl 1 none (ints line)),(49,[],.int .i64 (ints line).length),(50,[],.int .i64 i),(65,[],.sl 6 none (st.map encPrg)),(66,[],.int .i64 (st.map encPrg).length),(67,[],.int .i64 k)]∧h=hp∧m=st.length - k∧k≤st.length∧Out 6 encPrg ((st.take k).flatMap fun p=>nextM (spOf H w.form) p u) v hp) ?_ ?_
    ·conv=>whnf
     exact ⟨_,_,Turn.refl _ _,_,0,_,_,rfl,rfl,rfl,by omega,.inl ⟨rfl,rfl,rfl⟩⟩
    ·rintro m r h' ⟨k,v,hp,rfl,rfl,rfl,hk,ho⟩
     conv=>whnf
     refine ⟨fun hk2=>?_,fun hk2=>?_⟩<;>simp at hk2
     ·obtain ⟨p,hp'⟩:=get_lt hk2
      have hpo:=hst p (List.mem_of_getElem? hp')
      have htk:((st.take (k+1)).flatMap fun p=>nextM (spOf H w.form) p u)=((st.take k).flatMap fun p=>nextM (spOf H w.form) p u)++nextM (spOf H w.form) p u:=by rw [take_snoc hp',List.flatMap_append,List.flatMap_singleton]
      have hnl:=nextM_len hs p u
      have hfl:((st.take k).flatMap fun p=>nextM (spOf H w.form) p u).length≤1000:=by
       have h1:=wgtL_len ((st.take k).flatMap fun p=>nextM (spOf H w.form) p u)
       have h2:=wgt_flat hs u (st.take k)
       have h3:wgtL (st.take k)≤wgtL st:=by
        have:=wgtL_app (st.take k) (st.drop k)
        rw [List.take_append_drop] at this
        omega
       omega
      rcases ho with ⟨he,rfl,rfl⟩|⟨q,rfl,rfl⟩
      all_goals
       conv=>whnf
       repeat ((first|refine ⟨gP_of ⟨by omega,by omega⟩,?_⟩|refine ix (by assumption) ?_|(refine gcall (nextA (spOf H w.form) p u hs hpo (by omega)) ?_)|(refine ⟨(by first|(simp;done)|(simp;unfold AMAX;omega)),fun q'=>?_⟩)|(refine ⟨(by rw [List.length_append,List.length_map,List.length_map];unfold AMAX;omega),fun q'=>⟨_,.here _,?_⟩⟩)|refine ⟨_,_,Rem.here _,⟨Nat.le_of_ble_eq_true rfl,rfl⟩,?_⟩|refine And.intro (by show drawOK (opsAt Tryz.f94 _) _=true;decide +kernel) ?_|intro (nb:Nat));conv=>whnf)
       refine ⟨_,_,Turn.refl _ _,_,(by omega),k+1,_,_,rfl,rfl,rfl,by omega,.inr ⟨q',?_,rfl⟩⟩
       rw [htk,List.map_append]
       first|done|rfl|(rw [he];done)|(rw [he];rfl)
     ·rw [List.take_of_length_le hk2] at ho
      conv=>whnf
      repeat (refine ⟨gP_of ⟨by omega,by omega⟩,?_⟩;conv=>whnf)
      refine ⟨_,_,Turn.trans (Turn.weak (.cons (VLe.refl _) (.cons (VLe.refl _) (.cons (VLe.refl _) (.cons (ho.le (by decide)) (RLe.refl _)))))) (Turn.sub (h':=[]) (fun _ _ h=>by cases h) (fun _=>.nil)),_,(by omega),i+1,_,rfl,rfl,rfl,by omega,?_,?_,hg⟩
      ·intro q hq2
       obtain ⟨p,hp1,hp2⟩:=List.mem_flatMap.1 hq2
       exact nextM_ok hs (hst p hp1) huo q hp2
      ·have:=wgt_flat hs u st
       omega
  ·rw [drop_nil hi2,spGo] at hg
   rw [hg]
   conv=>whnf
   repeat (refine QCall.k0 (containsFuncP st (by unfold LMAX;omega) _ _ (fun p=>endsM (spOf H w.form) p&&decide (p.cl=w.form.clitics)) (fun p hp=>spellsF (spOf H w.form) p w hs (hst p hp) (by unfold LMAX;omega))) ?_;conv=>whnf)
   intro n t u us h1 h2
   cases h1
def priceE (H:Hou) (line:List Int) (w:Wrd):Int:=
 if lineErr H line≠0 then lineErr H line else if frmErr H.lex w.form≠0 then frmErr H.lex w.form else if spellsM H line w=true then 0 else 51
def priceL (H:Hou) (line:List Int) (w:Wrd):Int:=if priceE H line w=0 then priceM H w else 0
theorem PriceW (H:Hou) (line:List Int) (w:Wrd) (hf:HouFit H) (hl:line.length≤1048576) (hc:w.form.clitics.length≤1048576) (hu:∀ u∈w.uses,u.text.length≤1048576) (hul:w.uses.length≤1048576) :
  QCall Tryz.prog 70 [.agg (encHou H),.sl 1 none (ints line),.agg (encWrd w)] [] (.tup [.int .i64 (priceL H line w),.int .i64 (priceE H line w)]):=by
 refine fcalls (F:=Tryz.f70) c70 rfl rfl rfl mixed rfl fun X=>?_
 conv=>whnf
 repeat (refine QCall.k0 (checkW H line hf (by unfold LMAX;omega)) ?_;conv=>whnf)
 refine ⟨fun h1=>?_,fun h1=>?_⟩<;>simp at h1
 ·have he:priceE H line w=lineErr H line:=by rw [priceE,if_pos h1]
  conv=>whnf
  skip
  exact ⟨by rw [priceL,he,if_neg h1],rfl⟩
 have hL:=lineOK h1
 conv=>whnf
 repeat (refine QCall.k0 (checkForm H.lex w.form hf.lex (by unfold LMAX;omega)) ?_;conv=>whnf)
 refine ⟨fun h2=>?_,fun h2=>?_⟩<;>simp at h2
 ·have he:priceE H line w=frmErr H.lex w.form:=by rw [priceE,if_neg (by omega),if_pos h2]
  conv=>whnf
  skip
  exact ⟨by rw [priceL,he,if_neg h2],rfl⟩
 have hF:=frmOK h2
 conv=>whnf
 repeat (refine QCall.k0 (spellsA H line w hL.hou hL.signs hl hF hu hul) ?_;conv=>whnf)
 refine ⟨fun h3=>?_,fun h3=>?_⟩<;>simp at h3
 ·have he:priceE H line w=51:=by rw [priceE,if_neg (by omega),if_neg (by omega),if_neg (by rw [h3];decide)]
  conv=>whnf
  skip
  exact ⟨by rw [priceL,he,if_neg (by decide)],rfl⟩
 ·have he:priceE H line w=0:=by rw [priceE,if_neg (by omega),if_neg (by omega),if_pos h3]
  conv=>whnf
  repeat (refine QCall.k0 (priceW H w hf.lex hL.hou (by unfold LMAX;omega) hF.entry hul) ?_;conv=>whnf)
  exact ⟨by rw [priceL,he,if_pos rfl],rfl⟩
end Go.Abs.Wall
namespace Go.Abs.Wall
open Go Go.Abs Go.Proofs
structure Hlf where
 form:Frm
 part:List UInt8
 done:Int
 all:List UInt8
 closed:Bool
 uses:List Use
def encHlf (h:Hlf):List AV:=[.int .i64 h.form.entry,.int .i64 h.form.ending,.sl 1 none (ints h.form.clitics),.str h.part,.int .i64 h.done,.str h.all,.bool h.closed,.sl 2 none (h.uses.map encUse)]
def lastPart (s:Sp) (cl:List Int):List UInt8:=match cl.getLast? with
 | some c=>(cliAt s.H.lex c).text
 | none=>s.body
def baseL (s:Sp) (cl:List Int):Nat:=(tot s cl).length - (lastPart s cl).length
def hfOf (s:Sp) (f:Frm) (p:Prg) (T:List Use):Hlf:=⟨⟨f.entry,f.ending,p.cl⟩,lastPart s p.cl,(p.sounds.length:Int) - baseL s p.cl,p.sounds,p.closed,T⟩
theorem lastPart_snoc (s:Sp) (cl:List Int) (c:Int):lastPart s (cl++[c])=(cliAt s.H.lex c).text:=by unfold lastPart;simp
theorem tot_last (s:Sp) (cl:List Int):∃ pre,tot s cl=pre++lastPart s cl∧pre.length=baseL s cl:=by
 rcases List.eq_nil_or_concat cl with rfl|⟨l,c,hcl⟩
 ·refine ⟨[],?_,?_⟩
  ·simp [tot,cliT,lastPart]
  ·simp [baseL,tot,cliT,lastPart]
 ·rw [List.concat_eq_append] at hcl
  subst hcl
  refine ⟨tot s l,?_,?_⟩
  ·rw [lastPart_snoc,tot_snoc]
  ·unfold baseL
   rw [lastPart_snoc,tot_snoc,List.length_append]
   omega
theorem base_snoc (s:Sp) (cl:List Int) (c:Int):baseL s (cl++[c])=(tot s cl).length:=by
 unfold baseL
 rw [lastPart_snoc,tot_snoc,List.length_append]
 omega
structure HOK (s:Sp) (p:Prg) (T:List Use):Prop where
 ok:PrgOK s p
 base:baseL s p.cl≤p.sounds.length
 new:T=[]→p.last.kind=0
 last:T≠[]→T.getLast?=some p.last∧p.last.kind≠0
 few:T.length≤12
 len:p.last.text.length≤8
theorem HOK.part {s:Sp} {p:Prg} {T:List Use} (h:HOK s p T):partM s p=(lastPart s p.cl).drop ((p.sounds.length:Int) - baseL s p.cl).toNat∧(p.sounds.length:Int) - baseL s p.cl≤(lastPart s p.cl).length:=by
 obtain ⟨pre,h1,h2⟩:=tot_last s p.cl
 have h3:=h.base
 have h4:=h.ok.sounds
 rw [h1,List.length_append] at h4
 refine ⟨?_,by omega⟩
 unfold partM
 rw [h1,List.drop_append,List.drop_eq_nil_of_le (by omega),List.nil_append]
 congr 1
 omega
theorem spellGo_hok {s:Sp} {p:Prg} {u:Use} {T:List Use} (hp:HOK s p T) (hu:UseOK u) (he:p.sounds.length=(tot s p.cl).length):∀ (l:List Cli) (c:Int),∀ q∈spellGo p u l c,baseL s q.cl≤q.sounds.length∧q.last=u
 | [],_,q,hq=>by cases hq
 | k::t,c,q,hq=>by
   unfold spellGo at hq
   rcases List.mem_append.1 hq with hq|hq
   ·split at hq
    ·cases List.mem_singleton.1 hq
     refine ⟨?_,rfl⟩
     show baseL s (p.cl++[c])≤(p.sounds++u.text).length
     rw [base_snoc,List.length_append]
     omega
    ·cases hq
   ·exact spellGo_hok hp hu he t (c+1) q hq
theorem nextM_hok {s:Sp} {p:Prg} {u:Use} {T:List Use} (hs:SpOK s) (hp:HOK s p T) (hu:UseOK u) (hT:T.length<12):∀ q∈nextM s p u,HOK s q (T++[u]):=by
 intro q hq
 have hk:u.kind≠0:=by have:=hu.1;omega
 have hok:=nextM_ok hs hp.ok hu q hq
 have key:baseL s q.cl≤q.sounds.length∧q.last=u:=by
  unfold nextM at hq
  split at hq
  ·unfold spellM at hq
   split at hq
   ·split at hq
    ·cases List.mem_singleton.1 hq
     refine ⟨?_,rfl⟩
     have:=hp.base
     show baseL s p.cl≤(p.sounds++u.text).length
     rw [List.length_append];omega
    ·cases hq
   ·rename_i h0
    split at hq
    ·refine spellGo_hok hp hu ?_ _ _ q hq
     have h1:=hp.ok.sounds
     simp only [ne_eq,Decidable.not_not] at h0
     unfold partM at h0
     rw [List.drop_eq_nil_iff] at h0
     omega
    ·cases hq
  split at hq
  ·split at hq
   ·cases hq
   ·rename_i hb
    cases List.mem_singleton.1 hq
    refine ⟨?_,rfl⟩
    rw [Bool.not_eq_true] at hb
    unfold stBad at hb
    simp only [Bool.or_eq_false_iff,Bool.not_eq_false',decide_eq_true_eq] at hb
    have:=(hp.ok.new hb.1).1
    show baseL s p.cl≤_
    rw [this]
    simp [baseL,tot,cliT,lastPart]
  split at hq
  ·split at hq
   ·cases hq
   ·cases List.mem_singleton.1 hq
    exact ⟨hp.base,rfl⟩
  split at hq
  ·split at hq
   ·cases hq
   ·cases List.mem_singleton.1 hq
    exact ⟨hp.base,rfl⟩
  ·cases hq
 refine ⟨hok,key.1,fun h=>absurd h (by simp),fun _=>⟨by rw [key.2];simp,by rw [key.2];exact hk⟩,by rw [List.length_append,List.length_singleton];omega,by rw [key.2];exact hu.2.2.2⟩
theorem hok0 (s:Sp):HOK s prg0 []:=⟨prg0_ok s,by simp [baseL,tot,cliT,lastPart,prg0],fun _=>rfl,fun h=>absurd rfl h,by simp,by simp [prg0]⟩
def c240:Cfg:=⟨[0,1,4],[],[],[],[],[]⟩
def c263:Cfg:=⟨[0,1,4],[],[],[],[],[]⟩
def c241:Cfg:=⟨[0,1,2,3,4,5,6,10,11],[],[10],[],[(2,[0,1,3,4,2,5,6,7],[])],[]⟩
def c242:Cfg:=⟨[0,1,2,3,4,5,6,10],[],[5],[],[],[]⟩
def c191:Cfg:=⟨[0,1,2,3,4,5,6,7,8,9,10,11,12,13,14,29,30,33,41,67,88,99,130,142,156,160,173,199],[],[9],[],[(7,[0,1,2,3,4,5,6,7],[]),(17,[0,1,2,3,4,5,6,7,8],[]),(18,[0,1,2,3,4,5,6,7,8,9,10,11,12,13,14,15,16,17,18],[])],[]⟩
def c192:Cfg:=⟨[0,1,2],[],[],[],[],[]⟩
def c190:Cfg:=⟨[0,1,2,3,6,7,19],[],[6],[],[(3,[0,1,2,3,4,5,6,7,8,9,10],[])],[]⟩
theorem refBegins (t w:List UInt8) (ht:t.length≤LMAX) (hw:w.length≤LMAX):QCall Tryz.prog 240 [.str t,.str w] [] (.bool (begins t w)):=by
 unfold LMAX at ht hw
 refine fcalls (F:=Tryz.f240) c240 rfl rfl rfl mixed rfl fun X=>?_
 conv=>whnf
 repeat ((refine And.intro ?_ ?_;(focus ((conv=>whnf);intro g0;have g0:=of_decide_eq_true g0;refine ⟨?_,?_,?_⟩<;>omega)));conv=>whnf)
 exact ⟨rfl,rfl⟩
theorem refEnds (t w:List UInt8) (ht:t.length≤LMAX) (hw:w.length≤LMAX):QCall Tryz.prog 263 [.str t,.str w] [] (.bool (endsW t w)):=by
 unfold LMAX at ht hw
 refine fcalls (F:=Tryz.f263) c263 rfl rfl rfl mixed rfl fun X=>?_
 conv=>whnf
 repeat ((first|refine ⟨gP_of ⟨by omega,by omega⟩,?_⟩|(refine And.intro ?_ ?_;(focus ((conv=>whnf);intro g0;have g0:=of_decide_eq_true g0;refine ⟨?_,?_,?_⟩<;>omega))));conv=>whnf)
 refine ⟨congrArg AV.bool ?_,rfl⟩
 unfold endsW
 rw [show (t.length:Int).toNat=t.length from rfl,List.take_length,show ((t.length:Int) - w.length).toNat=t.length - w.length by omega]
theorem moreA (h:Hlf) (u:Use) (part all:List UInt8) (d:Int) (hu:h.uses.length≤1048576) :
  QCall Tryz.prog 241 [.agg (encHlf h),.agg (encUse u),.str part,.int .i64 d,.str all] [] (.agg (encHlf ⟨h.form,part,d,all,h.closed,h.uses++[u]⟩)):=by
 refine QCall.of (fcalls (F:=Tryz.f241) c241 rfl rfl rfl mixed rfl fun X=>?_)
 conv=>whnf
 intro b1
 conv=>whnf
 intro b2
 conv=>whnf
 repeat ((first|(refine ⟨(by simp;unfold AMAX;omega),fun q=>?_⟩)|(refine ⟨_,.here _,?_⟩)|(refine ⟨_,_,.there (.here _),leOK,?_⟩)|(refine ⟨_,_,Rem.there (.there (.here _)),⟨Nat.le_of_ble_eq_true rfl,rfl⟩,?_⟩)|refine ⟨_,_,.tail _ (.head _),rfl,?_⟩|refine ⟨_,_,.here _,leOK,?_⟩|refine And.intro (by show drawOK (opsAt Tryz.f241 _) _=true;decide +kernel) ?_);conv=>whnf)
 refine (show VLe (.agg [.int .i64 h.form.entry,.int .i64 h.form.ending,.sl 1 none (ints h.form.clitics),.str part,.int .i64 d,.str all,.bool h.closed,.sl 2 (some q) (h.uses.map encUse++[encUse u])]) (.agg (encHlf ⟨h.form,part,d,all,h.closed,h.uses++[u]⟩)) from ?_)
 refine VLe.agg (.cons (VLe.refl _) (.cons (VLe.refl _) (.cons (VLe.refl _) (.cons (VLe.refl _) (.cons (VLe.refl _) (.cons (VLe.refl _) (.cons (VLe.refl _) (.cons ?_ .nil))))))))
 show VLe _ (.sl 2 none ((h.uses++[u]).map encUse))
 rw [List.map_append]
 exact VLe.sl
theorem repeatsA (h:Hlf) (u:Use) (l:Use) (hl:h.uses.getLast?=some l) (hu:h.uses.length≤1048576) (ha:h.all.length≤LMAX) (hut:u.text.length≤LMAX) (hlt:l.text.length≤LMAX) :
  QCall Tryz.prog 242 [.agg (encHlf h),.agg (encUse u)] [] (.bool ((decide (l.kind=2)||(decide (l.kind=1)&&decide (2≤(l.text.length:Int))))&&decide ((u.text.length:Int)≤l.text.length)&&endsW h.all u.text)):=by
 have hne:h.uses≠[]:=by intro e;rw [e] at hl;cases hl
 have hlen:0<h.uses.length:=List.length_pos_iff.2 hne
 have hg:h.uses[h.uses.length - 1]?=some l:=by rw [← hl,List.getLast?_eq_getElem?]
 refine fcalls (F:=Tryz.f242) c242 rfl rfl rfl mixed rfl fun X=>?_
 conv=>whnf
 skip
 refine cF (by simp;omega) ?_
 conv=>whnf
 repeat ((first|(refine ixn (h.uses.length - 1) (by simp;omega) hg ?_)|refine gcall (refEnds h.all u.text ha hut) ?_|(refine ⟨gP_of ⟨by simp;omega,by simp;omega⟩,?_⟩)|refine ⟨_,_,Rem.here _,⟨Nat.le_of_ble_eq_true rfl,rfl⟩,?_⟩|intro (nb:Nat));conv=>whnf)
 exact ⟨rfl,rfl⟩
theorem repeats0 (h:Hlf) (u:Use) (hl:h.uses=[]) :
  QCall Tryz.prog 242 [.agg (encHlf h),.agg (encUse u)] [] (.bool false):=by
 refine fcalls (F:=Tryz.f242) c242 rfl rfl rfl mixed rfl fun X=>?_
 conv=>whnf
 skip
 refine cT (by rw [hl];rfl) ?_
 conv=>whnf
 exact ⟨rfl,rfl⟩
theorem VLe.one {k:Nat} {t:Option Nat} {x y:List AV} (h:VsLe x y):VLe (.sl k t [x]) (.sl k none [y]):=by
 refine fun c u hu=>VLe.sl c u (VLe.els (.cons h .nil) c u hu)
theorem begins_drop {t w:List UInt8} {d:Int}:begins ((t.take (t.length:Int).toNat).drop d.toNat) w=begins (t.drop d.toNat) w:=by
 rw [show (t.length:Int).toNat=t.length from rfl,List.take_length]
set_option maxHeartbeats 1000000 in
theorem followA (s:Sp) (f:Frm) (p:Prg) (T:List Use) (u:Use) (hs:SpOK s) (hp:HOK s p T) (hu:UseOK u) (he:s.e=entAt s.H.lex f.entry) (hf:0≤f.entry∧f.entry<s.H.lex.entries.length) :
  QCall Tryz.prog 191 [.agg (encLex s.H.lex),.agg (encHlf (hfOf s f p T)),.agg (encUse u)] [] (.sl 8 none ((nextM s p u).map fun q=>encHlf (hfOf s f q (T++[u])))):=by
 have hb:=hs.body
 have hfew:=hp.ok.few
 have hsn:=hp.ok.sounds
 have htt:=hs.tot hp.ok.cli
 have hut:=hu.2.2
 obtain ⟨z,hh⟩:∃ z,z=hfOf s f p T:=⟨_,rfl⟩
 rw [← hh]
 have e1:z.form.entry=f.entry:=by rw [hh];rfl
 have e3:z.form.clitics=p.cl:=by rw [hh];rfl
 have e4:z.part=lastPart s p.cl:=by rw [hh];rfl
 have e5:z.done=(p.sounds.length:Int) - baseL s p.cl:=by rw [hh];rfl
 have e6:z.all=p.sounds:=by rw [hh];rfl
 have e7:z.closed=p.closed:=by rw [hh];rfl
 have e8:z.uses=T:=by rw [hh];rfl
 have hTl:z.uses.length≤1048576:=by have:=hp.few;rw [e8];omega
 have hul:u.text.length≤LMAX:=by unfold LMAX;omega
 have hadd:(z.all++u.text).length≤LMAX:=by rw [e6,List.length_append];unfold LMAX;omega
 have hmn:=hs.lex.many.2.2
 obtain ⟨hpart,hdle⟩:=hp.part
 rw [← e4,← e5] at hpart hdle
 have hbase:=hp.base
 have hlp:z.part.length≤24:=by
  obtain ⟨pre,h1,h2⟩:=tot_last s p.cl
  have:=congrArg List.length h1
  rw [List.length_append] at this
  rw [e4]
  omega
 refine QCall.of (fcalls (F:=Tryz.f191) c191 rfl rfl rfl mixed rfl fun X=>?_)
 conv=>whnf
 repeat ((first|(refine ixn f.entry.toNat (by omega) (entAt_get hf.1 hf.2) ?_)|(intro (b9:Nat))|refine ⟨_,_,Rem.here _,⟨Nat.le_of_ble_eq_true rfl,rfl⟩,?_⟩);conv=>whnf)
 rcases (show u.kind=1∨u.kind=2∨u.kind=3∨u.kind=4 by have:=hu.1;have:=hu.2.1;omega) with hk|hk|hk|hk
 ·refine cT (by simp [hk]) ?_
  have hm0:nextM s p u=spellM s p u:=by rw [nextM,if_pos hk]
  conv=>whnf
  skip
  refine ⟨fun hw=>?_,fun hw=>?_⟩
  ·have hw:(!decide (z.done=(z.part.length:Int)))=true:=hw
   rw [Bool.not_eq_true',decide_eq_false_iff_not] at hw
   have hc:partM s p≠[]:=by
    rw [hpart,ne_eq,List.drop_eq_nil_iff]
    omega
   have hm:nextM s p u=if begins (partM s p) u.text=true then [⟨p.sounds++u.text,p.closed,p.cl,u⟩] else []:=by rw [hm0,spellM,if_pos hc]
   have hbg:=refBegins ((z.part.take (z.part.length:Int).toNat).drop z.done.toNat) u.text (by simp;unfold LMAX;omega) hul
   rw [begins_drop,← hpart] at hbg
   conv=>whnf
   repeat ((first|refine ⟨gP_of ⟨by omega,by omega⟩,?_⟩|(refine gcall hbg ?_)|refine And.intro (by show drawOK (opsAt Tryz.f191 _) _=true;decide +kernel) ?_);conv=>whnf)
   refine ⟨fun hq=>?_,fun hq=>?_⟩
   ·have hq:begins (partM s p) u.text=true:=hq
    rw [hm,if_pos hq]
    conv=>whnf
    repeat ((first|refine ⟨gP_of ⟨by omega,by omega⟩,?_⟩|refine QCall.k0 (moreA z u z.part (z.all++u.text) (z.done+(u.text.length:Int)) hTl) ?_|(refine ⟨gP_of hadd,?_⟩)|(refine ⟨Nat.le_of_ble_eq_true rfl,fun q3=>?_⟩));conv=>whnf)
    refine VLe.one ?_
    rw [hh]
    unfold encHlf hfOf
    simp only [List.length_append]
    rw [show (((p.sounds.length+u.text.length:Nat):Int) - (baseL s p.cl:Int))=(p.sounds.length:Int) - baseL s p.cl+u.text.length by omega]
    exact VsLe.refl _
   ·have hq:begins (partM s p) u.text=false:=hq
    rw [hm,if_neg (by rw [hq];decide)]
    conv=>whnf
    skip
    exact VLe.nil (by decide)
  ·have hw:(!decide (z.done=(z.part.length:Int)))=false:=hw
   rw [Bool.not_eq_false',decide_eq_true_eq] at hw
   have hc:partM s p=[]:=by
    rw [hpart,List.drop_eq_nil_iff]
    omega
   have hst:p.sounds.length=(tot s p.cl).length:=by
    unfold partM at hc
    rw [List.drop_eq_nil_iff] at hc
    omega
   have hm:nextM s p u=if p.cl.length<3 then spellGo p u (s.H.lex.clitics.drop (firstC p.cl).toNat) (firstC p.cl) else []:=by rw [hm0,spellM,if_neg (by simpa using hc)]
   have hfc:=firstC_ok hp.ok
   conv=>whnf
   skip
   refine ⟨fun hn=>?_,fun hn=>?_⟩
   ·have hn:decide (0<((ints z.form.clitics).length:Int))=true:=hn
    rw [e3] at hn
    simp at hn
    obtain ⟨c,hcl⟩:=get_lt (l:=z.form.clitics) (i:=z.form.clitics.length - 1) (by rw [e3];omega)
    have hfc1:c+1=firstC p.cl:=by unfold firstC;rw [← e3,List.getLast?_eq_getElem?,hcl]
    conv=>whnf
    repeat ((first|refine ⟨gP_of ⟨by omega,by omega⟩,?_⟩|(refine ixn (z.form.clitics.length - 1) (by rw [ints_length,e3];omega) hcl ?_)|(refine ⟨gP_of ⟨by rw [ints_length,e3];omega,by rw [ints_length,e3];omega⟩,?_⟩));conv=>whnf)
    refine tloop rfl mixed [3,4,5,7,12] [] (fun m r h=>∃ (c:Int) (o:List Prg) (v:AV) (hp0:Heap),r=[(3,[],.iptr (encLex s.H.lex)),(4,[],.iptr (encHlf z)),(5,[],.iptr (encUse u)),(7,[],v),(12,[],.int .i64 c)]∧h=hp0∧m=(s.H.lex.clitics.length - c).toNat∧0≤c∧c≤s.H.lex.clitics.length∧Out 8 (fun q=>encHlf (hfOf s f q (T++[u]))) o v hp0∧o.length≤c∧nextM s p u=o++(if p.cl.length<3 then spellGo p u (s.H.lex.clitics.drop c.toNat) c else [])) ?_ ?_
    ·conv=>whnf
     exact ⟨_,_,Turn.refl _ _,_,firstC p.cl,[],_,[],by rw [← hfc1],rfl,rfl,hfc.1,hfc.2,.inl ⟨rfl,rfl,rfl⟩,by simpa using hfc.1,by rw [hm];rfl⟩
    ·rintro m r h' ⟨c,o,v,hp0,rfl,rfl,rfl,hc0,hcn,hv,hol,hmo⟩
     have hob:o.length+1≤AMAX:=by have:=hs.lex.many;unfold AMAX;omega
     conv=>whnf
     skip
     refine ⟨fun hi2=>?_,fun hi2=>?_⟩
     ·have hi3:c<s.H.lex.clitics.length∧p.cl.length<3:=by
       have hi2:(decide (c<((s.H.lex.clitics.map encCli).length:Int))&&decide (((ints z.form.clitics).length:Int)<3))=true:=hi2
       rw [e3] at hi2
       simp at hi2;exact ⟨hi2.1,by omega⟩
      have hct:=sndOK_len (hs.lex.cliAt hc0 hi3.1).text
      have hcl:(cliAt s.H.lex c).text.length≤LMAX:=by unfold LMAX;omega
      rw [if_pos hi3.2,drop_cons (cliAt_get hc0 hi3.1),spellGo,show ((c.toNat:Nat)+1)=(c+1).toNat by omega] at hmo
      conv=>whnf
      repeat ((first|(refine ixn c.toNat (by omega) (cliAt_get hc0 hi3.1) ?_)|refine gcall (refBegins (cliAt s.H.lex c).text u.text hcl hul) ?_|refine And.intro (by show drawOK (opsAt Tryz.f191 _) _=true;decide +kernel) ?_);conv=>whnf)
      refine ⟨fun hq=>?_,fun hq=>?_⟩
      ·have hq:begins (cliAt s.H.lex c).text u.text=true:=hq
       rw [if_pos hq] at hmo
       obtain ⟨qn,hqn⟩:∃ q:Prg,q=⟨p.sounds++u.text,p.closed,p.cl++[c],u⟩:=⟨_,rfl⟩
       rw [← hqn] at hmo
       have hel:encHlf (hfOf s f qn (T++[u]))=[.int .i64 z.form.entry,.int .i64 z.form.ending,.sl 1 none (ints (p.cl++[c])),.str (cliAt s.H.lex c).text,.int .i64 u.text.length,.str (z.all++u.text),.bool z.closed,.sl 2 none ((z.uses++[u]).map encUse)]:=by
        rw [hqn,hh]
        unfold encHlf hfOf
        simp only [lastPart_snoc,base_snoc,List.length_append]
        rw [show (((p.sounds.length+u.text.length:Nat):Int) - ((tot s p.cl).length:Int))=(u.text.length:Int) by omega]
       have hle:∀ t,VsLe [.int .i64 z.form.entry,.int .i64 z.form.ending,.sl 1 t (ints z.form.clitics++[[.int .i64 c]]),.str (cliAt s.H.lex c).text,.int .i64 u.text.length,.str (z.all++u.text),.bool z.closed,.sl 2 none ((z.uses++[u]).map encUse)] (encHlf (hfOf s f qn (T++[u]))):=fun t=>by
        rw [hel,e3]
        exact .cons (VLe.refl _) (.cons (VLe.refl _) (.cons clV (VsLe.refl _)))
       rcases hv with ⟨hoe,rfl,rfl⟩|⟨qv,rfl,rfl⟩
       all_goals
        conv=>whnf
        repeat ((first|refine ⟨gP_of ⟨by omega,by omega⟩,?_⟩|(refine ixn c.toNat (by omega) (cliAt_get hc0 hi3.1) ?_)|refine gcall (moreA z u (cliAt s.H.lex c).text (z.all++u.text) (u.text.length:Int) hTl) ?_|(refine ⟨gP_of hadd,?_⟩)|(intro (b13:Nat))|(refine ⟨(by rw [e3];simp;unfold AMAX;omega),fun q3=>?_⟩)|(refine ⟨_,.here _,?_⟩)|(refine ⟨_,.there (.there (.here _)),?_⟩)|refine ⟨_,_,.tail _ (.head _),rfl,?_⟩|refine ⟨_,_,.here _,leOK,?_⟩|refine ⟨_,_,.there (.here _),leOK,?_⟩|refine And.intro (by show drawOK (opsAt Tryz.f191 _) _=true;decide +kernel) ?_);conv=>whnf)
        refine ⟨[(3,[],.iptr (encLex s.H.lex)),(4,[],.iptr (encHlf z)),(5,[],.iptr (encUse u)),(7,[],.sl 8 (some q3) ((o++[qn]).map fun q=>encHlf (hfOf s f q (T++[u])))),(12,[],.int .i64 (c+1))],[(q3,.tok)],?_,_,(by omega),c+1,_,_,[(q3,.tok)],rfl,rfl,rfl,by omega,by omega,.inr ⟨_,rfl,rfl⟩,by simp;omega,by rw [if_pos hi3.2,hmo,List.append_assoc]⟩
        refine Turn.one (.cons (VLe.refl _) (.cons (VLe.refl _) (.cons (VLe.refl _) (.cons ?_ (RLe.refl _))))) (by simp)
        first
         | (rw [hoe];exact VLe.els (.cons (hle _) .nil))
         | (rw [List.map_append (f:=fun q=>encHlf (hfOf s f q (T++[u])))];exact VLe.els (VssLe.snoc (hle _)))
      ·have hq:begins (cliAt s.H.lex c).text u.text=false:=hq
       rw [if_neg (by rw [hq];decide),List.nil_append] at hmo
       conv=>whnf
       repeat (refine ⟨gP_of ⟨by omega,by omega⟩,?_⟩;conv=>whnf)
       exact ⟨_,_,Turn.refl _ _,_,(by omega),c+1,o,_,_,rfl,rfl,rfl,by omega,by omega,hv,by omega,by rw [if_pos hi3.2];exact hmo⟩
     ·have hmo2:nextM s p u=o:=by
       rw [hmo]
       have hi2:(decide (c<((s.H.lex.clitics.map encCli).length:Int))&&decide (((ints z.form.clitics).length:Int)<3))=false:=hi2
       rw [e3] at hi2
       simp at hi2
       split
       ·rename_i h3
        rw [drop_nil (by omega)];simp [spellGo]
       ·simp
      rw [hmo2]
      conv=>whnf
      skip
      exact hv.le (by decide)
   ·have hn:decide (0<((ints z.form.clitics).length:Int))=false:=hn
    rw [e3] at hn
    simp at hn
    have hfc1:(-1:Int)+1=firstC p.cl:=by rw [hn];rfl
    conv=>whnf
    repeat (refine ⟨gP_of ⟨by omega,by omega⟩,?_⟩;conv=>whnf)
    refine tloop rfl mixed [3,4,5,7,12] [] (fun m r h=>∃ (c:Int) (o:List Prg) (v:AV) (hp0:Heap),r=[(3,[],.iptr (encLex s.H.lex)),(4,[],.iptr (encHlf z)),(5,[],.iptr (encUse u)),(7,[],v),(12,[],.int .i64 c)]∧h=hp0∧m=(s.H.lex.clitics.length - c).toNat∧0≤c∧c≤s.H.lex.clitics.length∧Out 8 (fun q=>encHlf (hfOf s f q (T++[u]))) o v hp0∧o.length≤c∧nextM s p u=o++(if p.cl.length<3 then spellGo p u (s.H.lex.clitics.drop c.toNat) c else [])) ?_ ?_
    ·conv=>whnf
     exact ⟨_,_,Turn.refl _ _,_,firstC p.cl,[],_,[],by rw [← hfc1],rfl,rfl,hfc.1,hfc.2,.inl ⟨rfl,rfl,rfl⟩,by simpa using hfc.1,by rw [hm];rfl⟩
    ·rintro m r h' ⟨c,o,v,hp0,rfl,rfl,rfl,hc0,hcn,hv,hol,hmo⟩
     have hob:o.length+1≤AMAX:=by have:=hs.lex.many;unfold AMAX;omega
     conv=>whnf
     skip
     refine ⟨fun hi2=>?_,fun hi2=>?_⟩
     ·have hi3:c<s.H.lex.clitics.length∧p.cl.length<3:=by
       have hi2:(decide (c<((s.H.lex.clitics.map encCli).length:Int))&&decide (((ints z.form.clitics).length:Int)<3))=true:=hi2
       rw [e3] at hi2
       simp at hi2;exact ⟨hi2.1,by omega⟩
      have hct:=sndOK_len (hs.lex.cliAt hc0 hi3.1).text
      have hcl:(cliAt s.H.lex c).text.length≤LMAX:=by unfold LMAX;omega
      rw [if_pos hi3.2,drop_cons (cliAt_get hc0 hi3.1),spellGo,show ((c.toNat:Nat)+1)=(c+1).toNat by omega] at hmo
      conv=>whnf
      repeat ((first|(refine ixn c.toNat (by omega) (cliAt_get hc0 hi3.1) ?_)|refine gcall (refBegins (cliAt s.H.lex c).text u.text hcl hul) ?_|refine And.intro (by show drawOK (opsAt Tryz.f191 _) _=true;decide +kernel) ?_);conv=>whnf)
      refine ⟨fun hq=>?_,fun hq=>?_⟩
      ·have hq:begins (cliAt s.H.lex c).text u.text=true:=hq
       rw [if_pos hq] at hmo
       obtain ⟨qn,hqn⟩:∃ q:Prg,q=⟨p.sounds++u.text,p.closed,p.cl++[c],u⟩:=⟨_,rfl⟩
       rw [← hqn] at hmo
       have hel:encHlf (hfOf s f qn (T++[u]))=[.int .i64 z.form.entry,.int .i64 z.form.ending,.sl 1 none (ints (p.cl++[c])),.str (cliAt s.H.lex c).text,.int .i64 u.text.length,.str (z.all++u.text),.bool z.closed,.sl 2 none ((z.uses++[u]).map encUse)]:=by
        rw [hqn,hh]
        unfold encHlf hfOf
        simp only [lastPart_snoc,base_snoc,List.length_append]
        rw [show (((p.sounds.length+u.text.length:Nat):Int) - ((tot s p.cl).length:Int))=(u.text.length:Int) by omega]
       have hle:∀ t,VsLe [.int .i64 z.form.entry,.int .i64 z.form.ending,.sl 1 t (ints z.form.clitics++[[.int .i64 c]]),.str (cliAt s.H.lex c).text,.int .i64 u.text.length,.str (z.all++u.text),.bool z.closed,.sl 2 none ((z.uses++[u]).map encUse)] (encHlf (hfOf s f qn (T++[u]))):=fun t=>by
        rw [hel,e3]
        exact .cons (VLe.refl _) (.cons (VLe.refl _) (.cons clV (VsLe.refl _)))
       rcases hv with ⟨hoe,rfl,rfl⟩|⟨qv,rfl,rfl⟩
       all_goals
        conv=>whnf
        repeat ((first|refine ⟨gP_of ⟨by omega,by omega⟩,?_⟩|(refine ixn c.toNat (by omega) (cliAt_get hc0 hi3.1) ?_)|refine gcall (moreA z u (cliAt s.H.lex c).text (z.all++u.text) (u.text.length:Int) hTl) ?_|(refine ⟨gP_of hadd,?_⟩)|(intro (b13:Nat))|(refine ⟨(by rw [e3];simp;unfold AMAX;omega),fun q3=>?_⟩)|(refine ⟨_,.here _,?_⟩)|(refine ⟨_,.there (.there (.here _)),?_⟩)|refine ⟨_,_,.tail _ (.head _),rfl,?_⟩|refine ⟨_,_,.here _,leOK,?_⟩|refine ⟨_,_,.there (.here _),leOK,?_⟩|refine And.intro (by show drawOK (opsAt Tryz.f191 _) _=true;decide +kernel) ?_);conv=>whnf)
        refine ⟨[(3,[],.iptr (encLex s.H.lex)),(4,[],.iptr (encHlf z)),(5,[],.iptr (encUse u)),(7,[],.sl 8 (some q3) ((o++[qn]).map fun q=>encHlf (hfOf s f q (T++[u])))),(12,[],.int .i64 (c+1))],[(q3,.tok)],?_,_,(by omega),c+1,_,_,[(q3,.tok)],rfl,rfl,rfl,by omega,by omega,.inr ⟨_,rfl,rfl⟩,by simp;omega,by rw [if_pos hi3.2,hmo,List.append_assoc]⟩
        refine Turn.one (.cons (VLe.refl _) (.cons (VLe.refl _) (.cons (VLe.refl _) (.cons ?_ (RLe.refl _))))) (by simp)
        first
         | (rw [hoe];exact VLe.els (.cons (hle _) .nil))
         | (rw [List.map_append (f:=fun q=>encHlf (hfOf s f q (T++[u])))];exact VLe.els (VssLe.snoc (hle _)))
      ·have hq:begins (cliAt s.H.lex c).text u.text=false:=hq
       rw [if_neg (by rw [hq];decide),List.nil_append] at hmo
       conv=>whnf
       repeat (refine ⟨gP_of ⟨by omega,by omega⟩,?_⟩;conv=>whnf)
       exact ⟨_,_,Turn.refl _ _,_,(by omega),c+1,o,_,_,rfl,rfl,rfl,by omega,by omega,hv,by omega,by rw [if_pos hi3.2];exact hmo⟩
     ·have hmo2:nextM s p u=o:=by
       rw [hmo]
       have hi2:(decide (c<((s.H.lex.clitics.map encCli).length:Int))&&decide (((ints z.form.clitics).length:Int)<3))=false:=hi2
       rw [e3] at hi2
       simp at hi2
       split
       ·rename_i h3
        rw [drop_nil (by omega)];simp [spellGo]
       ·simp
      rw [hmo2]
      conv=>whnf
      skip
      exact hv.le (by decide)
 ·refine cF (by simp [hk]) ?_
  have hm0:nextM s p u=if stBad s p u=true then [] else [⟨u.text,p.closed,p.cl,u⟩]:=by rw [nextM,if_neg (by omega),if_pos hk]
  have hz:(decide (((z.uses.map encUse).length:Int)=0)&&decide (u.text=(entAt s.H.lex f.entry).root))=!stBad s p u:=by
   unfold stBad
   rw [← he,Bool.not_or,Bool.not_not,Bool.not_not,List.length_map,e8]
   congr 1
   rw [decide_eq_decide]
   refine ⟨fun h=>hp.new (List.eq_nil_of_length_eq_zero (by omega)),fun h=>?_⟩
   by_cases hT:T=[]
   ·rw [hT];rfl
   ·exact absurd h (hp.last hT).2
  conv=>whnf
  skip
  refine cT (by simp [hk]) ?_
  conv=>whnf
  skip
  refine ⟨fun hq=>?_,fun hq=>?_⟩
  ·have hq:=hz.symm.trans hq
   rw [Bool.not_eq_true'] at hq
   rw [hm0,if_neg (by rw [hq];decide)]
   have hl0:p.last.kind=0:=by
    unfold stBad at hq
    simp only [Bool.or_eq_false_iff,Bool.not_eq_false',decide_eq_true_eq] at hq
    exact hq.1
   have hcl0:=(hp.ok.new hl0).1
   conv=>whnf
   repeat ((first|refine QCall.k0 (moreA z u z.part u.text (u.text.length:Int) hTl) ?_|(refine ⟨Nat.le_of_ble_eq_true rfl,fun q3=>?_⟩));conv=>whnf)
   refine VLe.one ?_
   rw [hh]
   unfold encHlf hfOf
   simp only
   rw [show (u.text.length:Int) - (baseL s p.cl:Int)=u.text.length by rw [hcl0];simp [baseL,tot,cliT,lastPart]]
   exact VsLe.refl _
  ·have hq:=hz.symm.trans hq
   rw [Bool.not_eq_false'] at hq
   rw [hm0,if_pos hq]
   conv=>whnf
   skip
   exact VLe.nil (by decide)
 ·refine cF (by simp [hk]) ?_
  have hm0:nextM s p u=if rpBad p u=true then [] else [⟨p.sounds,p.closed,p.cl,u⟩]:=by rw [nextM,if_neg (by omega),if_neg (by omega),if_pos hk]
  have hrp:QCall Tryz.prog 242 [.agg (encHlf z),.agg (encUse u)] [] (.bool (!rpBad p u)):=by
   by_cases hT:T=[]
   ·have hl0:=hp.new hT
    have:rpBad p u=true:=by unfold rpBad heavy;rw [hl0];rfl
    rw [this]
    exact repeats0 z u (by rw [e8,hT])
   ·obtain ⟨h1,h2⟩:=hp.last hT
    have:=repeatsA z u p.last (by rw [e8];exact h1) hTl (by rw [e6];unfold LMAX;omega) hul (by have:=hp.len;unfold LMAX;omega)
    rw [e6] at this
    have hz:((decide (p.last.kind=2)||(decide (p.last.kind=1)&&decide (2≤(p.last.text.length:Int))))&&decide ((u.text.length:Int)≤p.last.text.length)&&endsW p.sounds u.text)=!rpBad p u:=by
     unfold rpBad heavy
     rw [Bool.not_or,Bool.not_or,Bool.not_not,Bool.not_not]
     congr 2
     rw [Bool.eq_iff_iff]
     simp
    rw [hz] at this
    exact this
  conv=>whnf
  skip
  refine cF (by simp [hk]) ?_
  conv=>whnf
  skip
  refine cT (by simp [hk]) ?_
  conv=>whnf
  repeat ((refine QCall.k0 hrp ?_);conv=>whnf)
  refine ⟨fun hq=>?_,fun hq=>?_⟩
  ·have hq:(!rpBad p u)=true:=hq
   rw [Bool.not_eq_true'] at hq
   rw [hm0,if_neg (by rw [hq];decide)]
   conv=>whnf
   repeat ((first|refine QCall.k0 (moreA z u z.part z.all z.done hTl) ?_|(refine ⟨Nat.le_of_ble_eq_true rfl,fun q3=>?_⟩));conv=>whnf)
   refine VLe.one ?_
   rw [hh]
   exact VsLe.refl _
  ·have hq:(!rpBad p u)=false:=hq
   rw [Bool.not_eq_false'] at hq
   rw [hm0,if_pos hq]
   conv=>whnf
   skip
   exact VLe.nil (by decide)
 ·refine cF (by simp [hk]) ?_
  have hm0:nextM s p u=if clBad s p u=true then [] else [⟨p.sounds,true,p.cl,u⟩]:=by rw [nextM,if_neg (by omega),if_neg (by omega),if_neg (by omega),if_pos hk]
  have hz:(decide (z.done=(z.part.length:Int))&&decide (((ints z.form.clitics).length:Int)=0)&&!z.closed&&!decide ((entAt s.H.lex f.entry).cls=[])&&decide (u.text=(entAt s.H.lex f.entry).cls))=!clBad s p u:=by
   unfold clBad
   rw [← he,e3,e4,e5,e7,ints_length]
   by_cases hcl:p.cl=[]
   ·have h1:((p.sounds.length:Int) - baseL s p.cl=((lastPart s p.cl).length:Int))↔((p.sounds.length:Int)=s.body.length):=by
     rw [hcl]
     simp [baseL,tot,cliT,lastPart]
    rw [decide_eq_decide.2 h1,hcl]
    cases p.closed<;>cases decide (s.e.cls=[])<;>cases decide (u.text=s.e.cls)<;>cases decide ((p.sounds.length:Int)=s.body.length)<;>rfl
   ·have h1:0<p.cl.length:=List.length_pos_iff.2 hcl
    rw [decide_eq_false (show ¬ ((p.cl.length:Int)=0) by omega),decide_eq_true (show (0:Int)<p.cl.length by omega)]
    simp
  conv=>whnf
  skip
  refine cF (by simp [hk]) ?_
  conv=>whnf
  skip
  refine cF (by simp [hk]) ?_
  conv=>whnf
  skip
  refine cT (by simp [hk]) ?_
  conv=>whnf
  skip
  refine ⟨fun hq=>?_,fun hq=>?_⟩
  ·have hq:=hz.symm.trans hq
   rw [Bool.not_eq_true'] at hq
   rw [hm0,if_neg (by rw [hq];decide)]
   conv=>whnf
   repeat ((first|refine QCall.k0 (moreA z u z.part z.all z.done hTl) ?_|(refine ⟨Nat.le_of_ble_eq_true rfl,fun q3=>?_⟩)|(intro (bt:Nat))|refine ⟨_,_,.head _,rfl,?_⟩|refine ⟨_,_,.here _,leOK,?_⟩);conv=>whnf)
   refine VLe.one (x:=[.int .i64 z.form.entry,.int .i64 z.form.ending,.sl 1 none (ints z.form.clitics),.str z.part,.int .i64 z.done,.str z.all,.bool true,.sl 2 none ((z.uses++[u]).map encUse)]) ?_
   rw [hh]
   exact VsLe.refl _
  ·have hq:=hz.symm.trans hq
   rw [Bool.not_eq_false'] at hq
   rw [hm0,if_pos hq]
   conv=>whnf
   skip
   exact VLe.nil (by decide)
end Go.Abs.Wall
namespace Go.Abs.Wall
open Go Go.Abs Go.Proofs
def c193:Cfg:=⟨[0,1,4,5,10,14,25],[],[],[],[(6,[0,1,2,3,4,5,6,7,8],[])],[]⟩
def c132:Cfg:=⟨[0,1,2,3,4,5,7,8,31,39,40,47,54,61,68],[],[],[],[],[]⟩
def c131:Cfg:=⟨[0,1,2,3,5,6,7,8,9,10,11,12,13,14,30,44,56,73,77,98,117],[],[],[],[(8,[0,1,2,3,4,5,6],[]),(12,[0,1,2,3,4,5,6,7,8,9,10,11,12,13],[]),(19,[0,1,2,3,4,5,6,7,8,9,10,11,12,13,14],[]),(24,[0,1,2,3,4,5,6,7,8,9,10,11,12,13,14,15,16],[])],[]⟩
def c73:Cfg:=⟨[0,1,2,3,5,6,7,8,9,10,14,21,29,35],[],[],[],[],[]⟩
theorem wholeA (s:Sp) (f:Frm) (p:Prg) (T:List Use) (hp:HOK s p T):QCall Tryz.prog 192 [.agg (encHlf (hfOf s f p T))] [] (.bool (endsM s p&&decide (0<(T.length:Int)))):=by
 refine fcalls (F:=Tryz.f192) c192 rfl rfl rfl mixed rfl fun X=>?_
 conv=>whnf
 skip
 refine ⟨congrArg AV.bool ?_,rfl⟩
 show (decide ((p.sounds.length:Int) - baseL s p.cl=((lastPart s p.cl).length:Int))&&decide (0<((T.map encUse).length:Int)))=_
 rw [List.length_map]
 congr 1
 unfold endsM
 rw [decide_eq_decide]
 obtain ⟨pre,h1,h2⟩:=tot_last s p.cl
 have h3:=congrArg List.length h1
 rw [List.length_append] at h3
 have h4:=hp.base
 omega
theorem beginA (H:Hou) (f:Frm) (hx:LexOK H.lex) (hf:0≤f.entry∧f.entry<H.lex.entries.length) (hn:f.ending<H.lex.endings.length) (hcl:True) :
  QCall Tryz.prog 190 [.agg (encLex H.lex),.int .i64 f.entry,.int .i64 f.ending] [] (.agg (encHlf (hfOf (spOf H f) f prg0 []))):=by
 have hr:=sndOK_len (hx.entAt hf.1 hf.2).root
 have h0:hfOf (spOf H f) f prg0 []=⟨⟨f.entry,f.ending,[]⟩,bodyM H.lex f.entry f.ending,0,[],false,[]⟩:=by
  unfold hfOf prg0
  simp [lastPart,baseL,tot,cliT,spOf]
 rw [h0]
 refine QCall.of (fcalls (F:=Tryz.f190) c190 rfl rfl rfl mixed rfl fun X=>?_)
 conv=>whnf
 intro b1
 conv=>whnf
 repeat ((first|(refine ixn f.entry.toNat (by omega) (entAt_get hf.1 hf.2) ?_)|(intro (b2:Nat))|refine ⟨_,_,.here _,leOK,?_⟩);conv=>whnf)
 refine ⟨fun he=>?_,fun he=>?_⟩<;>simp at he
 ·have ht:=sndOK_len (hx.ednAt he hn).text
  have hb:bodyM H.lex f.entry f.ending=(entAt H.lex f.entry).root++(ednAt H.lex f.ending).text:=by rw [bodyM,if_neg (by omega)]
  conv=>whnf
  repeat ((first|(refine ixn f.ending.toNat (by omega) (ednAt_get he hn) ?_)|(refine ⟨gP_of (by rw [List.length_append];unfold LMAX;omega),?_⟩)|(refine ⟨⟨Nat.le_of_ble_eq_true rfl,rfl⟩,?_⟩)|refine ⟨_,_,Rem.there (.here _),?_⟩|refine ⟨_,_,.head _,rfl,?_⟩|refine ⟨_,_,.here _,leOK,?_⟩|refine And.intro (by show drawOK (opsAt Tryz.f190 _) _=true;decide +kernel) ?_);conv=>whnf)
  rw [hb]
  exact VLe.agg (.cons (VLe.refl _) (.cons (VLe.refl _) (.cons (VLe.nil (k:=1) (by decide)) (.cons (VLe.refl _) (.cons (VLe.refl _) (.cons (VLe.refl _) (.cons (VLe.refl _) (.cons (VLe.nil (k:=2) (by decide)) .nil))))))))
 ·have hb:bodyM H.lex f.entry f.ending=(entAt H.lex f.entry).root:=by rw [bodyM,if_pos he]
  conv=>whnf
  repeat ((first|(refine ⟨⟨Nat.le_of_ble_eq_true rfl,rfl⟩,?_⟩)|refine ⟨_,_,Rem.there (.here _),?_⟩|refine ⟨_,_,.head _,rfl,?_⟩);conv=>whnf)
  rw [hb]
  exact VLe.agg (.cons (VLe.refl _) (.cons (VLe.refl _) (.cons (VLe.nil (k:=1) (by decide)) (.cons (VLe.refl _) (.cons (VLe.refl _) (.cons (VLe.refl _) (.cons (VLe.refl _) (.cons (VLe.nil (k:=2) (by decide)) .nil))))))))
theorem refSameI (a b:List Int) (ha:a.length≤LMAX) (hb:b.length≤LMAX):QCall Tryz.prog 193 [.sl 1 none (ints a),.sl 1 none (ints b)] [] (.bool (decide (a=b))):=by
 unfold LMAX at ha hb
 refine fcalls (F:=Tryz.f193) c193 rfl rfl rfl mixed rfl fun X=>?_
 conv=>whnf
 skip
 refine ⟨fun hc=>?_,fun hc=>?_⟩<;>simp at hc
 ·conv=>whnf
  refine ⟨congrArg AV.bool (decide_eq_false fun e=>?_).symm,rfl⟩
  rw [e] at hc
  omega
 conv=>whnf
 skip
 refine sloop rfl mixed [0,1,5] [] (fun m r h=>∃ (i:Nat),r=[(0,[],.sl 1 none (ints a)),(1,[],.sl 1 none (ints b)),(5,[],.int .i64 i)]∧h=[]∧m=a.length - i∧i≤a.length∧decide (a=b)=decide (a.drop i=b.drop i)) ?_ ?_
 ·conv=>whnf
  exact ⟨_,0,rfl,rfl,rfl,by omega,rfl⟩
 ·rintro m r h ⟨i,rfl,rfl,rfl,hi,hg⟩
  conv=>whnf
  skip
  refine ⟨fun hi2=>?_,fun hi2=>?_⟩<;>simp at hi2
  ·obtain ⟨x,hx⟩:=get_lt hi2
   obtain ⟨y,hy⟩:=get_lt (l:=b) (i:=i) (by omega)
   rw [drop_cons hx,drop_cons hy] at hg
   conv=>whnf
   repeat ((first|refine ix (by assumption) ?_|refine And.intro (by show drawOK (opsAt Tryz.f193 _) _=true;decide +kernel) ?_);conv=>whnf)
   refine ⟨fun hq=>?_,fun hq=>?_⟩<;>simp at hq
   ·conv=>whnf
    skip
    refine ⟨congrArg AV.bool ?_,rfl⟩
    rw [hg]
    symm
    rw [decide_eq_false_iff_not]
    intro h
    exact hq (List.cons.inj h).1
   ·subst hq
    conv=>whnf
    repeat (refine ⟨gP_of ⟨by omega,by omega⟩,?_⟩;conv=>whnf)
    refine ⟨_,by omega,i+1,rfl,rfl,rfl,by omega,?_⟩
    rw [hg,decide_eq_decide,List.cons.injEq]
    simp
  ·rw [drop_nil hi2,drop_nil (by omega)] at hg
   conv=>whnf
   skip
   exact ⟨congrArg AV.bool (by rw [hg];rfl),rfl⟩
theorem refCost (H:Hou) (w:Wrd) (hx:LexFit H.lex) (hH:HouOK H) (hf:w.form.clitics.length≤LMAX) (he:0≤w.form.entry∧w.form.entry<H.lex.entries.length) (hu:w.uses.length≤1048576) :
  QCall Tryz.prog 132 [.agg (encHou H),.agg (encWrd w)] [] (.int .i64 (priceM H w)):=by
 have hfw:=frmW_bound (x:=H.lex) (f:=w.form)
 have hop:=hH.costs H.costs.opn (by simp [costL])
 refine fcalls (F:=Tryz.f132) c132 rfl rfl rfl mixed rfl fun X=>?_
 conv=>whnf
 repeat ((first|refine QCall.k0 (refWgt H.lex w.form hx hf) ?_|(refine ixn w.form.entry.toNat (by omega) (entAt_get he.1 he.2) ?_));conv=>whnf)
 refine sloop rfl mixed [2,3,5,7,8] [] (fun m r h=>∃ (i:Nat) (n:Int) (cl:Bool),r=[(2,[],.iptr (encHou H)),(3,[],.iptr (encWrd w)),(5,[],.int .i64 n),(7,[],.bool (!decide ((entAt H.lex w.form.entry).cls=[])&&!cl)),(8,[],.int .i64 i)]∧h=[]∧m=w.uses.length - i∧i≤w.uses.length∧n=frmW H.lex w.form+usesCost H.costs (w.uses.take i)∧cl=closes (w.uses.take i)) ?_ ?_
 ·conv=>whnf
  exact ⟨_,0,frmW H.lex w.form,false,by rw [Bool.not_false,Bool.and_true];rfl,rfl,rfl,by omega,by simp [usesCost],by simp [closes]⟩
 ·rintro m r h' ⟨i,n,cl,rfl,rfl,rfl,hi,hn,hcl⟩
  have hb:=usesCost_bound hH (w.uses.take i)
  rw [List.length_take] at hb
  conv=>whnf
  skip
  refine ⟨fun hi2=>?_,fun hi2=>?_⟩<;>simp at hi2
  ·obtain ⟨u,hu'⟩:=get_lt hi2
   have hs':=take_snoc hu'
   have hcb:=useCost_bound hH u
   have hsc:=usesCost_snoc (c:=H.costs) (l:=w.uses.take i) (u:=u)
   have hsl:=closes_snoc (l:=w.uses.take i) (u:=u)
   rw [← hs'] at hsc hsl
   unfold useCost at hsc hcb
   conv=>whnf
   repeat (refine ix (by assumption) ?_;conv=>whnf)
   refine ⟨fun hk=>?_,fun hk=>?_⟩<;>simp only [decide_eq_true_eq,decide_eq_false_iff_not] at hk
   ·rw [if_pos hk] at hsc hcb
    conv=>whnf
    repeat (refine ⟨gP_of ⟨by omega,by omega⟩,?_⟩;conv=>whnf)
    exact ⟨_,by omega,i+1,_,_,rfl,rfl,rfl,by omega,by rw [hsc,hn];show _+_=_;omega,by rw [hsl,hcl,decide_eq_false (by omega),Bool.or_false]⟩
   rw [if_neg hk] at hsc hcb
   conv=>whnf
   skip
   refine ⟨fun hk2=>?_,fun hk2=>?_⟩<;>simp only [decide_eq_true_eq,decide_eq_false_iff_not] at hk2
   ·rw [if_pos hk2] at hsc hcb
    conv=>whnf
    repeat (refine ⟨gP_of ⟨by omega,by omega⟩,?_⟩;conv=>whnf)
    exact ⟨_,by omega,i+1,_,_,rfl,rfl,rfl,by omega,by rw [hsc,hn];show _+_=_;omega,by rw [hsl,hcl,decide_eq_false (by omega),Bool.or_false]⟩
   rw [if_neg hk2] at hsc hcb
   conv=>whnf
   skip
   refine ⟨fun hk3=>?_,fun hk3=>?_⟩<;>simp only [decide_eq_true_eq,decide_eq_false_iff_not] at hk3
   ·rw [if_pos hk3] at hsc hcb
    conv=>whnf
    repeat (refine ⟨gP_of ⟨by omega,by omega⟩,?_⟩;conv=>whnf)
    exact ⟨_,by omega,i+1,_,_,rfl,rfl,rfl,by omega,by rw [hsc,hn];show _+_=_;omega,by rw [hsl,hcl,decide_eq_false (by omega),Bool.or_false]⟩
   rw [if_neg hk3] at hsc hcb
   conv=>whnf
   skip
   refine ⟨fun hk4=>?_,fun hk4=>?_⟩<;>simp only [decide_eq_true_eq,decide_eq_false_iff_not] at hk4
   ·rw [if_pos hk4] at hsc hcb
    conv=>whnf
    repeat (refine ⟨gP_of ⟨by omega,by omega⟩,?_⟩;conv=>whnf)
    exact ⟨_,by omega,i+1,n+H.costs.cls,true,by rw [Bool.not_true,Bool.and_false];rfl,rfl,rfl,by omega,by rw [hsc,hn];show _+_=_;omega,by rw [hsl,decide_eq_true hk4,Bool.or_true]⟩
   rw [if_neg hk4] at hsc hcb
   conv=>whnf
   repeat (refine ⟨gP_of ⟨by omega,by omega⟩,?_⟩;conv=>whnf)
   exact ⟨_,by omega,i+1,_,_,rfl,rfl,rfl,by omega,by rw [hsc,hn];omega,by rw [hsl,hcl,decide_eq_false hk4,Bool.or_false]⟩
  ·rw [List.take_of_length_le hi2] at hn hcl hb
   conv=>whnf
   skip
   refine ⟨fun hq=>?_,fun hq=>?_⟩
   ·have hq:(!decide ((entAt H.lex w.form.entry).cls=[])&&!cl)=true:=hq
    rw [hcl,Bool.and_comm] at hq
    conv=>whnf
    repeat (refine ⟨gP_of ⟨by omega,by omega⟩,?_⟩;conv=>whnf)
    refine ⟨congrArg (AV.int .i64) ?_,rfl⟩
    rw [priceM,if_pos hq,hn]
   ·have hq:(!decide ((entAt H.lex w.form.entry).cls=[])&&!cl)=false:=hq
    rw [hcl,Bool.and_comm] at hq
    conv=>whnf
    skip
    refine ⟨congrArg (AV.int .i64) ?_,rfl⟩
    rw [priceM,if_neg (by rw [hq];decide),hn]
    omega
theorem hok_all {H:Hou} {f:Frm} {st:List Prg} {T:List Use} {u:Use} (hs:SpOK (spOf H f)) (h:∀ q∈st,HOK (spOf H f) q T) (hu:UseOK u) (hT:T.length<12):∀ q∈(st.flatMap fun p=>nextM (spOf H f) p u),HOK (spOf H f) q (T++[u]):=by
 intro q hq
 obtain ⟨p,hp1,hp2⟩:=List.mem_flatMap.1 hq
 exact nextM_hok hs (h p hp1) hu hT q hp2
set_option maxHeartbeats 1000000 in
theorem refSpell (H:Hou) (line:List Int) (w:Wrd) (hfit:HouFit H) (hH:HouOK H) (hline:∀ s∈line,0≤s∧s<H.list.signs.length) (hl:line.length≤1048576) (hf:FrmOK H.lex w.form) (hu:∀ u∈w.uses,u.text.length≤1048576) (hul:w.uses.length≤1048576) :
  QCall Tryz.prog 131 [.agg (encHou H),.sl 1 none (ints line),.agg (encWrd w)] [] (.bool (spellsM H line w)):=by
 have hs:=spOf_ok hH hf
 have hfew:=hf.few
 have hx:w.form.ending<H.lex.endings.length:=by rcases hf.ending with h|h<;>omega
 have hsm:spellsM H line w=((wthn line.length 1 12&&decide (line.length=w.uses.length))&&spGo H (spOf H w.form) w.form.clitics line w.uses [prg0]):=rfl
 refine QCall.of' ?_
 refine fcalls (F:=Tryz.f131) c131 rfl rfl rfl mixed rfl fun X=>?_
 conv=>whnf
 skip
 refine ⟨fun hq=>?_,fun hq=>?_⟩
 ·have hq:(decide (((ints line).length:Int)<1)||decide (12<((ints line).length:Int))||!decide (((ints line).length:Int)=((w.uses.map encUse).length:Int)))=true:=hq
  rw [List.length_map,ints_length] at hq
  have hz:(wthn line.length 1 12&&decide (line.length=w.uses.length))=false:=by
   simp only [Bool.or_eq_true,Bool.not_eq_true',decide_eq_false_iff_not,decide_eq_true_eq] at hq
   rw [Bool.and_eq_false_iff,decide_eq_false_iff_not,← Bool.not_eq_true,wthn_iff]
   omega
  rw [hsm,hz]
  conv=>whnf
  skip
  rfl
 have hq:(decide (((ints line).length:Int)<1)||decide (12<((ints line).length:Int))||!decide (((ints line).length:Int)=((w.uses.map encUse).length:Int)))=false:=hq
 rw [List.length_map,ints_length] at hq
 simp only [Bool.or_eq_false_iff,Bool.not_eq_false',decide_eq_false_iff_not,decide_eq_true_eq] at hq
 have hlu:line.length=w.uses.length:=by omega
 have hsm:spellsM H line w=spGo H (spOf H w.form) w.form.clitics line w.uses [prg0]:=by rw [hsm,show wthn line.length 1 12=true by rw [wthn_iff];omega,decide_eq_true hlu];rfl
 conv=>whnf
 repeat (refine QCall.k0 (beginA H w.form hH.lex hf.entry hx trivial) ?_;conv=>whnf)
 refine tloop rfl mixed [1,3,5,7,8] [] (fun m r h=>∃ (i:Nat) (st:List Prg),r=[(1,[],.sl 1 none (ints line)),(3,[],.iptr (encHou H)),(5,[],.iptr (encWrd w)),(7,[],.sl 8 none (st.map fun q=>encHlf (hfOf (spOf H w.form) w.form q (w.uses.take i)))),(8,[],.int .i64 i)]∧h=[]∧m=line.length - i∧i≤line.length∧(∀ q∈st,HOK (spOf H w.form) q (w.uses.take i))∧wgtL st≤1000∧spellsM H line w=spGo H (spOf H w.form) w.form.clitics (line.drop i) (w.uses.drop i) st) ?_ ?_
 ·conv=>whnf
  exact ⟨_,_,Turn.refl _ _,_,0,[prg0],rfl,rfl,rfl,by omega,fun q hq=>by cases List.mem_singleton.1 hq;exact hok0 _,by decide,hsm⟩
 ·rintro m r h' ⟨i,st,rfl,rfl,rfl,hi,hst,hwt,hg⟩
  have hsl:=wgtL_len st
  conv=>whnf
  skip
  refine ⟨fun hi2=>?_,fun hi2=>?_⟩<;>simp at hi2
  ·obtain ⟨n,hn⟩:=get_lt hi2
   obtain ⟨u,hu'⟩:=get_lt (l:=w.uses) (i:=i) (by omega)
   have hnb:=hline n (List.mem_of_getElem? hn)
   have hus:=hu u (List.mem_of_getElem? hu')
   have hsg:=sgnAt_get hnb.1 hnb.2
   have hok:=usesM_ok (p:=H.period) ((lstOK hH.lst).each _ (List.mem_of_getElem? hsg))
   have htu:=take_snoc hu'
   rw [drop_cons hn,drop_cons hu',spGo] at hg
   obtain ⟨U,hU⟩:∃ U,U=usesAt H n:=⟨_,rfl⟩
   have hUl:U.length≤24:=by rw [hU];exact hok.1
   have hru:=refUsesW H n hfit hH hnb.1 hnb.2
   rw [← hU] at hg hru
   conv=>whnf
   repeat ((first|refine ix (by assumption) ?_|(refine gcall hru ?_)|refine And.intro (by show drawOK (opsAt Tryz.f131 _) _=true;decide +kernel) ?_);conv=>whnf)
   refine sloop rfl mixed [1,3,5,7,8,9,10,11] [] (fun m r h=>∃ (k:Nat) (b:Bool),r=[(1,[],.sl 1 none (ints line)),(3,[],.iptr (encHou H)),(5,[],.iptr (encWrd w)),(7,[],.sl 8 none (st.map fun q=>encHlf (hfOf (spOf H w.form) w.form q (w.uses.take i)))),(8,[],.int .i64 i),(9,[],.bool b),(10,[],.sl 2 none (U.map encUse)),(11,[],.int .i64 k)]∧h=[]∧m=U.length - k∧k≤U.length∧U.any (useEq u)=(b||(U.drop k).any (useEq u))) ?_ ?_
   ·conv=>whnf
    exact ⟨_,0,false,rfl,rfl,rfl,by omega,rfl⟩
   ·rintro m r h' ⟨k,b,rfl,rfl,rfl,hk,ha⟩
    conv=>whnf
    skip
    refine ⟨fun hk2=>?_,fun hk2=>?_⟩<;>simp at hk2
    ·obtain ⟨x,hx'⟩:=get_lt hk2
     rw [drop_cons hx',List.any_cons,← Bool.or_assoc] at ha
     have hxe:useEq u x=useEq x u:=by rw [useEq_iff,useEq_iff,decide_eq_decide];exact eq_comm
     rw [hxe] at ha
     conv=>whnf
     repeat ((first|refine ⟨gP_of ⟨by omega,by omega⟩,?_⟩|refine ix (by assumption) ?_|(refine ⟨plainUse,?_⟩)|refine And.intro (by show drawOK (opsAt Tryz.f131 _) _=true;decide +kernel) ?_);conv=>whnf)
     exact ⟨_,by omega,k+1,_,rfl,rfl,rfl,by omega,ha⟩
    ·rw [drop_nil hk2,List.any_nil,Bool.or_false] at ha
     rw [ha] at hg
     conv=>whnf
     skip
     refine ⟨fun hb=>?_,fun hb=>?_⟩<;>simp at hb
     ·rw [hg,hb]
      conv=>whnf
      skip
      rfl
     ·rw [hb,Bool.true_and] at hg
      have huo:UseOK u:=by
       rw [hb,List.any_eq_true] at ha
       obtain ⟨x,hx,hxe⟩:=ha
       rw [useEq_iff,decide_eq_true_eq] at hxe
       subst hxe
       rw [hU] at hx
       exact hok.2 _ hx
      conv=>whnf
      skip
      refine tloop rfl mixed [1,3,5,7,8,12,13] [] (fun m r h=>∃ (k:Nat) (v:AV) (hp:Heap),r=[(1,[],.sl 1 none (ints line)),(3,[],.iptr (encHou H)),(5,[],.iptr (encWrd w)),(7,[],.sl 8 none (st.map fun q=>encHlf (hfOf (spOf H w.form) w.form q (w.uses.take i)))),(8,[],.int .i64 i),(12,[],v),(13,[],.int .i64 k)]∧h=hp∧m=st.length - k∧k≤st.length∧Out 8 (fun q=>encHlf (hfOf (spOf H w.form) w.form q (w.uses.take i++[u]))) ((st.take k).flatMap fun p=>nextM (spOf H w.form) p u) v hp) ?_ ?_
      ·conv=>whnf
       exact ⟨_,_,Turn.refl _ _,_,0,_,_,rfl,rfl,rfl,by omega,.inl ⟨rfl,rfl,rfl⟩⟩
      ·rintro m r h' ⟨k,v,hp,rfl,rfl,rfl,hk,ho⟩
       conv=>whnf
       skip
       refine ⟨fun hk2=>?_,fun hk2=>?_⟩<;>simp at hk2
       ·obtain ⟨p,hp'⟩:=get_lt hk2
        have hpo:=hst p (List.mem_of_getElem? hp')
        have htk:((st.take (k+1)).flatMap fun p=>nextM (spOf H w.form) p u)=((st.take k).flatMap fun p=>nextM (spOf H w.form) p u)++nextM (spOf H w.form) p u:=by rw [take_snoc hp',List.flatMap_append,List.flatMap_singleton]
        have hnl:=nextM_len hs p u
        have hfl:((st.take k).flatMap fun p=>nextM (spOf H w.form) p u).length≤1000:=by
         have h1:=wgtL_len ((st.take k).flatMap fun p=>nextM (spOf H w.form) p u)
         have h2:=wgt_flat hs u (st.take k)
         have h3:wgtL (st.take k)≤wgtL st:=by
          have:=wgtL_app (st.take k) (st.drop k)
          rw [List.take_append_drop] at this
          omega
         omega
        have hfo:=followA (spOf H w.form) w.form p (w.uses.take i) u hs hpo huo rfl hf.entry
        rcases ho with ⟨he,rfl,rfl⟩|⟨q,rfl,rfl⟩
        all_goals
         conv=>whnf
         repeat ((first|refine ⟨gP_of ⟨by omega,by omega⟩,?_⟩|refine ix (by assumption) ?_|(refine gcall hfo ?_)|(refine ⟨(by first|(simp;done)|(simp;unfold AMAX;omega)),fun q'=>?_⟩)|(refine ⟨(by rw [List.length_append,List.length_map,List.length_map];unfold AMAX;omega),fun q'=>⟨_,.here _,?_⟩⟩)|refine And.intro (by show drawOK (opsAt Tryz.f131 _) _=true;decide +kernel) ?_);conv=>whnf)
         refine ⟨_,_,Turn.refl _ _,_,(by omega),k+1,_,_,rfl,rfl,rfl,by omega,.inr ⟨q',?_,rfl⟩⟩
         rw [htk,List.map_append]
         first|done|rfl|(rw [he];done)|(rw [he];rfl)
       ·rw [List.take_of_length_le hk2,← htu] at ho
        conv=>whnf
        repeat (refine ⟨gP_of ⟨by omega,by omega⟩,?_⟩;conv=>whnf)
        refine ⟨_,_,Turn.trans (Turn.weak (.cons (VLe.refl _) (.cons (VLe.refl _) (.cons (VLe.refl _) (.cons (ho.le (by decide)) (RLe.refl _)))))) (Turn.sub (h':=[]) (fun _ _ h=>by cases h) (fun _=>.nil)),_,(by omega),i+1,_,rfl,rfl,rfl,by omega,?_,?_,hg⟩
        ·have:=hok_all hs hst huo (by rw [List.length_take];omega)
         rwa [← htu] at this
        ·have:=wgt_flat hs u st
         omega
  ·have hie:i=line.length:=by omega
   have hTe:w.uses.take i=w.uses:=List.take_of_length_le (by omega)
   have hTl:0<w.uses.length:=by omega
   rw [drop_nil hi2,spGo] at hg
   ·rw [hTe] at hst ⊢
    conv=>whnf
    skip
    refine sloop rfl mixed [5,7,14] [] (fun m r h=>∃ (k:Nat),r=[(5,[],.iptr (encWrd w)),(7,[],.sl 8 none (st.map fun q=>encHlf (hfOf (spOf H w.form) w.form q w.uses))),(14,[],.int .i64 k)]∧h=[]∧m=st.length - k∧k≤st.length∧spellsM H line w=(st.drop k).any fun p=>endsM (spOf H w.form) p&&decide (p.cl=w.form.clitics)) ?_ ?_
    ·conv=>whnf
     exact ⟨_,0,rfl,rfl,rfl,by omega,hg⟩
    ·rintro m r h' ⟨k,rfl,rfl,rfl,hk,ha⟩
     conv=>whnf
     skip
     refine ⟨fun hk2=>?_,fun hk2=>?_⟩<;>simp at hk2
     ·obtain ⟨p,hp'⟩:=get_lt hk2
      have hpo:=hst p (List.mem_of_getElem? hp')
      have hpf:=hpo.ok.few
      rw [drop_cons hp',List.any_cons] at ha
      have hwh:=wholeA (spOf H w.form) w.form p w.uses hpo
      rw [decide_eq_true (show (0:Int)<w.uses.length by omega),Bool.and_true] at hwh
      conv=>whnf
      repeat ((first|refine ix (by assumption) ?_|(refine gcall hwh ?_)|refine gcall (refSameI p.cl w.form.clitics (by unfold LMAX;omega) (by unfold LMAX;omega)) ?_|refine And.intro (by show drawOK (opsAt Tryz.f131 _) _=true;decide +kernel) ?_);conv=>whnf)
      refine ⟨fun hb=>?_,fun hb=>?_⟩
      ·have hb:(endsM (spOf H w.form) p&&decide (p.cl=w.form.clitics))=true:=hb
       rw [ha,hb]
       conv=>whnf
       skip
       rfl
      ·have hb:(endsM (spOf H w.form) p&&decide (p.cl=w.form.clitics))=false:=hb
       rw [hb,Bool.false_or] at ha
       conv=>whnf
       repeat (refine ⟨gP_of ⟨by omega,by omega⟩,?_⟩;conv=>whnf)
       exact ⟨_,by omega,k+1,rfl,rfl,rfl,by omega,ha⟩
     ·rw [drop_nil hk2,List.any_nil] at ha
      rw [ha]
      conv=>whnf
      skip
   ·intro n t u us h1 h2
    cases h1
theorem refLineH {H:Hou} (hh:HouFit H) (h0:houErr H=0) {line:List Int} (hl:line.length≤LMAX):QCall Tryz.prog 130 [.agg (encLst H.list),.sl 1 none (ints line)] [] (.int .i64 (lineErr H line)):=by
 have:=refLine H.list line hh.list hl
 rwa [show lineE H.list line=lineErr H line by rw [lineErr,if_neg (by omega)];rfl] at this
theorem refPrice (H:Hou) (line:List Int) (w:Wrd) (hf:HouFit H) (hl:line.length≤1048576) (hc:w.form.clitics.length≤1048576) (hu:∀ u∈w.uses,u.text.length≤1048576) (hul:w.uses.length≤1048576) :
  QCall Tryz.prog 73 [.agg (encHou H),.sl 1 none (ints line),.agg (encWrd w)] [] (.tup [.int .i64 (priceL H line w),.int .i64 (priceE H line w)]):=by
 refine fcalls (F:=Tryz.f73) c73 rfl rfl rfl mixed rfl fun X=>?_
 conv=>whnf
 repeat (refine QCall.k0 (refHouse H hf) ?_;conv=>whnf)
 refine ⟨fun h0=>?_,fun h0=>?_⟩<;>simp at h0
 ·have h1:lineErr H line=houErr H:=by rw [lineErr,if_pos h0]
  have he:priceE H line w=houErr H:=by rw [priceE,h1,if_pos h0]
  conv=>whnf
  skip
  exact ⟨by rw [priceL,he,if_neg h0],rfl⟩
 conv=>whnf
 repeat (refine QCall.k0 (refLineH hf h0 (line:=line) (by unfold LMAX;omega)) ?_;conv=>whnf)
 refine ⟨fun h1=>?_,fun h1=>?_⟩<;>simp at h1
 ·have he:priceE H line w=lineErr H line:=by rw [priceE,if_pos h1]
  conv=>whnf
  skip
  exact ⟨by rw [priceL,he,if_neg h1],rfl⟩
 have hL:=lineOK h1
 conv=>whnf
 repeat (refine QCall.k0 (refForm H.lex w.form hf.lex (by unfold LMAX;omega)) ?_;conv=>whnf)
 refine ⟨fun h2=>?_,fun h2=>?_⟩<;>simp at h2
 ·have he:priceE H line w=frmErr H.lex w.form:=by rw [priceE,if_neg (by omega),if_pos h2]
  conv=>whnf
  skip
  exact ⟨by rw [priceL,he,if_neg h2],rfl⟩
 have hF:=frmOK h2
 conv=>whnf
 repeat (refine QCall.k0 (refSpell H line w hf hL.hou hL.signs hl hF hu hul) ?_;conv=>whnf)
 refine ⟨fun h3=>?_,fun h3=>?_⟩<;>simp at h3
 ·have he:priceE H line w=51:=by rw [priceE,if_neg (by omega),if_neg (by omega),if_neg (by rw [h3];decide)]
  conv=>whnf
  skip
  exact ⟨by rw [priceL,he,if_neg (by decide)],rfl⟩
 ·have he:priceE H line w=0:=by rw [priceE,if_neg (by omega),if_neg (by omega),if_pos h3]
  conv=>whnf
  repeat (refine QCall.k0 (refCost H w hf.lex hL.hou (by unfold LMAX;omega) hF.entry hul) ?_;conv=>whnf)
  exact ⟨by rw [priceL,he,if_pos rfl],rfl⟩
end Go.Abs.Wall
namespace Go.Abs.Wall
open Go Go.Abs Go.Proofs
end Go.Abs.Wall
namespace Go.Abs.Wall
open Go Go.Abs Go.Proofs
structure FrmSmall (f:Frm):Prop where
 entry:-1≤f.entry∧f.entry≤1048576
 ending:-1≤f.ending∧f.ending≤1048576
 cl:∀ c∈f.clitics,-1≤c∧c≤1048576
 few:f.clitics.length≤1048576
structure WrdSmall (w:Wrd):Prop where
 form:FrmSmall w.form
 uses:w.uses.length≤1048576
end Go.Abs.Wall
