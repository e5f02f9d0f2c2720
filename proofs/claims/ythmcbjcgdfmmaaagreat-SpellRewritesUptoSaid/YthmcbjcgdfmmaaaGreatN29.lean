/- Small laws for the walks and contracts of functions; each theorem names its conditions. -/
import Derived.Test.YthmcbjcgdfmmaaaGreatN28
import Derived.Test.YthmcbjcgdfmmaaaGreatN23
import Derived.Test.YthmcbjcgdfmmaaaGreatN8
import Derived.Test.YthmcbjcgdfmmaaaGreatN24
set_option maxRecDepth 100000
set_option maxHeartbeats 2000000
namespace Go.Abs.Wall.Spl
open Go Go.Abs Go.Proofs Go.Abs.Wall
def c184:av:=⟨[0,1,2,3,4,5,6,7,8,9,10,11,31,51,79],[23,44],[],[],[(1,[0,1,2,3,4,5,6,7,8,9,10,11],[]),(9,[0,1,2,3,4,5,6,7,8,9,10,11,12,13,14,15,16,17,18,19,20],[])],[]⟩
theorem XO (E:Env) (P:List (List UInt8)) (hE:gk E) (k:Nat) (g:Int) (hg:E.B.aK[k]?=some g) (u:az) (hu:1<=u.kind/\u.kind<=4) :
  ab Tryz.prog 216 [.ai (jy E P),.int .i64 k,.agg (aU u)] [] (.int .i64 (jQ E u+g)):=by
 have hc:=JN hE u;have Gu:=hE.vF g (List.mem_of_getElem? hg);have XP:[[AV.int .i64 0],[.int .i64 E.H.cC.spell],[.int .i64 E.H.cC.De],[.int .i64 E.H.cC.cV],[.int .i64 E.H.cC.cls]][u.kind.toNat]?=some [.int .i64 (jQ E u)]:=by have h4:u.kind=1\/u.kind=2\/u.kind=3\/u.kind=4:=(by omega);unfold jQ;rcases h4 with h|h|h|h<;>rw [h]<;>rfl
 refine aA (F:=Tryz.f216) c216 rfl rfl rfl mixed rfl fun X=>?_;(conv=>whnf);repeat ((first|refine ⟨ag ⟨by omega,by omega⟩,?_⟩|refine ix (by assumption) ?_|(refine ⟨u.kind.toNat,_,ag ⟨by omega,XP⟩,?_⟩)|refine ⟨_,_,bj.here _,⟨Nat.le_of_ble_eq_true rfl,rfl⟩,?_⟩|refine And.intro (by show aJ (aH Tryz.f216 _) _=true;decide +kernel) ?_|intro (nb:Nat));conv=>whnf)
 rw [Int.add_comm];exact ⟨rfl,rfl⟩
def tu (x:Lex) (f:br) (i:Nat):List (List UInt8):=jb x f::(f.ao.take i).map fun c=>(cS x c).text
def AZ (H:aD) (B:bE) (f:br) (pv uv:AV):List AV:=aZ H++(dO B++(fi (bY H.lex f.entry)++[pv,uv]))
theorem Qi (x:Lex) (f:br):tu x f 0=[jb x f]:=by unfold tu;simp
theorem Qj {x:Lex} {f:br} {i:Nat} {c:Int} (hc:f.ao[i]?=some c):tu x f (i+1)=tu x f i++[(cS x c).text]:=by unfold tu;rw [cN hc,List.map_append,<- List.cons_append];rfl
theorem Qk (x:Lex) (f:br):tu x f f.ao.length=ib x f:=by unfold tu;rw [List.take_length];rfl
theorem Ql {x:Lex} {f:br} (hf:mg x f) (i:Nat):(tu x f i).length<=4:=by have:=hf.bB;unfold tu;rw [List.length_cons,List.length_map,List.length_take];omega
theorem XQ (H:aD) (B:bE) (f:br) (hh:dx H) (h0:fA H=0) (hf:mg H.lex f) :
  ab Tryz.prog 184 [.agg (aZ H),.agg (dO B),.agg (dt f)] [] (.ai (jy (lO H B f) (ib H.lex f))):=by
 have hH:=vN h0;have dG:=hf.bB;have fl:=hf.Ds;have oH:=lP (hf.lex.bY hf.entry.1 hf.entry.2).root
 have key:aw Tryz.prog 184 [.agg (aZ H),.agg (dO B),.agg (dt f)] []
   (fun v h'=>∃ wb pv ph uv uh,v=.ba wb 0/\Out 1 iN (ib H.lex f) pv ph/\Out 1 eD (jc H) uv uh/\h'.Perm ((wb,.vec (AZ H B f pv uv))::(ph++uh))):=by
  refine aA (F:=Tryz.f184) c184 rfl rfl rfl mixed rfl fun X=>?_;(conv=>whnf);repeat ((first|(refine cp f.entry.toNat (by have:=hf.entry;omega) (nY hf.entry.1 hf.entry.2) ?_)|(intro (wb:Nat))|refine ⟨_,_,.head _,rfl,?_⟩|refine And.intro (by show aJ (aH Tryz.f184 _) _=true;decide +kernel) ?_);conv=>whnf)
  refine ⟨fun uF=>?_,fun uF=>?_⟩<;>simp at uF
  ·have Gt:f.ending<H.lex.bM.length:=by rcases hf.ending with h|h<;>omega
   have eM:=lP (hf.lex.gG uF Gt).text;have ax:jb H.lex f=(bY H.lex f.entry).root++(gG H.lex f.ending).text:=by unfold jb;rw [if_pos uF]
   (conv=>whnf);repeat ((first|(refine cp f.ending.toNat (by omega) (zt uF Gt) ?_)|(refine ⟨ag (by rw [List.length_append];unfold aq;omega),?_⟩)|refine ⟨_,_,.there (.here _),aI,?_⟩|intro (nb:Nat));conv=>whnf)
   (conv=>whnf);skip;refine bD rfl mixed [3,5,7,9] [] (fun m r h=>∃ (i:Nat) (q wb:Nat),r=[(3,[],.ai (aZ H)),(5,[],.ai (dt f)),(7,[],.ba wb 0),(9,[],.int .i64 i)]/\h=(q,.tok)::[(wb,.vec (AZ H B f (.sl 1 (some q) ((tu H.lex f i).map iN)) .aS))]/\m=f.ao.length - i/\i<=f.ao.length) ?_ ?_
   ·(conv=>whnf);exact ⟨_,_,ah.refl _ _,_,0,nb,wb,rfl,by rw [Qi,ax];rfl,rfl,by omega⟩
   rintro m r h' ⟨i,q,wb,rfl,rfl,rfl,hi⟩;(conv=>whnf);refine ⟨fun hz=>?_,fun hz=>?_⟩<;>simp [cO] at hz
   ·obtain ⟨c,hc⟩:=aF hz;have eW:=hf.eh c (List.mem_of_getElem? hc);have cM:=Ql hf i;(conv=>whnf);repeat ((first|refine ⟨ag ⟨by omega,by omega⟩,?_⟩|refine ix (by assumption) ?_|(refine cp c.toNat (by omega) (kz eW.1 eW.2) ?_)|(refine ⟨(by rw [List.length_append,List.length_map,List.length_singleton];unfold aN;omega),fun q'=>⟨_,.here _,?_⟩⟩)|refine ⟨_,_,.tail _ (.head _),rfl,?_⟩|refine ⟨_,_,.there (.here _),aI,?_⟩|refine And.intro (by show aJ (aH Tryz.f184 _) _=true;decide +kernel) ?_);conv=>whnf)
    exact ⟨_,_,ah.refl _ _,_,(by omega),i+1,q',wb,rfl,by rw [Qj hc,List.map_append];rfl,rfl,by omega⟩
   have bw:i=f.ao.length:=(by omega);subst bw;rw [Qk]
   have tm:∀ (j:Nat),j<H.list.aK.length->ab Tryz.prog 213 [.agg (aZ H),.int .i64 j] [] (.aB [.sl 2 none ((gM H j).map aU),.int .i64 0]):=by
    intro j hj;have hU:=Qm H j hh;have he:kA H j=0:=by unfold kA;rw [if_neg (by omega),if_neg];rw [Bool.not_eq_false,dL];omega
    unfold tn at hU;rw [if_pos he,he] at hU;exact hU
   (conv=>whnf);skip;refine bD rfl mixed [3,7,10] [] (fun m r h=>∃ (i:Nat) (q wb:Nat) (uv:AV) (uh:af),r=[(3,[],.ai (aZ H)),(7,[],.ba wb 0),(10,[],.int .i64 i)]/\h=(q,.tok)::(wb,.vec (AZ H B f (.sl 1 (some q) ((ib H.lex f).map iN)) uv))::uh/\m=H.list.aK.length - i/\i<=H.list.aK.length/\Out 1 eD ((jc H).take i) uv uh) ?_ ?_
   ·(conv=>whnf);exact ⟨_,_,ah.refl _ _,_,0,q,wb,.aS,[],rfl,rfl,rfl,by omega,.inl ⟨by simp,rfl,rfl⟩⟩
   rintro m r h' ⟨i,q,wb,uv,uh,rfl,rfl,rfl,hi,ho⟩;have vz:=(sK hH.qy).many;(conv=>whnf);refine ⟨fun hz=>?_,fun hz=>?_⟩<;>simp at hz
   ·have hu:=tm i hz;have mK:=cN (Kd hz);have fu:(((jc H).take i).map eD).length<=200:=by rw [List.length_map,List.length_take];omega
    rcases ho with ⟨hn,rfl,rfl⟩|⟨qu,rfl,rfl⟩
    ·(conv=>whnf);repeat ((first|refine ⟨ag ⟨by omega,by omega⟩,?_⟩|refine ab.k0 (hu) ?_|(refine ⟨Nat.le_of_ble_eq_true rfl,fun q'=>?_⟩)|(refine ⟨_,_,.there (.there (.here _)),aI,?_⟩)|refine ⟨_,_,.tail _ (.head _),rfl,?_⟩);conv=>whnf)
     exact ⟨_,_,ah.perm (List.perm_middle (l₁:=[_,_])).symm,_,(by omega),i+1,q,wb,_,[(q',.tok)],rfl,rfl,rfl,by omega,.inr ⟨q',by rw [mK,hn];rfl,rfl⟩⟩
    (conv=>whnf);repeat ((first|refine ⟨ag ⟨by omega,by omega⟩,?_⟩|refine ab.k0 (hu) ?_|(refine ⟨(by rw [List.length_append,List.length_singleton];unfold aN;omega),fun q'=>⟨_,.there (.there (.here _)),?_⟩⟩)|refine ⟨_,_,.tail _ (.head _),rfl,?_⟩|refine ⟨_,_,.there (.here _),aI,?_⟩);conv=>whnf)
    exact ⟨_,_,ah.refl _ _,_,(by omega),i+1,q,wb,_,[(q',.tok)],rfl,rfl,rfl,by omega,.inr ⟨q',by rw [mK,List.map_append];rfl,rfl⟩⟩
   have bw:i=H.list.aK.length:=(by omega);subst bw;rw [List.take_of_length_le (by rw [Dr];exact Nat.le_refl _)] at ho;(conv=>whnf);skip;refine ⟨wb,.sl 1 (some q) ((ib H.lex f).map iN),[(q,.tok)],uv,uh,rfl,.inr ⟨q,rfl,rfl⟩,ho,?_⟩;exact List.Perm.swap _ _ _
  have ax:jb H.lex f=(bY H.lex f.entry).root:=by unfold jb;rw [if_neg (by omega),List.append_nil]
  (conv=>whnf);repeat ((first|refine ⟨_,_,.there (.here _),aI,?_⟩|intro (nb:Nat));conv=>whnf)
  (conv=>whnf);skip;refine bD rfl mixed [3,5,7,9] [] (fun m r h=>∃ (i:Nat) (q wb:Nat),r=[(3,[],.ai (aZ H)),(5,[],.ai (dt f)),(7,[],.ba wb 0),(9,[],.int .i64 i)]/\h=(q,.tok)::[(wb,.vec (AZ H B f (.sl 1 (some q) ((tu H.lex f i).map iN)) .aS))]/\m=f.ao.length - i/\i<=f.ao.length) ?_ ?_
  ·(conv=>whnf);exact ⟨_,_,ah.refl _ _,_,0,nb,wb,rfl,by rw [Qi,ax];rfl,rfl,by omega⟩
  rintro m r h' ⟨i,q,wb,rfl,rfl,rfl,hi⟩;(conv=>whnf);refine ⟨fun hz=>?_,fun hz=>?_⟩<;>simp [cO] at hz
  ·obtain ⟨c,hc⟩:=aF hz;have eW:=hf.eh c (List.mem_of_getElem? hc);have cM:=Ql hf i;(conv=>whnf);repeat ((first|refine ⟨ag ⟨by omega,by omega⟩,?_⟩|refine ix (by assumption) ?_|(refine cp c.toNat (by omega) (kz eW.1 eW.2) ?_)|(refine ⟨(by rw [List.length_append,List.length_map,List.length_singleton];unfold aN;omega),fun q'=>⟨_,.here _,?_⟩⟩)|refine ⟨_,_,.tail _ (.head _),rfl,?_⟩|refine ⟨_,_,.there (.here _),aI,?_⟩|refine And.intro (by show aJ (aH Tryz.f184 _) _=true;decide +kernel) ?_);conv=>whnf)
   exact ⟨_,_,ah.refl _ _,_,(by omega),i+1,q',wb,rfl,by rw [Qj hc,List.map_append];rfl,rfl,by omega⟩
  have bw:i=f.ao.length:=(by omega);subst bw;rw [Qk]
  have tm:∀ (j:Nat),j<H.list.aK.length->ab Tryz.prog 213 [.agg (aZ H),.int .i64 j] [] (.aB [.sl 2 none ((gM H j).map aU),.int .i64 0]):=by
   intro j hj;have hU:=Qm H j hh;have he:kA H j=0:=by unfold kA;rw [if_neg (by omega),if_neg];rw [Bool.not_eq_false,dL];omega
   unfold tn at hU;rw [if_pos he,he] at hU;exact hU
  (conv=>whnf);skip;refine bD rfl mixed [3,7,10] [] (fun m r h=>∃ (i:Nat) (q wb:Nat) (uv:AV) (uh:af),r=[(3,[],.ai (aZ H)),(7,[],.ba wb 0),(10,[],.int .i64 i)]/\h=(q,.tok)::(wb,.vec (AZ H B f (.sl 1 (some q) ((ib H.lex f).map iN)) uv))::uh/\m=H.list.aK.length - i/\i<=H.list.aK.length/\Out 1 eD ((jc H).take i) uv uh) ?_ ?_
  ·(conv=>whnf);exact ⟨_,_,ah.refl _ _,_,0,q,wb,.aS,[],rfl,rfl,rfl,by omega,.inl ⟨by simp,rfl,rfl⟩⟩
  rintro m r h' ⟨i,q,wb,uv,uh,rfl,rfl,rfl,hi,ho⟩;have vz:=(sK hH.qy).many;(conv=>whnf);refine ⟨fun hz=>?_,fun hz=>?_⟩<;>simp at hz
  ·have hu:=tm i hz;have mK:=cN (Kd hz);have fu:(((jc H).take i).map eD).length<=200:=by rw [List.length_map,List.length_take];omega
   rcases ho with ⟨hn,rfl,rfl⟩|⟨qu,rfl,rfl⟩
   ·(conv=>whnf);repeat ((first|refine ⟨ag ⟨by omega,by omega⟩,?_⟩|refine ab.k0 (hu) ?_|(refine ⟨Nat.le_of_ble_eq_true rfl,fun q'=>?_⟩)|(refine ⟨_,_,.there (.there (.here _)),aI,?_⟩)|refine ⟨_,_,.tail _ (.head _),rfl,?_⟩);conv=>whnf)
    exact ⟨_,_,ah.perm (List.perm_middle (l₁:=[_,_])).symm,_,(by omega),i+1,q,wb,_,[(q',.tok)],rfl,rfl,rfl,by omega,.inr ⟨q',by rw [mK,hn];rfl,rfl⟩⟩
   (conv=>whnf);repeat ((first|refine ⟨ag ⟨by omega,by omega⟩,?_⟩|refine ab.k0 (hu) ?_|(refine ⟨(by rw [List.length_append,List.length_singleton];unfold aN;omega),fun q'=>⟨_,.there (.there (.here _)),?_⟩⟩)|refine ⟨_,_,.tail _ (.head _),rfl,?_⟩|refine ⟨_,_,.there (.here _),aI,?_⟩);conv=>whnf)
   exact ⟨_,_,ah.refl _ _,_,(by omega),i+1,q,wb,_,[(q',.tok)],rfl,rfl,rfl,by omega,.inr ⟨q',by rw [mK,List.map_append];rfl,rfl⟩⟩
  have bw:i=H.list.aK.length:=(by omega);subst bw;rw [List.take_of_length_le (by rw [Dr];exact Nat.le_refl _)] at ho;(conv=>whnf);skip;refine ⟨wb,.sl 1 (some q) ((ib H.lex f).map iN),[(q,.tok)],uv,uh,rfl,.inr ⟨q,rfl,rfl⟩,ho,?_⟩;exact List.Perm.swap _ _ _
 have Kg:aw Tryz.prog 184 [.agg (aZ H),.agg (dO B),.agg (dt f)] []
   (fun v h'=>∃ wb pv ph uv uh,v=.ba wb 0/\Out 1 iN (ib H.lex f) pv ph/\Out 1 eD (jc H) uv uh/\h'=(wb,.vec (AZ H B f pv uv))::(ph++uh)):=by
  refine aw.post key ?_;rintro v h1 ⟨wb,pv,ph,uv,uh,rfl,oD,cg,hp⟩;exact ⟨_,_,⟨wb,pv,ph,uv,uh,rfl,oD,cg,rfl⟩,aa.refl _,fun k o hm=>hp.mem_iff.2 hm,fun hn=>by unfold keys at hn ⊢;exact ((hp.map _).nodup_iff).1 hn⟩
 refine ab.of (aw.ye Kg ?_);rintro v h1 ⟨wb,pv,ph,uv,uh,rfl,oD,cg,rfl⟩;refine ⟨wb,_,_,_,_,.here _,jd.refl _,.ptr rfl,?_⟩;refine aa.ai ?_;exact zp (cu.refl _) (zp (cu.refl _) (zp (cu.refl _) (.cons (oD.le (by decide)) (.cons (cg.le (by decide)) .nil))))
end Go.Abs.Wall.Spl
namespace Go.Abs.Wall.Spl
open Go Go.Abs Go.Proofs Go.Abs.Wall
def mj (l:List RS):List AV:=[.sl 4 none (l.map lg)]
def DB (l:List fF):List AV:=[.sl 5 none (l.map oX)]
def kB (l:List (List fF)):List AV:=[.sl 1 none (l.map DB)]
structure xx (P:List (List UInt8)) (n:Int) (N:List RS) (t:fF) (m:Mv):Prop where
 two:Dy t=Dz m
 cost:t.cost=m.cost
 to:∃ r,N[t.to]?=some r/\toS P (n+1) r=m.to
def kC (P:List (List UInt8)) (n:Int) (N:List RS):List fF->List Mv->Prop
 | [],[]=>True
 | t::l,m::ms=>xx P n N t m/\kC P n N l ms
 | _,_=>False
theorem xx.more {P:List (List UInt8)} {n:Int} {N:List RS} {t:fF} {m:Mv} (X:List RS) (h:xx P n N t m):xx P n (N++X) t m:=by obtain ⟨r,h1,h2⟩:=h.to;refine ⟨h.two,h.cost,r,?_,h2⟩;rw [List.getElem?_append_left (List.getElem?_eq_some_iff.1 h1).1];exact h1
theorem kC.more {P:List (List UInt8)} {n:Int} {N:List RS} (X:List RS):∀ {l:List fF} {ms:List Mv},kC P n N l ms->kC P n (N++X) l ms
 | [],[],_=>trivial
 | [],_::_,h=>False.elim h
 | _::_,[],h=>False.elim h
 | t::l,m::ms,h=>⟨h.1.more X,kC.more X h.2⟩
theorem kC.snoc {P:List (List UInt8)} {n:Int} {N:List RS} {t:fF} {m:Mv} (ht:xx P n N t m):∀ {l:List fF} {ms:List Mv},kC P n N l ms->kC P n N (l++[t]) (ms++[m])
 | [],[],_=>⟨ht,trivial⟩
 | [],_::_,h=>False.elim h
 | _::_,[],h=>False.elim h
 | s::l,o::ms,h=>⟨h.1,kC.snoc ht h.2⟩
theorem kC.len {P:List (List UInt8)} {n:Int} {N:List RS}:∀ {l:List fF} {ms:List Mv},kC P n N l ms->l.length=ms.length
 | [],[],_=>rfl
 | [],_::_,h=>False.elim h
 | _::_,[],h=>False.elim h
 | s::l,o::ms,h=>by rw [List.length_cons,List.length_cons,kC.len h.2]
theorem kC.get {P:List (List UInt8)} {n:Int} {N:List RS}:∀ {l:List fF} {ms:List Mv} {i:Nat} {t:fF} {m:Mv},kC P n N l ms->l[i]?=some t->ms[i]?=some m->xx P n N t m
 | [],_,i,t,m,_,h,_=>by simp at h
 | _::_,[],i,t,m,h,_,_=>False.elim h
 | s::l,o::ms,0,t,m,h,h1,h2=>by simp at h1 h2;subst h1 h2;exact h.1
 | s::l,o::ms,i+1,t,m,h,h1,h2=>kC.get h.2 (by simpa using h1) (by simpa using h2)
structure xy (E:Env) (P:List (List UInt8)) (n:Int) (l:List RS):Prop where
 can:∀ s∈l,Can P s
 last:∀ s∈l,0<=s.last/\s.last<=8
 zero:n=0->∀ s∈l,s.part=0
 nodup:l.Nodup
def Ba:RS:=⟨0,0,0,false⟩
theorem Kq:∀ (N:Nat) (l:List Nat),l.Nodup->(∀ x∈l,x<N)->l.length<=N
 | 0,l,_,h=>by
   cases l with
   | nil=>exact Nat.le_refl _
   | cons a t=>have:=h a (by simp);omega
 | N+1,l,hn,h=>by
   by_cases hm:N∈l
   ·have h1:=Kq N (l.erase N) (hn.erase N) fun x hx=>by
     have h2:=h x (List.mem_of_mem_erase hx);have h3:x≠N:=fun e=>by rw [e] at hx;exact (List.Nodup.not_mem_erase hn) hx
     omega
    rw [List.length_erase_of_mem hm] at h1;omega
   have:=Kq N l hn fun x hx=>by have h2:=h x hx;have h3:x≠N:=fun e=>hm (by rw [<- e];exact hx);omega
   omega
theorem toS_ok {E:Env} {P:List (List UInt8)} (hP:nX E P) {n:Int} (hn:0<=n/\n<=12) {s:RS} (hc:Can P s) (hl:0<=s.last/\s.last<=8):gY E (toS P n s):=by
 have h1:=hc.part;have h2:=hc.done;have h3:=ti h1.1 h1.2;have h4:=vM (P:=P) (p:=s.part+1) (q:=P.length) (by omega) (by omega);rw [AQ] at h4;have h5:0<=bO P s.part:=by unfold bO;omega
 refine ⟨hn,⟨?_,?_⟩,hl⟩
 ·show 0<=bO P s.part+s.done;omega
 show bO P s.part+s.done<=E.snd.length;rw [hP.snd];omega
def Gv (P:List (List UInt8)) (s:RS):Nat:=((bO P s.part+s.done).toNat*9+s.last.toNat)*2+(if s.cls=true then 1 else 0)
theorem xy.bB {E:Env} {P:List (List UInt8)} (hE:gk E) (hP:nX E P) {n:Int} (hn:0<=n/\n<=12) {l:List RS} (h:xy E P n l):l.length<=20000:=by
 have hs:=hE.snd;rw [show l.length=(l.map (Gv P)).length from (List.length_map _).symm];refine Kq 20000 _ ?_ ?_
 ·have h1:=h.nodup
  have key:∀ (l:List RS),(∀ s∈l,Can P s)->(∀ s∈l,0<=s.last/\s.last<=8)->l.Nodup->(l.map (Gv P)).Nodup:=by
   intro l hc hl hn;induction l with
   | nil=>exact .nil
   | cons a t ih=>
     rw [List.nodup_cons] at hn;rw [List.map_cons,List.nodup_cons];refine ⟨fun hm=>?_,ih (fun s hs=>hc s (by simp [hs])) (fun s hs=>hl s (by simp [hs])) hn.2⟩;obtain ⟨b,hb,he⟩:=List.mem_map.1 hm;have ca:=hc a (by simp);have cb:=hc b (by simp [hb]);have la:=hl a (by simp);have lb:=hl b (by simp [hb]);have oa:=(toS_ok hP (n:=0) (by omega) ca la).at_;have ob:=(toS_ok hP (n:=0) (by omega) cb lb).at_;have R9:0<=bO P a.part+a.done:=oa.1;have S0:0<=bO P b.part+b.done:=ob.1
     have:a=b:=by
      refine toS_inj (n:=0) ca cb ?_;unfold Gv at he;have bit:∀ c:Bool,(if c=true then 1 else 0)=c.toNat:=fun c=>by cases c<;>rfl
      rw [bit,bit] at he;have hx:=Bool.toNat_le a.cls;have hy:=Bool.toNat_le b.cls;have uG:a.cls.toNat=b.cls.toNat:=by generalize (bO P a.part+a.done).toNat*9+a.last.toNat=u at he;generalize (bO P b.part+b.done).toNat*9+b.last.toNat=v at he;omega
      have bq:a.cls=b.cls:=by clear he;cases h1:a.cls<;>cases h2:b.cls<;>rw [h1,h2] at uG<;>first|rfl|cases uG
      rw [bq] at he;unfold toS;have e1:a.last=b.last:=(by omega);have e2:bO P a.part+a.done=bO P b.part+b.done:=(by omega);rw [e1,e2,bq]
     rw [this] at hn;exact hn.1 hb
  exact key l h.can h.last h1
 intro x hx;obtain ⟨s,mN,rfl⟩:=List.mem_map.1 hx;have:=(toS_ok hP (n:=0) (by omega) (h.can s mN) (h.last s mN)).at_;have h2:bO P s.part+s.done<=E.snd.length:=this.2;have h3:=h.last s mN;unfold Gv;split<;>omega
structure zu (E:Env) (P:List (List UInt8)) (k:Nat) (S:List (List RS)) (T:List (List (List fF))):Prop where
 ls:S.length=k+1
 lt:T.length=k
 first:S[0]?=some [Ba]
 Kr:∀ (n:Nat) l,S[n]?=some l->xy E P n l
 step:∀ (n:Nat) l l' rows,S[n]?=some l->S[n+1]?=some l'->T[n]?=some rows->rows.length=l.length/\∀ (i:Nat) s row,l[i]?=some s->rows[i]?=some row->kC P n l' row (di E (toS P n s))
def uH (E:Env) (P:List (List UInt8)) (n:Nat) (l N:List RS) (F:List (List fF)):Prop:=∀ (j:Nat) s row,l[j]?=some s->F[j]?=some row->kC P n N row (di E (toS P n s))
theorem uH.more {E:Env} {P:List (List UInt8)} {n:Nat} {l N:List RS} {F:List (List fF)} (X:List RS) (h:uH E P n l N F):uH E P n l (N++X) F:=fun j s row h1 h2=>(h j s row h1 h2).more X
theorem uH.snoc {E:Env} {P:List (List UInt8)} {n:Nat} {l N:List RS} {F:List (List fF)} (h:uH E P n l N F) {s:RS} (hs:l[F.length]?=some s) {row:List fF} (hr:kC P n N row (di E (toS P n s))):uH E P n l N (F++[row]):=by
 intro j s2 Ks h1 h2;by_cases hj:j<F.length
 ·rw [List.getElem?_append_left hj] at h2;exact h j s2 Ks h1 h2
 by_cases e:j=F.length
 ·subst e;rw [List.getElem?_append_right (Nat.le_refl _),Nat.sub_self] at h2;cases h2
  rw [hs] at h1;cases h1
  exact hr
 rw [List.getElem?_eq_none (by rw [List.length_append,List.length_singleton];omega)] at h2;cases h2
theorem zu.snoc {E:Env} {P:List (List UInt8)} {k:Nat} {S:List (List RS)} {T:List (List (List fF))} (h:zu E P k S T) {l N:List RS} {F:List (List fF)} (hl:S[k]?=some l) (hN:xy E P ((k+1:Nat):Int) N) (hF:uH E P k l N F) (Kt:F.length=l.length):zu E P (k+1) (S++[N]) (T++[F]):=by
 refine ⟨by rw [List.length_append,h.ls];rfl,by rw [List.length_append,h.lt];rfl,?_,?_,?_⟩
 ·rw [List.getElem?_append_left (by rw [h.ls];omega)];exact h.first
 ·intro n l2 h2;by_cases hn:n<S.length
  ·rw [List.getElem?_append_left hn] at h2;exact h.Kr n l2 h2
  by_cases e:n=S.length
  ·subst e;rw [List.getElem?_append_right (Nat.le_refl _),Nat.sub_self] at h2;cases h2
   rw [h.ls];exact hN
  rw [List.getElem?_eq_none (by rw [List.length_append,List.length_singleton];omega)] at h2;cases h2
 intro n l2 l3 rows h2 h3 h4;by_cases hn:n<T.length
 ·have:=h.ls;have:=h.lt;rw [List.getElem?_append_left (by omega)] at h2 h3 h4;exact h.step n l2 l3 rows h2 h3 h4
 by_cases e:n=T.length
 ·have e1:=h.lt;have e2:=h.ls;rw [e,List.getElem?_append_right (Nat.le_refl _),Nat.sub_self] at h4;cases h4
  have e3:n=k:=(by omega);subst e3;rw [List.getElem?_append_right (by omega),show n+1 - S.length=0 by omega] at h3;cases h3
  rw [List.getElem?_append_left (by omega),hl] at h2;cases h2
  exact ⟨Kt,hF⟩
 rw [List.getElem?_eq_none (by rw [List.length_append,List.length_singleton];omega)] at h4;cases h4
theorem Qn {E:Env} {x:bA} {s:Nat} (h:E.B.aK.getD s 0<0):∀ us:List az,oU E x s us=[]
 | []=>rfl
 | u::t=>by rw [oU,Qn h t,List.append_nil];unfold vE;rw [if_neg];rw [Bool.and_eq_true,decide_eq_true_eq];omega
theorem XR {l:List RS} {s:RS} (h:l.idxOf s≠l.length):l[l.idxOf s]?=some s:=by
 have h1:l.idxOf s<l.length:=by have:=List.idxOf_le_length (a:=s) (l:=l);omega
 rw [List.getElem?_eq_getElem h1,List.getElem_idxOf h1]
theorem XS {l:List RS} {s:RS} (h:l.idxOf s=l.length):s ∉ l:=by intro hm;have:=List.idxOf_lt_length_of_mem hm;omega
end Go.Abs.Wall.Spl
namespace Go.Abs.Wall.Spl
open Go Go.Abs Go.Proofs Go.Abs.Wall
theorem XT (E:Env) (P:List (List UInt8)) (hP:nX E P):zu E P 0 [[Ba]] []:=by
 refine ⟨rfl,rfl,rfl,fun n l h=>?_,fun n l l' rows h1 h2 h3=>(by cases h3)⟩;cases n with
 | zero=>
   simp at h;subst h;have hl:=hP.len;refine ⟨fun s hs=>?_,fun s hs=>?_,fun _ s hs=>?_,by simp⟩
   ·rw [List.mem_singleton.1 hs];exact ⟨⟨by decide,by show (0:Int)<_;omega⟩,⟨by decide,by show (0:Int)<=_;omega⟩,fun h=>by cases h⟩
   ·rw [List.mem_singleton.1 hs];exact ⟨by decide,by decide⟩
   rw [List.mem_singleton.1 hs];rfl
 | succ n=>simp at h
def c185:av:=⟨[0,2,3,4,5,6,7,8,9,10,11,12,13,14,15,16,21,30,39,62,91,98],[19],[13,14],[],[(19,[0,1,2,3,4,5,6,7,8,9,10,11,12,13,14,15,16,17],[14]),(24,[0,1,2,3,4,5,6,7,8,9,10,11],[])],[]⟩
set_option maxHeartbeats 4000000 in
theorem XU (E:Env) (P:List (List UInt8)) (hE:gk E) (hP:nX E P) (xw:P.length<=1000) (Ku:∀ us∈E.ay,∀ u∈us,1<=u.kind/\u.kind<=4) :
  aw Tryz.prog 185 [.ai (jy E P)] [] (fun v h'=>∃ S T,zu E P 12 S T/\v=.aB [.sl 1 none (S.map mj),.sl 1 none (T.map kB)]/\h'=[]):=by
 have XV:P.flatten.length<=1000:=by rw [<- hP.snd];exact hE.snd
 have Ao:=hE.rows;refine aw.post (R:=fun v h'=>∃ S T,zu E P 12 S T/\aa v (.aB [.sl 1 none (S.map mj),.sl 1 none (T.map kB)])) ?_ ?_
 ·refine aA (F:=Tryz.f185) c185 rfl rfl rfl mixed rfl fun X=>?_;(conv=>whnf);repeat ((intro (q0:Nat));conv=>whnf)
  refine bD rfl mixed [0,4,5,6] [(5,1)] (fun m r h=>∃ (n:Nat) (S:List (List RS)) (T:List (List (List fF))) (q4 q5:Nat),r=[(0,[],.ai (jy E P)),(4,[],.sl 1 (some q4) (S.map mj)),(5,[],.sl 1 (some q5) (T.map kB)),(6,[],.int .i64 n)]/\h=(q5,.tok)::(q4,.tok)::[]/\m=13 - n/\n<=12/\zu E P n S T) ?_ ?_
  ·(conv=>whnf);refine ⟨by decide,fun q5=>?_⟩;(conv=>whnf);exact ⟨_,_,ah.refl _ _,_,0,[[Ba]],[],q0,q5,rfl,rfl,rfl,by omega,XT E P hP⟩
  rintro m r h' ⟨n,S,T,q4,q5,rfl,rfl,rfl,hn,hL⟩;have EZ:=hL.ls;have fH:=hL.lt;(conv=>whnf);refine ⟨fun hz=>?_,fun hz=>?_⟩<;>simp at hz
  ·obtain ⟨l,hl⟩:=aF (l:=S) (i:=n) (by omega);have xz:=hL.Kr n l hl;have dG:=xz.bB hE hP (by omega);(conv=>whnf);skip;refine bD rfl mixed [0,4,5,6,7,8,9] [(7,4),(8,1)] (fun m r h=>∃ (i:Nat) (N:List RS) (F:List (List fF)) (q7 q8:Nat),r=[(0,[],.ai (jy E P)),(4,[],.sl 1 (some q4) (S.map mj)),(5,[],.sl 1 (some q5) (T.map kB)),(6,[],.int .i64 n),(7,[],.sl 4 (some q7) (N.map lg)),(8,[],.sl 1 (some q8) (F.map DB)),(9,[],.int .i64 i)]/\h=(q8,.tok)::(q7,.tok)::(q5,.tok)::(q4,.tok)::[]/\m=l.length - i/\i<=l.length/\F.length=i/\xy E P ((n+1:Nat):Int) N/\uH E P n l N F) ?_ ?_
   ·(conv=>whnf);refine ⟨by decide,fun q7=>?_⟩;(conv=>whnf);refine ⟨by decide,fun q8=>?_⟩;(conv=>whnf);exact ⟨_,_,ah.refl _ _,_,0,[],[],q7,q8,rfl,rfl,rfl,by omega,rfl,⟨fun s h=>(by cases h),fun s h=>(by cases h),fun _ s h=>(by cases h),.nil⟩,fun j s row h1 h2=>(by cases h2)⟩
   rintro m r h' ⟨i,N,F,q7,q8,rfl,rfl,rfl,hi,Kt,nZ,rV⟩;have Kv:=nZ.bB hE hP (by omega);(conv=>whnf);repeat (refine ix (by assumption) ?_;conv=>whnf)
   refine ⟨fun eC=>?_,fun eC=>?_⟩<;>simp at eC
   ·obtain ⟨s,hs⟩:=aF eC;have ve:=List.mem_of_getElem? hs;have xA:=xz.can s ve;have zs:=xz.last s ve;have hx:=toS_ok hP (n:=n) (by omega) xA zs;obtain ⟨x,jL⟩:∃ x,x=toS P n s:=⟨_,rfl⟩;rw [<- jL] at hx;have Dg:x.n=n:=by rw [jL];rfl
    have fD:di E x=mR E x 0 E.ay:=by unfold di;rw [if_neg (by omega)]
    (conv=>whnf);skip;refine bD rfl mixed [0,4,5,6,7,8,9,10,11] [(10,5)] (fun m r h=>∃ (g:Nat) (N:List RS) (q7:Nat) (L:List fF) (acc:List Mv) (rW:Nat),r=[(0,[],.ai (jy E P)),(4,[],.sl 1 (some q4) (S.map mj)),(5,[],.sl 1 (some q5) (T.map kB)),(6,[],.int .i64 n),(7,[],.sl 4 (some q7) (N.map lg)),(8,[],.sl 1 (some q8) (F.map DB)),(9,[],.int .i64 i),(10,[],.sl 5 (some rW) (L.map oX)),(11,[],.int .i64 g)]/\h=(rW,.tok)::(q8,.tok)::(q7,.tok)::(q5,.tok)::(q4,.tok)::[]/\m=E.ay.length - g/\g<=E.ay.length/\xy E P ((n+1:Nat):Int) N/\uH E P n l N F/\kC P n N L acc/\acc.length<=200*g/\di E x=acc++mR E x g (E.ay.drop g)) ?_ ?_
    ·(conv=>whnf);refine ⟨by decide,fun rW=>?_⟩;(conv=>whnf);exact ⟨_,_,ah.refl _ _,_,0,N,q7,[],[],rW,rfl,rfl,rfl,by omega,nZ,rV,trivial,by simp,fD⟩
    clear nZ rV Kv;rintro m r h' ⟨g,N,q7,L,acc,rW,rfl,rfl,rfl,hg,nZ,rV,uI,il,iy⟩;(conv=>whnf);refine ⟨fun cx=>?_,fun cx=>?_⟩<;>simp [xi] at cx
    ·obtain ⟨us,bd⟩:=aF (l:=E.ay) (i:=g) (by omega);have ze:=List.mem_of_getElem? bd;have mc:=hE.row us ze;have Wz:=hE.Df;obtain ⟨sg,qJ⟩:=aF (l:=E.B.aK) (i:=g) (by omega);have fE:E.B.aK.getD g 0=sg:=Fj qJ;rw [drop_cons bd,mR] at iy;(conv=>whnf);skip;refine bD rfl mixed [0,4,5,6,7,8,9,10,11,12] [] (fun m r h=>∃ (k:Nat) (N:List RS) (q7:Nat) (L:List fF) (acc:List Mv) (rW:Nat),r=[(0,[],.ai (jy E P)),(4,[],.sl 1 (some q4) (S.map mj)),(5,[],.sl 1 (some q5) (T.map kB)),(6,[],.int .i64 n),(7,[],.sl 4 (some q7) (N.map lg)),(8,[],.sl 1 (some q8) (F.map DB)),(9,[],.int .i64 i),(10,[],.sl 5 (some rW) (L.map oX)),(11,[],.int .i64 g),(12,[],.int .i64 k)]/\h=(rW,.tok)::(q8,.tok)::(q7,.tok)::(q5,.tok)::(q4,.tok)::[]/\m=us.length - k/\k<=us.length/\xy E P ((n+1:Nat):Int) N/\uH E P n l N F/\kC P n N L acc/\acc.length<=200*g+k/\di E x=acc++(oU E x g (us.drop k)++mR E x (g+1) (E.ay.drop (g+1)))) ?_ ?_
     ·(conv=>whnf);exact ⟨_,_,ah.refl _ _,_,0,N,q7,L,acc,rW,rfl,rfl,rfl,by omega,nZ,rV,uI,by omega,iy⟩
     clear nZ rV uI il iy;rintro m r h' ⟨k,N,q7,L,acc,rW,rfl,rfl,rfl,hk,nZ,rV,uI,il,iy⟩;have Kv:=nZ.bB hE hP (by omega);have lX:=uI.len;(conv=>whnf);repeat (refine ix (by assumption) ?_;conv=>whnf)
     refine ⟨fun hq=>?_,fun hq=>?_⟩
     ·have hq:(decide ((k:Int)<((us.map aU).length:Int))&&decide (0<=sg))=true:=hq;rw [List.length_map] at hq;simp only [Bool.and_eq_true,decide_eq_true_eq] at hq;obtain ⟨u,hu⟩:=aF (l:=us) (i:=k) (by omega);have wB:=List.mem_of_getElem? hu;have zf:=hE.text us ze u wB;have qp:=Ku us ze u wB;have XW:=hP.text us ze u wB;have jG:=XN E P xw XV s xA u zf (decide ((n:Int)=0)) zs;obtain ⟨f1,f2⟩:=WQ hP (n:=n) xA (fun uF=>xz.zero uF s ve) XW;rw [<- jL] at f1 f2;rw [drop_cons hu,oU,vE,fE,<- List.append_assoc,<- List.append_assoc] at iy;obtain ⟨t,ht⟩:∃ t,t=(rS E P s u (decide ((n:Int)=0))).1:=⟨_,rfl⟩;obtain ⟨is,vw⟩:∃ b,b=(rS E P s u (decide ((n:Int)=0))).2:=⟨_,rfl⟩;rw [<- ht] at f2 jG;rw [<- vw] at f1 jG;rw [<- f1] at iy f2;have qk:=XO E P hE g sg qJ u qp;(conv=>whnf);repeat ((first|refine ix (by assumption) ?_|refine aY (jG) ?_|refine ⟨_,_,bj.here _,⟨Nat.le_of_ble_eq_true rfl,rfl⟩,?_⟩|refine ⟨_,_,bj.here _,?_⟩|refine ⟨_,_,.here _,aI,?_⟩|refine And.intro (by show aJ (aH Tryz.f185 _) _=true;decide +kernel) ?_|intro (nb:Nat));conv=>whnf)
      refine ⟨fun tw=>?_,fun tw=>?_⟩
      ·have tw:(!is)=true:=tw;rw [Bool.not_eq_true'] at tw;rw [if_neg (by rw [tw];simp),List.append_nil,List.append_assoc] at iy;(conv=>whnf);repeat (refine ⟨ag ⟨by omega,by omega⟩,?_⟩;conv=>whnf)
       exact ⟨_,_,ah.refl _ _,_,(by omega),k+1,N,q7,L,acc,rW,rfl,rfl,rfl,by omega,nZ,rV,uI,by omega,iy⟩
      have tw:(!is)=false:=tw;rw [Bool.not_eq_false'] at tw;rw [if_pos (by rw [tw,decide_eq_true hq.2];rfl)] at iy;obtain ⟨g1,g2⟩:=f2 tw;have gf:0<=t.last/\t.last<=8:=by have h1:=(wC hE hx zf (by omega) (by rw [<- f1];exact tw)).1.hv;rw [<- g1] at h1;exact h1
      have Qo:ab Tryz.prog 215 [.sl 4 (some q7) (N.map lg),.agg (lg t)] [] (.int .i64 (N.idxOf t)):=ab.args (XM N t (by omega)) (.cons aa.sl (.cons (aa.refl _) .nil));(conv=>whnf);repeat (refine ab.k0 (Qo) ?_;conv=>whnf)
      have dM:((N.map lg).length:Int)=N.length:=(by rw [List.length_map]);have S1:(L.map oX).length<=200000:=by rw [List.length_map,lX];omega
      have S2:(N.map lg).length<=20000:=by rw [List.length_map];exact Kv
      refine ⟨fun he=>?_,fun he=>?_⟩
      ·have he:N.idxOf t=N.length:=by
        have he:=of_decide_eq_true he;rw [dM] at he;omega
       have Kw:=XS he
       have XX:xy E P ((n+1:Nat):Int) (N++[t]):=by
        refine ⟨fun s2 h2=>?_,fun s2 h2=>?_,fun uF=>(by omega),?_⟩
        ·rcases List.mem_append.1 h2 with h2|h2
         ·exact nZ.can s2 h2
         rw [List.mem_singleton.1 h2];exact g2
        ·rcases List.mem_append.1 h2 with h2|h2
         ·exact nZ.last s2 h2
         rw [List.mem_singleton.1 h2];exact gf
        rw [List.nodup_append];refine ⟨nZ.nodup,by simp,fun a ha b hb=>?_⟩;rw [List.mem_singleton.1 hb];intro e;rw [e] at ha;exact Kw ha
       have ax:xx P n (N++[t]) ⟨g,jQ E u+sg,N.idxOf t,u⟩ ⟨g,jQ E u+sg,u,(bk E x u).1⟩:=⟨rfl,rfl,t,by rw [he,List.getElem?_append_right (Nat.le_refl _),Nat.sub_self];rfl,g1⟩;(conv=>whnf);repeat ((first|refine ⟨ag ⟨by omega,by omega⟩,?_⟩|(refine ⟨(by rw [List.length_append,List.length_singleton];unfold aN;omega),fun q'=>⟨_,.there (.there (.here _)),?_⟩⟩)|refine aY (qk) ?_|(refine ⟨(by rw [List.length_append,List.length_singleton];unfold aN;omega),fun q'=>⟨_,.here _,?_⟩⟩)|refine And.intro (by show aJ (aH Tryz.f185 _) _=true;decide +kernel) ?_);conv=>whnf)
       rename_i qa;exact ⟨_,_,ah.refl _ _,_,(by omega),k+1,N++[t],qa,L++[⟨g,jQ E u+sg,N.idxOf t,u⟩],_,q',by rw [List.map_append,List.map_append];rfl,rfl,rfl,by omega,XX,rV.more [t],(uI.more [t]).snoc ax,by rw [List.length_append,List.length_singleton];omega,by rw [List.append_assoc] at iy;exact iy⟩
      have he:N.idxOf t≠N.length:=by have he:=of_decide_eq_false he;rw [dM] at he;omega
      have ax:xx P n N ⟨g,jQ E u+sg,N.idxOf t,u⟩ ⟨g,jQ E u+sg,u,(bk E x u).1⟩:=⟨rfl,rfl,t,XR he,g1⟩;(conv=>whnf);repeat ((first|refine ⟨ag ⟨by omega,by omega⟩,?_⟩|refine aY (qk) ?_|(refine ⟨(by rw [List.length_append,List.length_singleton];unfold aN;omega),fun q'=>⟨_,.here _,?_⟩⟩)|refine And.intro (by show aJ (aH Tryz.f185 _) _=true;decide +kernel) ?_);conv=>whnf)
      exact ⟨_,_,ah.refl _ _,_,(by omega),k+1,N,q7,L++[⟨g,jQ E u+sg,N.idxOf t,u⟩],_,q',by rw [List.map_append];rfl,rfl,rfl,by omega,nZ,rV,uI.snoc ax,by rw [List.length_append,List.length_singleton];omega,by rw [List.append_assoc] at iy;exact iy⟩
     have hq:(decide ((k:Int)<((us.map aU).length:Int))&&decide (0<=sg))=false:=hq
     have XY:oU E x g (us.drop k)=[]:=by
      rw [List.length_map,Bool.and_eq_false_iff,decide_eq_false_iff_not,decide_eq_false_iff_not] at hq;rcases hq with hq|hq
      ·rw [drop_nil (by omega)];rfl
      exact Qn (by rw [fE];omega) _
     rw [XY,List.nil_append] at iy;(conv=>whnf);repeat (refine ⟨ag ⟨by omega,by omega⟩,?_⟩;conv=>whnf)
     exact ⟨_,_,ah.refl _ _,_,(by omega),g+1,N,q7,L,acc,rW,rfl,rfl,rfl,by omega,nZ,rV,uI,by omega,iy⟩
    rw [drop_nil (by omega),mR,List.append_nil] at iy;rw [<- iy,jL] at uI;have S3:(F.map DB).length<=20000:=by rw [List.length_map];omega
    (conv=>whnf);repeat ((first|refine ⟨ag ⟨by omega,by omega⟩,?_⟩|(refine ⟨(by rw [List.length_append,List.length_singleton];unfold aN;omega),fun q'=>⟨_,.there (.here _),?_⟩⟩));conv=>whnf)
    exact ⟨_,_,ah.trans (ah.nD (.cons (aa.refl _) (.cons (aa.refl _) (.cons (aa.refl _) (.cons (aa.refl _) (.cons (aa.refl _) (.cons (aa.lH (gz.snoc (.cons aa.sl .nil))) (gT.refl _)))))))) (ah.drop (.here _)),_,(by omega),i+1,N,F++[L],q7,q',by rw [List.map_append];rfl,rfl,rfl,by omega,by rw [List.length_append,List.length_singleton];omega,nZ,rV.snoc (by rw [Kt];exact hs) uI⟩
   have S4:(S.map mj).length<=20:=by rw [List.length_map];omega
   have S5:(T.map kB).length<=20:=by rw [List.length_map];omega
   (conv=>whnf);repeat ((first|refine ⟨ag ⟨by omega,by omega⟩,?_⟩|(refine ⟨(by rw [List.length_append,List.length_singleton];unfold aN;omega),fun q'=>⟨_,.there (.there (.there (.here _))),?_⟩⟩)|(refine ⟨(by rw [List.length_append,List.length_singleton];unfold aN;omega),fun q'=>⟨_,.there (.there (.here _)),?_⟩⟩));conv=>whnf)
   rename_i qa;exact ⟨_,_,ah.trans (ah.nD (.cons (aa.refl _) (.cons (aa.lH (gz.snoc (.cons aa.sl .nil))) (.cons (aa.lH (gz.snoc (.cons aa.sl .nil))) (gT.refl _))))) (ah.trans (ah.drop (.here _)) (ah.drop (.here _))),_,(by omega),n+1,S++[N],T++[F],qa,q',by rw [List.map_append,List.map_append];rfl,rfl,rfl,by omega,hL.snoc hl nZ rV (by omega)⟩
  have XZ:n=12:=(by omega);subst XZ;(conv=>whnf);skip;exact ⟨S,T,hL,aa.aB (.cons aa.sl (.cons aa.sl .nil))⟩
 rintro v h1 ⟨S,T,hL,hv⟩;exact ⟨_,[],⟨S,T,hL,rfl,rfl⟩,hv,fun k o hm=>(by cases hm),fun _=>(by simp [keys])⟩
end Go.Abs.Wall.Spl
namespace Go.Abs.Wall.Spl
open Go Go.Abs Go.Proofs Go.Abs.Wall
theorem qO.short {E:Env} (hE:gk E) {m:Nat} {x:bA} (hx:gY E x) {rs:List cn} (h:qO E m x rs):∀ r∈rs,r.path.length<=12:=by intro r hr;obtain ⟨ρ,hρ⟩:=List.mem_iff_getElem?.1 hr;obtain ⟨w,h1,h2,h3⟩:=h.at_ ρ r hρ;have h4:=congrArg List.length h3;rw [List.length_map,List.length_map] at h4;have h5:=Ko hE _ x hx (Qf hE _ x hx rfl ρ w h1).1;have:=hx.n;omega
theorem qO.many {E:Env} {m:Nat} {x:bA} {rs:List cn} (h:qO E m x rs):rs.length<=m:=by rw [h.len,List.length_take];omega
theorem qO.cost {E:Env} (hE:gk E) {m:Nat} {x:bA} (hx:gY E x) {rs:List cn} (h:qO E m x rs):∀ r∈rs,0<=mY r/\mY r<=1000000:=by intro r hr;have hs:=h.short hE hx r hr;obtain ⟨ρ,hρ⟩:=List.mem_iff_getElem?.1 hr;obtain ⟨w,h1,h2,h3⟩:=h.at_ ρ r hρ;have h4:=Dj hE _ x hx rfl w (List.mem_of_getElem? h1);have:=hx.n;unfold dm at h2;have h5:(12 - x.n).toNat<=12:=(by omega);omega
def zw (r:cn):Spl:=⟨r.path.map (·.sign),r.path.map (·.use),mY r⟩
theorem Ya {E:Env} (hE:gk E) {m:Nat} {rs:List cn} (h:qO E m gm rs):rs.map zw=gn E m:=by
 unfold gn;refine List.ext_getElem? fun ρ=>?_;rw [List.getElem?_map,List.getElem?_map];cases hr:rs[ρ]? with
 | none=>
   rw [List.getElem?_eq_none_iff,h.len] at hr;rw [List.getElem?_eq_none hr];rfl
 | some r=>
   have hl:=(List.getElem?_eq_some_iff.1 hr).1;rw [h.len,List.length_take] at hl;obtain ⟨w,h1,h2,h3⟩:=h.at_ ρ r hr;have hs:=h.short hE zm r (List.mem_of_getElem? hr);rw [List.getElem?_take_of_lt (by omega),h1];show some (zw r)=some (uC E w);congr 1;unfold zw uC;have e1:r.path.map (·.sign)=(mT E gm w).map (·.sign):=by have e:=congrArg (List.map (·.1)) h3;rw [List.map_map,List.map_map] at e;exact e
   have e2:r.path.map (·.use)=(mT E gm w).map (·.use):=by have e:=congrArg (List.map (·.2)) h3;rw [List.map_map,List.map_map] at e;exact e
   have e3:mY r=w.cost / 16:=by unfold dm at h2;omega
   rw [e1,e2,e3]
theorem Kx (t:fF) (r:cn):ch (gF t r)=[.ai (.int .i64 (t.cost+mY r)::.int .i64 (1+(r.path.length:Int))::(oX t++[.ai (oQ r)]))]:=by
 have h1:mY (gF t r)=t.cost+mY r:=by show r.fin+((t::r.path).map (·.cost)).sum=t.cost+(r.fin+(r.path.map (·.cost)).sum);rw [List.map_cons,List.sum_cons];omega
 have h2:(((gF t r).path.length:Nat):Int)=1+(r.path.length:Int):=by show (((t::r.path).length:Nat):Int)=_;rw [List.length_cons];push_cast;omega
 show [AV.ai (.int .i64 (mY (gF t r))::.int .i64 ((gF t r).path.length:Nat)::vm r.fin (t::r.path))]=_;rw [h1,h2];rfl
def gq (Bh:List (List cn)) (row:List fF):List (List cn):=row.map fun t=>(Bh.getD t.to []).map (gF t)
def Bb (E:Env) (P:List (List UInt8)) (m:Nat) (n:Nat) (l:List RS) (Bh:List (List cn)):Prop:=∀ (i:Nat) s rs,l[i]?=some s->Bh[i]?=some rs->qO E m (toS P n s) rs
theorem Bb.snoc {E:Env} {P:List (List UInt8)} {m n:Nat} {l:List RS} {Bh:List (List cn)} (h:Bb E P m n l Bh) {s:RS} (hs:l[Bh.length]?=some s) {rs:List cn} (hr:qO E m (toS P n s) rs):Bb E P m n l (Bh++[rs]):=by
 intro j s2 Ks h1 h2;by_cases hj:j<Bh.length
 ·rw [List.getElem?_append_left hj] at h2;exact h j s2 Ks h1 h2
 by_cases e:j=Bh.length
 ·subst e;rw [List.getElem?_append_right (Nat.le_refl _),Nat.sub_self] at h2;cases h2
  rw [hs] at h1;cases h1
  exact hr
 rw [List.getElem?_eq_none (by rw [List.length_append,List.length_singleton];omega)] at h2;cases h2
theorem Ky {E:Env} {P:List (List UInt8)} {m n:Nat} {l':List RS} {Bh:List (List cn)} (hB:Bb E P m (n+1) l' Bh) (nN:Bh.length=l'.length) {x:bA} {row:List fF} (hr:kC P n l' row (di E x)):Kl E m x (gq Bh row):=by
 refine ⟨by unfold gq;rw [List.length_map];exact hr.len,fun i l mv h1 h2=>?_⟩;unfold gq at h1;rw [List.getElem?_map] at h1;cases ht:row[i]? with
 | none=>rw [ht] at h1;cases h1
 | some t=>
   rw [ht] at h1;have h1:(Bh.getD t.to []).map (gF t)=l:=(by simpa using h1);have ax:=hr.get ht h2;obtain ⟨r,g1,g2⟩:=ax.to;have gl:=(List.getElem?_eq_some_iff.1 g1).1;obtain ⟨rs,bf⟩:=aF (l:=Bh) (i:=t.to) (by omega);have aV:=hB _ _ _ g1 bf;have hn:((n+1:Nat):Int)=(n:Int)+1:=by push_cast;rfl
   rw [hn,g2] at aV;rw [List.getD_eq_getElem?_getD,bf] at h1;exact ⟨t,rs,ax.two,ax.cost,aV,h1.symm⟩
theorem Kz {E:Env} {m:Nat} {x:bA} (hx:x.n=12):Kl E m x []:=by refine ⟨?_,fun i l mv h1 h2=>(by cases h1)⟩;unfold di;rw [if_pos hx];rfl
end Go.Abs.Wall.Spl
