/- Small laws for the walks and contracts of functions; each theorem names its conditions. -/
import Derived.Test.YthmcbjcgdfmmaaaGreatN7
import Derived.Test.YthmcbjcgdfmmaaaGreatN8
set_option maxRecDepth 100000
set_option maxHeartbeats 2000000
namespace Go.Abs.Wall
open Go Go.Abs Go.Proofs
def CO (H:aD) (s:Sp) (cl:List Int):List Int->List az->List bU->Bool
 | n::t,u::us,st=>(gM H n).any (sU u)&&CO H s cl t us (st.flatMap fun p=>bk s p u)
 | _,_,st=>st.any fun p=>sI s p&&decide (p.cl=cl)
def cL (H:aD) (f:br):Sp:=⟨H,bY H.lex f.entry,pd H.lex f.entry f.ending⟩
def tY (H:aD) (line:List Int) (w:eJ):Bool:=(bL line.length 1 12&&decide (line.length=w.ay.length))&&CO H (cL H w.form) w.form.ao line w.ay [jj]
def zr (H:aD) (line:List Int) (w:eJ):Int:=
 if gN H line≠0 then gN H line else if fC H.lex w.form≠0 then fC H.lex w.form else if tY H line w=true then 0 else 51
def Rc (H:aD) (line:List Int) (w:eJ):Int:=if zr H line w=0 then nT H w else 0
end Go.Abs.Wall
namespace Go.Abs.Wall
open Go Go.Abs Go.Proofs
structure Es where
 form:br
 part:List UInt8
 done:Int
 all:List UInt8
 closed:Bool
 ay:List az
def er (h:Es):List AV:=[.int .i64 h.form.entry,.int .i64 h.form.ending,.sl 1 none (ints h.form.ao),.str h.part,.int .i64 h.done,.str h.all,.bool h.closed,.sl 2 none (h.ay.map aU)]
def nj (s:Sp) (cl:List Int):List UInt8:=match cl.getLast? with
 | some c=>(cS s.H.lex c).text
 | none=>s.body
def iP (s:Sp) (cl:List Int):Nat:=(dQ s cl).length - (nj s cl).length
def fG (s:Sp) (f:br) (p:bU) (T:List az):Es:=⟨⟨f.entry,f.ending,p.cl⟩,nj s p.cl,(p.bX.length:Int) - iP s p.cl,p.bX,p.closed,T⟩
theorem Et (s:Sp) (cl:List Int) (c:Int):nj s (cl++[c])=(cS s.H.lex c).text:=by unfold nj;simp
theorem Mw (s:Sp) (cl:List Int):∃ pre,dQ s cl=pre++nj s cl/\pre.length=iP s cl:=by
 rcases List.eq_nil_or_concat cl with rfl|⟨l,c,bq⟩
 ·refine ⟨[],?_,?_⟩
  ·simp [dQ,ku,nj]
  simp [iP,dQ,ku,nj]
 rw [List.concat_eq_append] at bq;subst bq;refine ⟨dQ s l,?_,?_⟩
 ·rw [Et,Bz]
 unfold iP;rw [Et,Bz,List.length_append];omega
theorem Mx (s:Sp) (cl:List Int) (c:Int):iP s (cl++[c])=(dQ s cl).length:=by unfold iP;rw [Et,Bz,List.length_append];omega
structure uZ (s:Sp) (p:bU) (T:List az):Prop where
 ok:kL s p
 base:iP s p.cl<=p.bX.length
 new:T=[]->p.last.kind=0
 last:T≠[]->T.getLast?=some p.last/\p.last.kind≠0
 bB:T.length<=12
 len:p.last.text.length<=8
theorem uZ.part {s:Sp} {p:bU} {T:List az} (h:uZ s p T):lS s p=(nj s p.cl).drop ((p.bX.length:Int) - iP s p.cl).toNat/\(p.bX.length:Int) - iP s p.cl<=(nj s p.cl).length:=by obtain ⟨pre,h1,h2⟩:=Mw s p.cl;have h3:=h.base;have h4:=h.ok.bX;rw [h1,List.length_append] at h4;refine ⟨?_,by omega⟩;unfold lS;rw [h1,List.drop_append,List.drop_eq_nil_of_le (by omega),List.nil_append];congr 1;omega
theorem TJ {s:Sp} {p:bU} {u:az} {T:List az} (hp:uZ s p T) (hu:kK u) (he:p.bX.length=(dQ s p.cl).length):∀ (l:List kU) (c:Int),∀ q∈iK p u l c,iP s q.cl<=q.bX.length/\q.last=u
 | [],_,q,hq=>by cases hq
 | k::t,c,q,hq=>by
   unfold iK at hq;rcases List.mem_append.1 hq with hq|hq
   ·split at hq
    ·cases List.mem_singleton.1 hq
     refine ⟨?_,rfl⟩;show iP s (p.cl++[c])<=(p.bX++u.text).length;rw [Mx,List.length_append];omega
    cases hq
   exact TJ hp hu he t (c+1) q hq
theorem Ic {s:Sp} {p:bU} {u:az} {T:List az} (hs:lW s) (hp:uZ s p T) (hu:kK u) (hT:T.length<12):∀ q∈bk s p u,uZ s q (T++[u]):=by
 intro q hq;have hk:u.kind≠0:=by have:=hu.1;omega
 have aV:=wC hs hp.ok hu q hq
 have key:iP s q.cl<=q.bX.length/\q.last=u:=by
  unfold bk at hq;split at hq
  ·unfold lI at hq;split at hq
   ·split at hq
    ·cases List.mem_singleton.1 hq
     refine ⟨?_,rfl⟩;have:=hp.base;show iP s p.cl<=(p.bX++u.text).length;rw [List.length_append];omega
    cases hq
   rename_i h0;split at hq
   ·refine TJ hp hu ?_ _ _ q hq;have h1:=hp.ok.bX;simp only [ne_eq,Decidable.not_not] at h0;unfold lS at h0;rw [List.drop_eq_nil_iff] at h0;omega
   cases hq
  split at hq
  ·split at hq
   ·cases hq
   rename_i hb;cases List.mem_singleton.1 hq
   refine ⟨?_,rfl⟩;rw [Bool.not_eq_true] at hb;unfold uO at hb;simp only [Bool.or_eq_false_iff,Bool.not_eq_false',decide_eq_true_eq] at hb;have:=(hp.ok.new hb.1).1;show iP s p.cl<=_;rw [this];simp [iP,dQ,ku,nj]
  split at hq
  ·split at hq
   ·cases hq
   cases List.mem_singleton.1 hq
   exact ⟨hp.base,rfl⟩
  split at hq
  ·split at hq
   ·cases hq
   cases List.mem_singleton.1 hq
   exact ⟨hp.base,rfl⟩
  cases hq
 refine ⟨aV,key.1,fun h=>absurd h (by simp),fun _=>⟨by rw [key.2];simp,by rw [key.2];exact hk⟩,by rw [List.length_append,List.length_singleton];omega,by rw [key.2];exact hu.2.2.2⟩
theorem yw (s:Sp):uZ s jj []:=⟨Cb s,by simp [iP,dQ,ku,nj,jj],fun _=>rfl,fun h=>absurd rfl h,by simp,by simp [jj]⟩
def c180:av:=⟨[0,1,4],[],[],[],[],[]⟩
def c212:av:=⟨[0,1,4],[],[],[],[],[]⟩
def c181:av:=⟨[0,1,2,3,4,5,6,10,11],[],[10],[],[(2,[0,1,3,4,2,5,6,7],[])],[]⟩
def c182:av:=⟨[0,1,2,3,4,5,6,10],[],[5],[],[],[]⟩
def c138:av:=⟨[0,1,2,3,4,5,6,7,8,9,10,11,12,13,14,29,30,33,41,67,88,99,130,142,156,160,173,199],[],[9],[],[(7,[0,1,2,3,4,5,6,7],[]),(17,[0,1,2,3,4,5,6,7,8],[]),(18,[0,1,2,3,4,5,6,7,8,9,10,11,12,13,14,15,16,17,18],[])],[]⟩
def c136:av:=⟨[0,1,2],[],[],[],[],[]⟩
def c90:av:=⟨[0,1,2,3,6,7,19],[],[6],[],[(3,[0,1,2,3,4,5,6,7,8,9,10],[])],[]⟩
theorem My (t w:List UInt8) (ht:t.length<=aq) (hw:w.length<=aq):ab Tryz.prog 180 [.str t,.str w] [] (.bool (fN t w)):=by
 unfold aq at ht hw;refine aA (F:=Tryz.f180) c180 rfl rfl rfl mixed rfl fun X=>?_;(conv=>whnf);repeat ((refine And.intro ?_ ?_;(focus ((conv=>whnf);intro g0;have g0:=of_decide_eq_true g0;refine ⟨?_,?_,?_⟩<;>omega)));conv=>whnf)
 exact ⟨rfl,rfl⟩
theorem M3 (t w:List UInt8) (ht:t.length<=aq) (hw:w.length<=aq):ab Tryz.prog 212 [.str t,.str w] [] (.bool (oT t w)):=by
 unfold aq at ht hw;refine aA (F:=Tryz.f212) c212 rfl rfl rfl mixed rfl fun X=>?_;(conv=>whnf);repeat ((first|refine ⟨ag ⟨by omega,by omega⟩,?_⟩|(refine And.intro ?_ ?_;(focus ((conv=>whnf);intro g0;have g0:=of_decide_eq_true g0;refine ⟨?_,?_,?_⟩<;>omega))));conv=>whnf)
 refine ⟨congrArg AV.bool ?_,rfl⟩;unfold oT;rw [show (t.length:Int).toNat=t.length from rfl,List.take_length,show ((t.length:Int) - w.length).toNat=t.length - w.length by omega]
theorem BD (h:Es) (u:az) (part all:List UInt8) (d:Int) (hu:h.ay.length<=1048576) :
  ab Tryz.prog 181 [.agg (er h),.agg (aU u),.str part,.int .i64 d,.str all] [] (.agg (er ⟨h.form,part,d,all,h.closed,h.ay++[u]⟩)):=by
 refine ab.of (aA (F:=Tryz.f181) c181 rfl rfl rfl mixed rfl fun X=>?_);(conv=>whnf);intro b1;(conv=>whnf);intro b2;(conv=>whnf);repeat ((first|(refine ⟨(by simp;unfold aN;omega),fun q=>?_⟩)|(refine ⟨_,.here _,?_⟩)|(refine ⟨_,_,.there (.here _),aI,?_⟩)|(refine ⟨_,_,bj.there (.there (.here _)),⟨Nat.le_of_ble_eq_true rfl,rfl⟩,?_⟩)|refine ⟨_,_,.tail _ (.head _),rfl,?_⟩|refine ⟨_,_,.here _,aI,?_⟩|refine And.intro (by show aJ (aH Tryz.f181 _) _=true;decide +kernel) ?_);conv=>whnf)
 refine (show aa (.agg [.int .i64 h.form.entry,.int .i64 h.form.ending,.sl 1 none (ints h.form.ao),.str part,.int .i64 d,.str all,.bool h.closed,.sl 2 (some q) (h.ay.map aU++[aU u])]) (.agg (er ⟨h.form,part,d,all,h.closed,h.ay++[u]⟩)) from ?_);refine aa.agg (.cons (aa.refl _) (.cons (aa.refl _) (.cons (aa.refl _) (.cons (aa.refl _) (.cons (aa.refl _) (.cons (aa.refl _) (.cons (aa.refl _) (.cons ?_ .nil))))))));show aa _ (.sl 2 none ((h.ay++[u]).map aU));rw [List.map_append];exact aa.sl
theorem M4 (h:Es) (u:az) (l:az) (hl:h.ay.getLast?=some l) (hu:h.ay.length<=1048576) (ha:h.all.length<=aq) (zf:u.text.length<=aq) (aP:l.text.length<=aq) :
  ab Tryz.prog 182 [.agg (er h),.agg (aU u)] [] (.bool ((decide (l.kind=2)||(decide (l.kind=1)&&decide (2<=(l.text.length:Int))))&&decide ((u.text.length:Int)<=l.text.length)&&oT h.all u.text)):=by
 have aM:h.ay≠[]:=by intro e;rw [e] at hl;cases hl
 have hlen:0<h.ay.length:=List.length_pos_iff.2 aM;have hg:h.ay[h.ay.length - 1]?=some l:=(by rw [<- hl,List.getLast?_eq_getElem?]);refine aA (F:=Tryz.f182) c182 rfl rfl rfl mixed rfl fun X=>?_;(conv=>whnf);skip;refine cF (by simp;omega) ?_;(conv=>whnf);repeat ((first|(refine cp (h.ay.length - 1) (by simp;omega) hg ?_)|refine aY (M3 h.all u.text ha zf) ?_|(refine ⟨ag ⟨by simp;omega,by simp;omega⟩,?_⟩)|refine ⟨_,_,bj.here _,⟨Nat.le_of_ble_eq_true rfl,rfl⟩,?_⟩|intro (nb:Nat));conv=>whnf)
 exact ⟨rfl,rfl⟩
theorem M5 (h:Es) (u:az) (hl:h.ay=[]) :
  ab Tryz.prog 182 [.agg (er h),.agg (aU u)] [] (.bool false):=by
 refine aA (F:=Tryz.f182) c182 rfl rfl rfl mixed rfl fun X=>?_;(conv=>whnf);skip;refine cT (by rw [hl];rfl) ?_;(conv=>whnf);exact ⟨rfl,rfl⟩
theorem aa.one {k:Nat} {t:Option Nat} {x y:List AV} (h:cu x y):aa (.sl k t [x]) (.sl k none [y]):=by refine fun c u hu=>aa.sl c u (aa.lH (.cons h .nil) c u hu)
theorem M6 {t w:List UInt8} {d:Int}:fN ((t.take (t.length:Int).toNat).drop d.toNat) w=fN (t.drop d.toNat) w:=by rw [show (t.length:Int).toNat=t.length from rfl,List.take_length]
set_option maxHeartbeats 1000000 in
theorem Ie (s:Sp) (f:br) (p:bU) (T:List az) (u:az) (hs:lW s) (hp:uZ s p T) (hu:kK u) (he:s.e=bY s.H.lex f.entry) (hf:0<=f.entry/\f.entry<s.H.lex.entries.length) :
  ab Tryz.prog 138 [.agg (fo s.H.lex),.agg (er (fG s f p T)),.agg (aU u)] [] (.sl 8 none ((bk s p u).map fun q=>er (fG s f q (T++[u])))):=by
 have hb:=hs.body;have dG:=hp.ok.bB;have ej:=hp.ok.bX;have SO:=hs.dQ hp.ok.eh;have zf:=hu.2.2;obtain ⟨z,hh⟩:∃ z,z=fG s f p T:=⟨_,rfl⟩;rw [<- hh];have e1:z.form.entry=f.entry:=by rw [hh];rfl
 have e3:z.form.ao=p.cl:=by rw [hh];rfl
 have e4:z.part=nj s p.cl:=by rw [hh];rfl
 have e5:z.done=(p.bX.length:Int) - iP s p.cl:=by rw [hh];rfl
 have e6:z.all=p.bX:=by rw [hh];rfl
 have e7:z.closed=p.closed:=by rw [hh];rfl
 have e8:z.ay=T:=by rw [hh];rfl
 have fH:z.ay.length<=1048576:=by have:=hp.bB;rw [e8];omega
 have mc:u.text.length<=aq:=by unfold aq;omega
 have eQ:(z.all++u.text).length<=aq:=by rw [e6,List.length_append];unfold aq;omega
 have SP:=hs.lex.many.2.2;obtain ⟨HF,M7⟩:=hp.part;rw [<- e4,<- e5] at HF M7;have Z5:=hp.base;have Z6:z.part.length<=24:=by obtain ⟨pre,h1,h2⟩:=Mw s p.cl;have:=congrArg List.length h1;rw [List.length_append] at this;rw [e4];omega
 refine ab.of (aA (F:=Tryz.f138) c138 rfl rfl rfl mixed rfl fun X=>?_);(conv=>whnf);repeat ((first|(refine cp f.entry.toNat (by omega) (nY hf.1 hf.2) ?_)|(intro (b9:Nat))|refine ⟨_,_,bj.here _,⟨Nat.le_of_ble_eq_true rfl,rfl⟩,?_⟩);conv=>whnf)
 rcases (show u.kind=1\/u.kind=2\/u.kind=3\/u.kind=4 by have:=hu.1;have:=hu.2.1;omega) with hk|hk|hk|hk
 ·refine cT (by simp [hk]) ?_;have mP:bk s p u=lI s p u:=(by rw [bk,if_pos hk]);(conv=>whnf);skip;refine ⟨fun hw=>?_,fun hw=>?_⟩
  ·have hw:(!decide (z.done=(z.part.length:Int)))=true:=hw;rw [Bool.not_eq_true',decide_eq_false_iff_not] at hw;have hc:lS s p≠[]:=by rw [HF,ne_eq,List.drop_eq_nil_iff];omega
   have hm:bk s p u=if fN (lS s p) u.text=true then [⟨p.bX++u.text,p.closed,p.cl,u⟩] else []:=(by rw [mP,lI,if_pos hc]);have mU:=My ((z.part.take (z.part.length:Int).toNat).drop z.done.toNat) u.text (by simp;unfold aq;omega) mc;rw [M6,<- HF] at mU;(conv=>whnf);repeat ((first|refine ⟨ag ⟨by omega,by omega⟩,?_⟩|(refine aY mU ?_)|refine And.intro (by show aJ (aH Tryz.f138 _) _=true;decide +kernel) ?_);conv=>whnf)
   refine ⟨fun hq=>?_,fun hq=>?_⟩
   ·have hq:fN (lS s p) u.text=true:=hq;rw [hm,if_pos hq];(conv=>whnf);repeat ((first|refine ⟨ag ⟨by omega,by omega⟩,?_⟩|refine ab.k0 (BD z u z.part (z.all++u.text) (z.done+(u.text.length:Int)) fH) ?_|(refine ⟨ag eQ,?_⟩)|(refine ⟨Nat.le_of_ble_eq_true rfl,fun q3=>?_⟩));conv=>whnf)
    refine aa.one ?_;rw [hh];unfold er fG;simp only [List.length_append];rw [show (((p.bX.length+u.text.length:Nat):Int) - (iP s p.cl:Int))=(p.bX.length:Int) - iP s p.cl+u.text.length by omega];exact cu.refl _
   have hq:fN (lS s p) u.text=false:=hq;rw [hm,if_neg (by rw [hq];decide)];(conv=>whnf);skip;exact aa.nil (by decide)
  have hw:(!decide (z.done=(z.part.length:Int)))=false:=hw;rw [Bool.not_eq_false',decide_eq_true_eq] at hw;have hc:lS s p=[]:=by rw [HF,List.drop_eq_nil_iff];omega
  have ax:p.bX.length=(dQ s p.cl).length:=by unfold lS at hc;rw [List.drop_eq_nil_iff] at hc;omega
  have hm:bk s p u=if p.cl.length<3 then iK p u (s.H.lex.ao.drop (iY p.cl).toNat) (iY p.cl) else []:=(by rw [mP,lI,if_neg (by simpa using hc)]);have jv:=FD hp.ok;(conv=>whnf);skip;refine ⟨fun hn=>?_,fun hn=>?_⟩
  ·have hn:decide (0<((ints z.form.ao).length:Int))=true:=hn;rw [e3] at hn;simp at hn;obtain ⟨c,bq⟩:=aF (l:=z.form.ao) (i:=z.form.ao.length - 1) (by rw [e3];omega);have Mz:c+1=iY p.cl:=by unfold iY;rw [<- e3,List.getLast?_eq_getElem?,bq]
   (conv=>whnf);repeat ((first|refine ⟨ag ⟨by omega,by omega⟩,?_⟩|(refine cp (z.form.ao.length - 1) (by rw [cO,e3];omega) bq ?_)|(refine ⟨ag ⟨by rw [cO,e3];omega,by rw [cO,e3];omega⟩,?_⟩));conv=>whnf)
   refine bD rfl mixed [3,4,5,7,12] [] (fun m r h=>∃ (c:Int) (o:List bU) (v:AV) (hD:af),r=[(3,[],.ai (fo s.H.lex)),(4,[],.ai (er z)),(5,[],.ai (aU u)),(7,[],v),(12,[],.int .i64 c)]/\h=hD/\m=(s.H.lex.ao.length - c).toNat/\0<=c/\c<=s.H.lex.ao.length/\Out 8 (fun q=>er (fG s f q (T++[u]))) o v hD/\o.length<=c/\bk s p u=o++(if p.cl.length<3 then iK p u (s.H.lex.ao.drop c.toNat) c else [])) ?_ ?_
   ·(conv=>whnf);exact ⟨_,_,ah.refl _ _,_,iY p.cl,[],_,[],by rw [<- Mz],rfl,rfl,jv.1,jv.2,.inl ⟨rfl,rfl,rfl⟩,by simpa using jv.1,by rw [hm];rfl⟩
   rintro m r h' ⟨c,o,v,hD,rfl,rfl,rfl,lK,uG,hv,mL,bI⟩;have jt:o.length+1<=aN:=by have:=hs.lex.many;unfold aN;omega
   (conv=>whnf);skip;refine ⟨fun aG=>?_,fun aG=>?_⟩
   ·have dg:c<s.H.lex.ao.length/\p.cl.length<3:=by
     have aG:(decide (c<((s.H.lex.ao.map gU).length:Int))&&decide (((ints z.form.ao).length:Int)<3))=true:=aG;rw [e3] at aG;simp at aG;exact ⟨aG.1,by omega⟩
    have AR:=lP (hs.lex.cS lK dg.1).text;have bq:(cS s.H.lex c).text.length<=aq:=by unfold aq;omega
    rw [if_pos dg.2,drop_cons (kz lK dg.1),iK,show ((c.toNat:Nat)+1)=(c+1).toNat by omega] at bI;(conv=>whnf);repeat ((first|(refine cp c.toNat (by omega) (kz lK dg.1) ?_)|refine aY (My (cS s.H.lex c).text u.text bq mc) ?_|refine And.intro (by show aJ (aH Tryz.f138 _) _=true;decide +kernel) ?_);conv=>whnf)
    refine ⟨fun hq=>?_,fun hq=>?_⟩
    ·have hq:fN (cS s.H.lex c).text u.text=true:=hq;rw [if_pos hq] at bI;obtain ⟨qn,Eu⟩:∃ q:bU,q=⟨p.bX++u.text,p.closed,p.cl++[c],u⟩:=⟨_,rfl⟩;rw [<- Eu] at bI;have dM:er (fG s f qn (T++[u]))=[.int .i64 z.form.entry,.int .i64 z.form.ending,.sl 1 none (ints (p.cl++[c])),.str (cS s.H.lex c).text,.int .i64 u.text.length,.str (z.all++u.text),.bool z.closed,.sl 2 none ((z.ay++[u]).map aU)]:=by rw [Eu,hh];unfold er fG;simp only [Et,Mx,List.length_append];rw [show (((p.bX.length+u.text.length:Nat):Int) - ((dQ s p.cl).length:Int))=(u.text.length:Int) by omega]
     have hle:∀ t,cu [.int .i64 z.form.entry,.int .i64 z.form.ending,.sl 1 t (ints z.form.ao++[[.int .i64 c]]),.str (cS s.H.lex c).text,.int .i64 u.text.length,.str (z.all++u.text),.bool z.closed,.sl 2 none ((z.ay++[u]).map aU)] (er (fG s f qn (T++[u]))):=fun t=>by rw [dM,e3];exact .cons (aa.refl _) (.cons (aa.refl _) (.cons uN (cu.refl _)))
     rcases hv with ⟨MA,rfl,rfl⟩|⟨qv,rfl,rfl⟩
     all_goals
      (conv=>whnf);repeat ((first|refine ⟨ag ⟨by omega,by omega⟩,?_⟩|(refine cp c.toNat (by omega) (kz lK dg.1) ?_)|refine aY (BD z u (cS s.H.lex c).text (z.all++u.text) (u.text.length:Int) fH) ?_|(refine ⟨ag eQ,?_⟩)|(intro (M8:Nat))|(refine ⟨(by rw [e3];simp;unfold aN;omega),fun q3=>?_⟩)|(refine ⟨_,.here _,?_⟩)|(refine ⟨_,.there (.there (.here _)),?_⟩)|refine ⟨_,_,.tail _ (.head _),rfl,?_⟩|refine ⟨_,_,.here _,aI,?_⟩|refine ⟨_,_,.there (.here _),aI,?_⟩|refine And.intro (by show aJ (aH Tryz.f138 _) _=true;decide +kernel) ?_);conv=>whnf)
      refine ⟨[(3,[],.ai (fo s.H.lex)),(4,[],.ai (er z)),(5,[],.ai (aU u)),(7,[],.sl 8 (some q3) ((o++[qn]).map fun q=>er (fG s f q (T++[u])))),(12,[],.int .i64 (c+1))],[(q3,.tok)],?_,_,(by omega),c+1,_,_,[(q3,.tok)],rfl,rfl,rfl,by omega,by omega,.inr ⟨_,rfl,rfl⟩,by simp;omega,by rw [if_pos dg.2,bI,List.append_assoc]⟩;refine ah.one (.cons (aa.refl _) (.cons (aa.refl _) (.cons (aa.refl _) (.cons ?_ (gT.refl _))))) (by simp)
      first
       | (rw [MA];exact aa.lH (.cons (hle _) .nil))
       | (rw [List.map_append (f:=fun q=>er (fG s f q (T++[u])))];exact aa.lH (gz.snoc (hle _)))
    have hq:fN (cS s.H.lex c).text u.text=false:=hq;rw [if_neg (by rw [hq];decide),List.nil_append] at bI;(conv=>whnf);repeat (refine ⟨ag ⟨by omega,by omega⟩,?_⟩;conv=>whnf)
    exact ⟨_,_,ah.refl _ _,_,(by omega),c+1,o,_,_,rfl,rfl,rfl,by omega,by omega,hv,by omega,by rw [if_pos dg.2];exact bI⟩
   have zZ:bk s p u=o:=by
    rw [bI];have aG:(decide (c<((s.H.lex.ao.map gU).length:Int))&&decide (((ints z.form.ao).length:Int)<3))=false:=aG;rw [e3] at aG;simp at aG;split
    ·rename_i h3;rw [drop_nil (by omega)];simp [iK]
    simp
   rw [zZ];(conv=>whnf);skip;exact hv.le (by decide)
  have hn:decide (0<((ints z.form.ao).length:Int))=false:=hn;rw [e3] at hn;simp at hn;have Mz:(-1:Int)+1=iY p.cl:=by rw [hn];rfl
  (conv=>whnf);repeat (refine ⟨ag ⟨by omega,by omega⟩,?_⟩;conv=>whnf)
  refine bD rfl mixed [3,4,5,7,12] [] (fun m r h=>∃ (c:Int) (o:List bU) (v:AV) (hD:af),r=[(3,[],.ai (fo s.H.lex)),(4,[],.ai (er z)),(5,[],.ai (aU u)),(7,[],v),(12,[],.int .i64 c)]/\h=hD/\m=(s.H.lex.ao.length - c).toNat/\0<=c/\c<=s.H.lex.ao.length/\Out 8 (fun q=>er (fG s f q (T++[u]))) o v hD/\o.length<=c/\bk s p u=o++(if p.cl.length<3 then iK p u (s.H.lex.ao.drop c.toNat) c else [])) ?_ ?_
  ·(conv=>whnf);exact ⟨_,_,ah.refl _ _,_,iY p.cl,[],_,[],by rw [<- Mz],rfl,rfl,jv.1,jv.2,.inl ⟨rfl,rfl,rfl⟩,by simpa using jv.1,by rw [hm];rfl⟩
  rintro m r h' ⟨c,o,v,hD,rfl,rfl,rfl,lK,uG,hv,mL,bI⟩;have jt:o.length+1<=aN:=by have:=hs.lex.many;unfold aN;omega
  (conv=>whnf);skip;refine ⟨fun aG=>?_,fun aG=>?_⟩
  ·have dg:c<s.H.lex.ao.length/\p.cl.length<3:=by
    have aG:(decide (c<((s.H.lex.ao.map gU).length:Int))&&decide (((ints z.form.ao).length:Int)<3))=true:=aG;rw [e3] at aG;simp at aG;exact ⟨aG.1,by omega⟩
   have AR:=lP (hs.lex.cS lK dg.1).text;have bq:(cS s.H.lex c).text.length<=aq:=by unfold aq;omega
   rw [if_pos dg.2,drop_cons (kz lK dg.1),iK,show ((c.toNat:Nat)+1)=(c+1).toNat by omega] at bI;(conv=>whnf);repeat ((first|(refine cp c.toNat (by omega) (kz lK dg.1) ?_)|refine aY (My (cS s.H.lex c).text u.text bq mc) ?_|refine And.intro (by show aJ (aH Tryz.f138 _) _=true;decide +kernel) ?_);conv=>whnf)
   refine ⟨fun hq=>?_,fun hq=>?_⟩
   ·have hq:fN (cS s.H.lex c).text u.text=true:=hq;rw [if_pos hq] at bI;obtain ⟨qn,Eu⟩:∃ q:bU,q=⟨p.bX++u.text,p.closed,p.cl++[c],u⟩:=⟨_,rfl⟩;rw [<- Eu] at bI;have dM:er (fG s f qn (T++[u]))=[.int .i64 z.form.entry,.int .i64 z.form.ending,.sl 1 none (ints (p.cl++[c])),.str (cS s.H.lex c).text,.int .i64 u.text.length,.str (z.all++u.text),.bool z.closed,.sl 2 none ((z.ay++[u]).map aU)]:=by rw [Eu,hh];unfold er fG;simp only [Et,Mx,List.length_append];rw [show (((p.bX.length+u.text.length:Nat):Int) - ((dQ s p.cl).length:Int))=(u.text.length:Int) by omega]
    have hle:∀ t,cu [.int .i64 z.form.entry,.int .i64 z.form.ending,.sl 1 t (ints z.form.ao++[[.int .i64 c]]),.str (cS s.H.lex c).text,.int .i64 u.text.length,.str (z.all++u.text),.bool z.closed,.sl 2 none ((z.ay++[u]).map aU)] (er (fG s f qn (T++[u]))):=fun t=>by rw [dM,e3];exact .cons (aa.refl _) (.cons (aa.refl _) (.cons uN (cu.refl _)))
    rcases hv with ⟨MA,rfl,rfl⟩|⟨qv,rfl,rfl⟩
    all_goals
     (conv=>whnf);repeat ((first|refine ⟨ag ⟨by omega,by omega⟩,?_⟩|(refine cp c.toNat (by omega) (kz lK dg.1) ?_)|refine aY (BD z u (cS s.H.lex c).text (z.all++u.text) (u.text.length:Int) fH) ?_|(refine ⟨ag eQ,?_⟩)|(intro (M8:Nat))|(refine ⟨(by rw [e3];simp;unfold aN;omega),fun q3=>?_⟩)|(refine ⟨_,.here _,?_⟩)|(refine ⟨_,.there (.there (.here _)),?_⟩)|refine ⟨_,_,.tail _ (.head _),rfl,?_⟩|refine ⟨_,_,.here _,aI,?_⟩|refine ⟨_,_,.there (.here _),aI,?_⟩|refine And.intro (by show aJ (aH Tryz.f138 _) _=true;decide +kernel) ?_);conv=>whnf)
     refine ⟨[(3,[],.ai (fo s.H.lex)),(4,[],.ai (er z)),(5,[],.ai (aU u)),(7,[],.sl 8 (some q3) ((o++[qn]).map fun q=>er (fG s f q (T++[u])))),(12,[],.int .i64 (c+1))],[(q3,.tok)],?_,_,(by omega),c+1,_,_,[(q3,.tok)],rfl,rfl,rfl,by omega,by omega,.inr ⟨_,rfl,rfl⟩,by simp;omega,by rw [if_pos dg.2,bI,List.append_assoc]⟩;refine ah.one (.cons (aa.refl _) (.cons (aa.refl _) (.cons (aa.refl _) (.cons ?_ (gT.refl _))))) (by simp)
     first
      | (rw [MA];exact aa.lH (.cons (hle _) .nil))
      | (rw [List.map_append (f:=fun q=>er (fG s f q (T++[u])))];exact aa.lH (gz.snoc (hle _)))
   have hq:fN (cS s.H.lex c).text u.text=false:=hq;rw [if_neg (by rw [hq];decide),List.nil_append] at bI;(conv=>whnf);repeat (refine ⟨ag ⟨by omega,by omega⟩,?_⟩;conv=>whnf)
   exact ⟨_,_,ah.refl _ _,_,(by omega),c+1,o,_,_,rfl,rfl,rfl,by omega,by omega,hv,by omega,by rw [if_pos dg.2];exact bI⟩
  have zZ:bk s p u=o:=by
   rw [bI];have aG:(decide (c<((s.H.lex.ao.map gU).length:Int))&&decide (((ints z.form.ao).length:Int)<3))=false:=aG;rw [e3] at aG;simp at aG;split
   ·rename_i h3;rw [drop_nil (by omega)];simp [iK]
   simp
  rw [zZ];(conv=>whnf);skip;exact hv.le (by decide)
 ·refine cF (by simp [hk]) ?_;have mP:bk s p u=if uO s p u=true then [] else [⟨u.text,p.closed,p.cl,u⟩]:=by rw [bk,if_neg (by omega),if_pos hk]
  have hz:(decide (((z.ay.map aU).length:Int)=0)&&decide (u.text=(bY s.H.lex f.entry).root))=!uO s p u:=by
   unfold uO;rw [<- he,Bool.not_or,Bool.not_not,Bool.not_not,List.length_map,e8];congr 1;rw [decide_eq_decide];refine ⟨fun h=>hp.new (List.eq_nil_of_length_eq_zero (by omega)),fun h=>?_⟩;by_cases hT:T=[]
   ·rw [hT];rfl
   exact absurd h (hp.last hT).2
  (conv=>whnf);skip;refine cT (by simp [hk]) ?_;(conv=>whnf);skip;refine ⟨fun hq=>?_,fun hq=>?_⟩
  ·have hq:=hz.symm.trans hq;rw [Bool.not_eq_true'] at hq;rw [mP,if_neg (by rw [hq];decide)];have dw:p.last.kind=0:=by unfold uO at hq;simp only [Bool.or_eq_false_iff,Bool.not_eq_false',decide_eq_true_eq] at hq;exact hq.1
   have M9:=(hp.ok.new dw).1;(conv=>whnf);repeat ((first|refine ab.k0 (BD z u z.part u.text (u.text.length:Int) fH) ?_|(refine ⟨Nat.le_of_ble_eq_true rfl,fun q3=>?_⟩));conv=>whnf)
   refine aa.one ?_;rw [hh];unfold er fG;simp only;rw [show (u.text.length:Int) - (iP s p.cl:Int)=u.text.length by rw [M9];simp [iP,dQ,ku,nj]];exact cu.refl _
  have hq:=hz.symm.trans hq;rw [Bool.not_eq_false'] at hq;rw [mP,if_pos hq];(conv=>whnf);skip;exact aa.nil (by decide)
 ·refine cF (by simp [hk]) ?_;have mP:bk s p u=if sq p u=true then [] else [⟨p.bX,p.closed,p.cl,u⟩]:=by rw [bk,if_neg (by omega),if_neg (by omega),if_pos hk]
  have jM:ab Tryz.prog 182 [.agg (er z),.agg (aU u)] [] (.bool (!sq p u)):=by
   by_cases hT:T=[]
   ·have dw:=hp.new hT;have:sq p u=true:=by unfold sq Mb;rw [dw];rfl
    rw [this];exact M5 z u (by rw [e8,hT])
   obtain ⟨h1,h2⟩:=hp.last hT;have:=M4 z u p.last (by rw [e8];exact h1) fH (by rw [e6];unfold aq;omega) mc (by have:=hp.len;unfold aq;omega);rw [e6] at this;have hz:((decide (p.last.kind=2)||(decide (p.last.kind=1)&&decide (2<=(p.last.text.length:Int))))&&decide ((u.text.length:Int)<=p.last.text.length)&&oT p.bX u.text)=!sq p u:=by unfold sq Mb;rw [Bool.not_or,Bool.not_or,Bool.not_not,Bool.not_not];congr 2;rw [Bool.eq_iff_iff];simp
   rw [hz] at this;exact this
  (conv=>whnf);skip;refine cF (by simp [hk]) ?_;(conv=>whnf);skip;refine cT (by simp [hk]) ?_;(conv=>whnf);repeat ((refine ab.k0 jM ?_);conv=>whnf)
  refine ⟨fun hq=>?_,fun hq=>?_⟩
  ·have hq:(!sq p u)=true:=hq;rw [Bool.not_eq_true'] at hq;rw [mP,if_neg (by rw [hq];decide)];(conv=>whnf);repeat ((first|refine ab.k0 (BD z u z.part z.all z.done fH) ?_|(refine ⟨Nat.le_of_ble_eq_true rfl,fun q3=>?_⟩));conv=>whnf)
   refine aa.one ?_;rw [hh];exact cu.refl _
  have hq:(!sq p u)=false:=hq;rw [Bool.not_eq_false'] at hq;rw [mP,if_pos hq];(conv=>whnf);skip;exact aa.nil (by decide)
 refine cF (by simp [hk]) ?_;have mP:bk s p u=if Aa s p u=true then [] else [⟨p.bX,true,p.cl,u⟩]:=by rw [bk,if_neg (by omega),if_neg (by omega),if_neg (by omega),if_pos hk]
 have hz:(decide (z.done=(z.part.length:Int))&&decide (((ints z.form.ao).length:Int)=0)&&!z.closed&&!decide ((bY s.H.lex f.entry).cls=[])&&decide (u.text=(bY s.H.lex f.entry).cls))=!Aa s p u:=by
  unfold Aa;rw [<- he,e3,e4,e5,e7,cO];by_cases bq:p.cl=[]
  ·have h1:((p.bX.length:Int) - iP s p.cl=((nj s p.cl).length:Int))↔((p.bX.length:Int)=s.body.length):=by
    rw [bq];simp [iP,dQ,ku,nj]
   rw [decide_eq_decide.2 h1,bq];cases p.closed<;>cases decide (s.e.cls=[])<;>cases decide (u.text=s.e.cls)<;>cases decide ((p.bX.length:Int)=s.body.length)<;>rfl
  have h1:0<p.cl.length:=List.length_pos_iff.2 bq;rw [decide_eq_false (show ¬ ((p.cl.length:Int)=0) by omega),decide_eq_true (show (0:Int)<p.cl.length by omega)];simp
 (conv=>whnf);skip;refine cF (by simp [hk]) ?_;(conv=>whnf);skip;refine cF (by simp [hk]) ?_;(conv=>whnf);skip;refine cT (by simp [hk]) ?_;(conv=>whnf);skip;refine ⟨fun hq=>?_,fun hq=>?_⟩
 ·have hq:=hz.symm.trans hq;rw [Bool.not_eq_true'] at hq;rw [mP,if_neg (by rw [hq];decide)];(conv=>whnf);repeat ((first|refine ab.k0 (BD z u z.part z.all z.done fH) ?_|(refine ⟨Nat.le_of_ble_eq_true rfl,fun q3=>?_⟩)|(intro (bt:Nat))|refine ⟨_,_,.head _,rfl,?_⟩|refine ⟨_,_,.here _,aI,?_⟩);conv=>whnf)
  refine aa.one (x:=[.int .i64 z.form.entry,.int .i64 z.form.ending,.sl 1 none (ints z.form.ao),.str z.part,.int .i64 z.done,.str z.all,.bool true,.sl 2 none ((z.ay++[u]).map aU)]) ?_;rw [hh];exact cu.refl _
 have hq:=hz.symm.trans hq;rw [Bool.not_eq_false'] at hq;rw [mP,if_pos hq];(conv=>whnf);skip;exact aa.nil (by decide)
end Go.Abs.Wall
namespace Go.Abs.Wall
open Go Go.Abs Go.Proofs
def c137:av:=⟨[0,1,2,3,4,5,7,8,31,39,40,47,54,61,68],[],[],[],[],[]⟩
theorem Uk (s:Sp) (f:br) (p:bU) (T:List az) (hp:uZ s p T):ab Tryz.prog 136 [.agg (er (fG s f p T))] [] (.bool (sI s p&&decide (0<(T.length:Int)))):=by refine aA (F:=Tryz.f136) c136 rfl rfl rfl mixed rfl fun X=>?_;(conv=>whnf);skip;refine ⟨congrArg AV.bool ?_,rfl⟩;show (decide ((p.bX.length:Int) - iP s p.cl=((nj s p.cl).length:Int))&&decide (0<((T.map aU).length:Int)))=_;rw [List.length_map];congr 1;unfold sI;rw [decide_eq_decide];obtain ⟨pre,h1,h2⟩:=Mw s p.cl;have h3:=congrArg List.length h1;rw [List.length_append] at h3;have h4:=hp.base;omega
theorem Ur (H:aD) (f:br) (hx:pW H.lex) (hf:0<=f.entry/\f.entry<H.lex.entries.length) (hn:f.ending<H.lex.bM.length) (bq:True) :
  ab Tryz.prog 90 [.agg (fo H.lex),.int .i64 f.entry,.int .i64 f.ending] [] (.agg (er (fG (cL H f) f jj []))):=by
 have hr:=lP (hx.bY hf.1 hf.2).root;have h0:fG (cL H f) f jj []=⟨⟨f.entry,f.ending,[]⟩,pd H.lex f.entry f.ending,0,[],false,[]⟩:=by unfold fG jj;simp [nj,iP,dQ,ku,cL]
 rw [h0];refine ab.of (aA (F:=Tryz.f90) c90 rfl rfl rfl mixed rfl fun X=>?_);(conv=>whnf);intro b1;(conv=>whnf);repeat ((first|(refine cp f.entry.toNat (by omega) (nY hf.1 hf.2) ?_)|(intro (b2:Nat))|refine ⟨_,_,.here _,aI,?_⟩);conv=>whnf)
 refine ⟨fun he=>?_,fun he=>?_⟩<;>simp at he
 ·have ht:=lP (hx.gG he hn).text;have hb:pd H.lex f.entry f.ending=(bY H.lex f.entry).root++(gG H.lex f.ending).text:=(by rw [pd,if_neg (by omega)]);(conv=>whnf);repeat ((first|(refine cp f.ending.toNat (by omega) (zt he hn) ?_)|(refine ⟨ag (by rw [List.length_append];unfold aq;omega),?_⟩)|(refine ⟨⟨Nat.le_of_ble_eq_true rfl,rfl⟩,?_⟩)|refine ⟨_,_,bj.there (.here _),?_⟩|refine ⟨_,_,.head _,rfl,?_⟩|refine ⟨_,_,.here _,aI,?_⟩|refine And.intro (by show aJ (aH Tryz.f90 _) _=true;decide +kernel) ?_);conv=>whnf)
  rw [hb];exact aa.agg (.cons (aa.refl _) (.cons (aa.refl _) (.cons (aa.nil (k:=1) (by decide)) (.cons (aa.refl _) (.cons (aa.refl _) (.cons (aa.refl _) (.cons (aa.refl _) (.cons (aa.nil (k:=2) (by decide)) .nil))))))))
 have hb:pd H.lex f.entry f.ending=(bY H.lex f.entry).root:=(by rw [pd,if_pos he]);(conv=>whnf);repeat ((first|(refine ⟨⟨Nat.le_of_ble_eq_true rfl,rfl⟩,?_⟩)|refine ⟨_,_,bj.there (.here _),?_⟩|refine ⟨_,_,.head _,rfl,?_⟩);conv=>whnf)
 rw [hb];exact aa.agg (.cons (aa.refl _) (.cons (aa.refl _) (.cons (aa.nil (k:=1) (by decide)) (.cons (aa.refl _) (.cons (aa.refl _) (.cons (aa.refl _) (.cons (aa.refl _) (.cons (aa.nil (k:=2) (by decide)) .nil))))))))
theorem Ul (H:aD) (w:eJ) (hx:rT H.lex) (hH:kc H) (hf:w.form.ao.length<=aq) (he:0<=w.form.entry/\w.form.entry<H.lex.entries.length) (hu:w.ay.length<=1048576) :
  ab Tryz.prog 137 [.agg (aZ H),.agg (cG w)] [] (.int .i64 (nT H w)):=by
 have E0:=Md (x:=H.lex) (f:=w.form);have cR:=hH.cC H.cC.oW (by simp [iq]);refine aA (F:=Tryz.f137) c137 rfl rfl rfl mixed rfl fun X=>?_;(conv=>whnf);repeat ((first|refine ab.k0 (QV H.lex w.form hx hf) ?_|(refine cp w.form.entry.toNat (by omega) (nY he.1 he.2) ?_));conv=>whnf)
 refine bS rfl mixed [2,3,5,7,8] [] (fun m r h=>∃ (i:Nat) (n:Int) (cl:Bool),r=[(2,[],.ai (aZ H)),(3,[],.ai (cG w)),(5,[],.int .i64 n),(7,[],.bool (!decide ((bY H.lex w.form.entry).cls=[])&&!cl)),(8,[],.int .i64 i)]/\h=[]/\m=w.ay.length - i/\i<=w.ay.length/\n=vR H.lex w.form+sr H.cC (w.ay.take i)/\cl=xT (w.ay.take i)) ?_ ?_
 ·(conv=>whnf);exact ⟨_,0,vR H.lex w.form,false,by rw [Bool.not_false,Bool.and_true];rfl,rfl,rfl,by omega,by simp [sr],by simp [xT]⟩
 rintro m r h' ⟨i,n,cl,rfl,rfl,rfl,hi,hn,bq⟩;have hb:=Dw hH (w.ay.take i);rw [List.length_take] at hb;(conv=>whnf);skip;refine ⟨fun aG=>?_,fun aG=>?_⟩<;>simp at aG
 ·obtain ⟨u,dK⟩:=aF aG;have ly:=cN dK;have eW:=Mc hH u;have fZ:=SS (c:=H.cC) (l:=w.ay.take i) (u:=u);have fl:=SU (l:=w.ay.take i) (u:=u);rw [<- ly] at fZ fl;unfold Ab at fZ eW;(conv=>whnf);repeat (refine ix (by assumption) ?_;conv=>whnf)
  refine ⟨fun hk=>?_,fun hk=>?_⟩<;>simp only [decide_eq_true_eq,decide_eq_false_iff_not] at hk
  ·rw [if_pos hk] at fZ eW;(conv=>whnf);repeat (refine ⟨ag ⟨by omega,by omega⟩,?_⟩;conv=>whnf)
   exact ⟨_,by omega,i+1,_,_,rfl,rfl,rfl,by omega,by rw [fZ,hn];show _+_=_;omega,by rw [fl,bq,decide_eq_false (by omega),Bool.or_false]⟩
  rw [if_neg hk] at fZ eW;(conv=>whnf);skip;refine ⟨fun bg=>?_,fun bg=>?_⟩<;>simp only [decide_eq_true_eq,decide_eq_false_iff_not] at bg
  ·rw [if_pos bg] at fZ eW;(conv=>whnf);repeat (refine ⟨ag ⟨by omega,by omega⟩,?_⟩;conv=>whnf)
   exact ⟨_,by omega,i+1,_,_,rfl,rfl,rfl,by omega,by rw [fZ,hn];show _+_=_;omega,by rw [fl,bq,decide_eq_false (by omega),Bool.or_false]⟩
  rw [if_neg bg] at fZ eW;(conv=>whnf);skip;refine ⟨fun jT=>?_,fun jT=>?_⟩<;>simp only [decide_eq_true_eq,decide_eq_false_iff_not] at jT
  ·rw [if_pos jT] at fZ eW;(conv=>whnf);repeat (refine ⟨ag ⟨by omega,by omega⟩,?_⟩;conv=>whnf)
   exact ⟨_,by omega,i+1,_,_,rfl,rfl,rfl,by omega,by rw [fZ,hn];show _+_=_;omega,by rw [fl,bq,decide_eq_false (by omega),Bool.or_false]⟩
  rw [if_neg jT] at fZ eW;(conv=>whnf);skip;refine ⟨fun rj=>?_,fun rj=>?_⟩<;>simp only [decide_eq_true_eq,decide_eq_false_iff_not] at rj
  ·rw [if_pos rj] at fZ eW;(conv=>whnf);repeat (refine ⟨ag ⟨by omega,by omega⟩,?_⟩;conv=>whnf)
   exact ⟨_,by omega,i+1,n+H.cC.cls,true,by rw [Bool.not_true,Bool.and_false];rfl,rfl,rfl,by omega,by rw [fZ,hn];show _+_=_;omega,by rw [fl,decide_eq_true rj,Bool.or_true]⟩
  rw [if_neg rj] at fZ eW;(conv=>whnf);repeat (refine ⟨ag ⟨by omega,by omega⟩,?_⟩;conv=>whnf)
  exact ⟨_,by omega,i+1,_,_,rfl,rfl,rfl,by omega,by rw [fZ,hn];omega,by rw [fl,bq,decide_eq_false rj,Bool.or_false]⟩
 rw [List.take_of_length_le aG] at hn bq hb;(conv=>whnf);skip;refine ⟨fun hq=>?_,fun hq=>?_⟩
 ·have hq:(!decide ((bY H.lex w.form.entry).cls=[])&&!cl)=true:=hq;rw [bq,Bool.and_comm] at hq;(conv=>whnf);repeat (refine ⟨ag ⟨by omega,by omega⟩,?_⟩;conv=>whnf)
  refine ⟨congrArg (AV.int .i64) ?_,rfl⟩;rw [nT,if_pos hq,hn]
 have hq:(!decide ((bY H.lex w.form.entry).cls=[])&&!cl)=false:=hq;rw [bq,Bool.and_comm] at hq;(conv=>whnf);skip;refine ⟨congrArg (AV.int .i64) ?_,rfl⟩;rw [nT,if_neg (by rw [hq];decide),hn];omega
theorem UG {H:aD} (hh:dx H) (h0:fA H=0) {line:List Int} (hl:line.length<=aq):ab Tryz.prog 46 [.agg (pU H.list),.sl 1 none (ints line)] [] (.int .i64 (gN H line)):=by have:=J0 H.list line hh.list hl;rwa [show fX H.list line=gN H line by rw [gN,if_neg (by omega)];rfl] at this
end Go.Abs.Wall
namespace Go.Abs.Wall
open Go Go.Abs Go.Proofs
end Go.Abs.Wall
namespace Go.Abs.Wall
open Go Go.Abs Go.Proofs
def pZ:List Int->List Int->Int
 | x::s,y::t=>if x≠y then x - y else pZ s t
 | s,t=>(s.length:Int) - t.length
def tM (a b:br):Int:=if a.entry≠b.entry then a.entry - b.entry else if a.ending≠b.ending then a.ending - b.ending else pZ a.ao b.ao
structure MB (f:br):Prop where
 entry:-1<=f.entry/\f.entry<=1048576
 ending:-1<=f.ending/\f.ending<=1048576
 cl:∀ c∈f.ao,-1<=c/\c<=1048576
 bB:f.ao.length<=1048576
def c139:av:=⟨[0,1,2,3,4,5,10,20,37,50],[],[],[],[(8,[0,1,2,3,4,5,6,7,8,9,10],[]),(9,[0,1,2,3,4,5,6,7,8,9,10,11],[])],[]⟩
def c91:av:=⟨[0,1,2,3,4,5,6,13,27,34,47],[],[],[],[(9,[0,1,2,3,4,5,6,7,8,9,10],[]),(10,[0,1,2,3,4,5,6,7,8,9,10,11],[])],[]⟩
theorem N0 (a b:br) (ha:MB a) (hb:MB b):ab Tryz.prog 139 [.agg (dt a),.agg (dt b)] [] (.int .i64 (tM a b)):=by
 have h1:=ha.entry;have h2:=hb.entry;have h3:=ha.ending;have h4:=hb.ending;have h5:=ha.bB;have h6:=hb.bB;refine aA (F:=Tryz.f139) c139 rfl rfl rfl mixed rfl fun X=>?_;(conv=>whnf);skip;refine ⟨fun hq=>?_,fun hq=>?_⟩<;>simp at hq
 ·(conv=>whnf);repeat (refine ⟨ag ⟨by omega,by omega⟩,?_⟩;conv=>whnf)
  exact ⟨by rw [tM,if_pos hq],rfl⟩
 (conv=>whnf);skip;refine ⟨fun hr=>?_,fun hr=>?_⟩<;>simp at hr
 ·(conv=>whnf);repeat (refine ⟨ag ⟨by omega,by omega⟩,?_⟩;conv=>whnf)
  exact ⟨by rw [tM,if_neg (by simpa using hq),if_pos hr],rfl⟩
 have h0:tM a b=pZ a.ao b.ao:=(by rw [tM,if_neg (by simpa using hq),if_neg (by simpa using hr)]);(conv=>whnf);skip;refine bS rfl mixed [2,3,5] [] (fun m r h=>∃ (i:Nat),r=[(2,[],.ai (dt a)),(3,[],.ai (dt b)),(5,[],.int .i64 i)]/\h=[]/\m=a.ao.length - i/\i<=a.ao.length/\i<=b.ao.length/\tM a b=pZ (a.ao.drop i) (b.ao.drop i)) ?_ ?_
 ·(conv=>whnf);exact ⟨_,0,rfl,rfl,rfl,by omega,by omega,h0⟩
 rintro m r h ⟨i,rfl,rfl,rfl,hi,hj,hg⟩;(conv=>whnf);skip;refine ⟨fun hc=>?_,fun hc=>?_⟩
 ·have hc:(decide ((i:Int)<((ints a.ao).length:Int))&&decide ((i:Int)<((ints b.ao).length:Int)))=true:=hc;simp at hc;obtain ⟨x,hx⟩:=aF hc.1;obtain ⟨y,hy⟩:=aF hc.2;have ik:=ha.cl x (List.mem_of_getElem? hx);have He:=hb.cl y (List.mem_of_getElem? hy);rw [drop_cons hx,drop_cons hy,pZ] at hg;(conv=>whnf);repeat ((first|refine ix (by assumption) ?_|refine And.intro (by show aJ (aH Tryz.f139 _) _=true;decide +kernel) ?_);conv=>whnf)
  refine ⟨fun he=>?_,fun he=>?_⟩<;>simp at he
  ·rw [if_pos he] at hg;(conv=>whnf);repeat ((first|refine ⟨ag ⟨by omega,by omega⟩,?_⟩|refine ix (by assumption) ?_|refine And.intro (by show aJ (aH Tryz.f139 _) _=true;decide +kernel) ?_);conv=>whnf)
   exact ⟨by rw [hg],rfl⟩
  rw [if_neg (by simpa using he)] at hg;(conv=>whnf);repeat (refine ⟨ag ⟨by omega,by omega⟩,?_⟩;conv=>whnf)
  exact ⟨_,by omega,i+1,rfl,rfl,rfl,by omega,by omega,hg⟩
 have hc:(decide ((i:Int)<((ints a.ao).length:Int))&&decide ((i:Int)<((ints b.ao).length:Int)))=false:=hc;simp at hc
 have hz:tM a b=(a.ao.length:Int) - b.ao.length:=by
  rw [hg];have kj:((a.ao.drop i).length:Int)=a.ao.length - i:=by rw [List.length_drop];omega
  have cX:((b.ao.drop i).length:Int)=b.ao.length - i:=by rw [List.length_drop];omega
  cases h1:a.ao.drop i with
  | nil=>rw [h1] at kj;unfold pZ;rw [kj,cX];omega
  | cons x s=>
    cases h2:b.ao.drop i with
    | nil=>rw [h2] at cX;unfold pZ;rw [<- h1,kj,cX];omega
    | cons y t=>
      rw [h1] at kj;rw [h2] at cX;simp at kj cX;omega
 (conv=>whnf);repeat ((refine ⟨ag ⟨by rw [cO,cO];omega,by rw [cO,cO];omega⟩,?_⟩);conv=>whnf)
 exact ⟨by rw [hz,cO,cO],rfl⟩
theorem TK:∀ (s t:List Int),(pZ s t<0↔cE ct s t<0)/\(pZ s t=0↔cE ct s t=0)
 | [],[]=>by simp [pZ,cE]
 | [],y::t=>by simp [pZ,cE];omega
 | x::s,[]=>by simp [pZ,cE];omega
 | x::s,y::t=>by
   have ih:=TK s t;unfold pZ cE;by_cases h:x=y
   ·rw [if_neg (by simpa using h),if_neg (by rw [ne_eq,sn];simpa using h)];exact ih
   rw [if_pos h,if_pos (by rw [ne_eq,sn];exact h),xQ,sn];omega
def Ev (a b:eJ):Bool:=decide (rL a b<0)
theorem TL (a b:eJ):rL a b=if ct a.ay.length b.ay.length≠0 then ct a.ay.length b.ay.length else if ct a.form.entry b.form.entry≠0 then ct a.form.entry b.form.entry else if ct a.form.ending b.form.ending≠0 then ct a.form.ending b.form.ending else if cE ct a.form.ao b.form.ao≠0 then cE ct a.form.ao b.form.ao else cE lQ a.ay b.ay:=by unfold rL;rw [gV,gV,gV,Hk]
theorem N1 (a b:eJ) (h:a.ay.length=b.ay.length):(tM a.form b.form≠0->(tM a.form b.form<0↔rL a b<0))/\(tM a.form b.form=0->rL a b=cE lQ a.ay b.ay):=by
 have hc:=TK a.form.ao b.form.ao;have h0:¬ ct (a.ay.length:Int) b.ay.length≠0:=by rw [ne_eq,sn];omega
 rw [TL,if_neg h0];unfold tM;by_cases h1:a.form.entry=b.form.entry
 ·have k1:¬ ct a.form.entry b.form.entry≠0:=by rw [ne_eq,sn];simpa using h1
  have k2:¬ a.form.entry≠b.form.entry:=(by simpa using h1);rw [if_neg k1,if_neg k2];by_cases h2:a.form.ending=b.form.ending
  ·have k3:¬ ct a.form.ending b.form.ending≠0:=by rw [ne_eq,sn];simpa using h2
   have k4:¬ a.form.ending≠b.form.ending:=(by simpa using h2);rw [if_neg k3,if_neg k4];by_cases h3:pZ a.form.ao b.form.ao=0
   ·have k5:¬ cE ct a.form.ao b.form.ao≠0:=by rw [ne_eq,<- hc.2];simpa using h3
    rw [if_neg k5];exact ⟨fun h=>absurd h3 h,fun _=>rfl⟩
   have k5:cE ct a.form.ao b.form.ao≠0:=by rw [ne_eq,<- hc.2];exact h3
   rw [if_pos k5];exact ⟨fun _=>hc.1,fun h=>absurd h h3⟩
  have k3:ct a.form.ending b.form.ending≠0:=by rw [ne_eq,sn];exact h2
  have k4:a.form.ending≠b.form.ending:=h2;rw [if_pos k3,if_pos k4,xQ];exact ⟨fun _=>by omega,fun h=>by omega⟩
 have k1:ct a.form.entry b.form.entry≠0:=by rw [ne_eq,sn];exact h1
 have k2:a.form.entry≠b.form.entry:=h1;rw [if_pos k1,if_pos k2,xQ];exact ⟨fun _=>by omega,fun h=>by omega⟩
structure BZ (w:eJ):Prop where
 form:MB w.form
 ay:w.ay.length<=1048576
theorem Uu (a b:eJ) (ha:BZ a) (hb:BZ b):ab Tryz.prog 91 [.agg (cG a),.agg (cG b)] [] (.bool (Ev a b)):=by
 have h1:=ha.ay;have h2:=hb.ay;refine aA (F:=Tryz.f91) c91 rfl rfl rfl mixed rfl fun X=>?_;(conv=>whnf);skip;refine ⟨fun hq=>?_,fun hq=>?_⟩<;>simp at hq
 ·(conv=>whnf);skip;refine ⟨congrArg AV.bool ?_,rfl⟩;unfold Ev;rw [TL,if_pos (by rw [ne_eq,sn];omega),List.length_map,List.length_map,decide_eq_decide,xQ]
 have hl:a.ay.length=b.ay.length:=(by omega);obtain ⟨gB,uF⟩:=N1 a b hl;(conv=>whnf);repeat (refine ab.k0 (N0 a.form b.form ha.form hb.form) ?_;conv=>whnf)
 refine ⟨fun hr=>?_,fun hr=>?_⟩<;>simp at hr
 ·(conv=>whnf);skip;refine ⟨congrArg AV.bool ?_,rfl⟩;unfold Ev;rw [decide_eq_decide];exact gB hr
 have hz:=uF hr;(conv=>whnf);skip;refine bS rfl mixed [2,3,6] [] (fun m r h=>∃ (i:Nat),r=[(2,[],.ai (cG a)),(3,[],.ai (cG b)),(6,[],.int .i64 i)]/\h=[]/\m=a.ay.length - i/\i<=a.ay.length/\rL a b=cE lQ (a.ay.drop i) (b.ay.drop i)) ?_ ?_
 ·(conv=>whnf);exact ⟨_,0,rfl,rfl,rfl,by omega,hz⟩
 rintro m r h ⟨i,rfl,rfl,rfl,hi,hg⟩;(conv=>whnf);skip;refine ⟨fun hc=>?_,fun hc=>?_⟩<;>simp at hc
 ·obtain ⟨x,hx⟩:=aF hc;obtain ⟨y,hy⟩:=aF (l:=b.ay) (i:=i) (by omega);rw [drop_cons hx,drop_cons hy,cE] at hg;(conv=>whnf);repeat ((first|refine ix (by assumption) ?_|(refine ⟨Ma,?_⟩)|refine And.intro (by show aJ (aH Tryz.f91 _) _=true;decide +kernel) ?_);conv=>whnf)
  refine ⟨fun he=>?_,fun he=>?_⟩
  ·have he:(!sU x y)=true:=he;rw [yS,Bool.not_eq_true',decide_eq_false_iff_not] at he;rw [if_pos (by rw [ne_eq,zU.zero];exact he)] at hg;(conv=>whnf);repeat ((first|refine ix (by assumption) ?_|refine aY (Mp x y) ?_|refine And.intro (by show aJ (aH Tryz.f91 _) _=true;decide +kernel) ?_);conv=>whnf)
   refine ⟨congrArg AV.bool ?_,rfl⟩;unfold Ev ni;rw [hg]
  have he:(!sU x y)=false:=he;rw [yS,Bool.not_eq_false',decide_eq_true_eq] at he;rw [if_neg (by rw [ne_eq,zU.zero];simpa using he)] at hg;(conv=>whnf);repeat (refine ⟨ag ⟨by omega,by omega⟩,?_⟩;conv=>whnf)
  exact ⟨_,by omega,i+1,rfl,rfl,rfl,by omega,hg⟩
 rw [drop_nil hc,drop_nil (by omega),cE] at hg;(conv=>whnf);skip;refine ⟨congrArg AV.bool ?_,rfl⟩;unfold Ev;rw [hg];rfl
end Go.Abs.Wall
