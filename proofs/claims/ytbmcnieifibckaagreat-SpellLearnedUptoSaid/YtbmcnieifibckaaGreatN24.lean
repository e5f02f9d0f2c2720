/- What is proved: small laws for the walks of this seat, and contracts of its functions. No condition but those each theorem names. -/
import Derived.Test.YtbmcnieifibckaaGreatN23
import Derived.Test.YtbmcnieifibckaaGreatN7
import Derived.Test.YtbmcnieifibckaaGreatN8
set_option maxRecDepth 100000
set_option maxHeartbeats 2000000
set_option linter.unusedVariables false
set_option linter.unusedSimpArgs false
namespace Go.Abs.Wall.Spl
open Go Go.Abs Go.Proofs Go.Abs.Wall
open Go.Abs.Wall.Lst hiding aq ic lH jx gE dn lI kH lJ lK lL lM lN eA lO ch lP pC rI bY jW oN mV pD getAll
def iC (E:Env) (n:Nat):List Spl:=((eY E eK).take n).map (nW E)
def gX (H:aj) (B:bl) (f:aZ) (most:Int):Int:=if iY H B f≠0 then iY H B f else if 1<=most/\most<=64 then (if eY (cD H B f) eK=[] then 61 else 0) else 1
def ma (H:aj) (B:bl) (f:aZ) (most:Int):List Spl:=if gX H B f most=0 then iC (cD H B f) most.toNat else []
theorem QI {E:Env}:∀ (c:Nat) (d:Int),(c:Int)+d=13->eb E c d [] []
 | 0,d,h=>.done (by omega)
 | c+1,d,h=>.step (hA:=[]) (hB:=[]) .nil (QI c (d+1) (by omega))
def c19:az:=⟨[0,1,2,3,4,5,6,8,9,10,11,12,13,22,26,27,28,29,38,46],[],[12],[],[],[]⟩
def c22:az:=⟨[0,1,2,3,4,5,6,7,8,9,18],[],[],[],[],[]⟩
theorem QJ (H:aj) (B:bl) (f:aZ) (most:Int) (hh:dU H) (hB:pS B) (dP:f.ar.length<=aw) :
  ae Tryz.prog 19 [.agg (bu H),.agg (fN B),.agg (eZ f),.int .i64 most] [] (.aH [.sl 3 none ((ma H B f most).map vN),.int .i64 (gX H B f most)]):=by
 refine ae.of ?_;refine aG (F:=Tryz.f19) c19 rfl rfl rfl mixed rfl fun X=>?_;(conv=>whnf);repeat ((refine aB.mono ?_ (Jw H B f hh hB dP));conv=>whnf)
 rintro v h' (⟨hb,rfl,rfl⟩|⟨hb,nb,cb,rfl,rfl⟩)
 ·have he:gX H B f most=iY H B f:=by unfold gX;rw [if_pos hb]
  (conv=>whnf);skip;refine cT (by simp [hb]) ?_;(conv=>whnf);skip;unfold ma;rw [he,if_neg hb];exact ag.aH (.cons (ag.nil (by decide)) (.cons (ag.refl _) .nil))
 have zf:=hb;unfold iY at zf;split at zf
 ·rename_i h1;exact absurd zf h1
 rename_i h1;obtain ⟨h2,h3⟩:=vQ (H:=H) (B:=B) (by omega);have hf:=mn zf;have hE:=Du h2 h3 hf;obtain ⟨E,GN⟩:∃ E,E=cD H B f:=⟨_,rfl⟩;have fm:gX H B f most=if 1<=most/\most<=64 then (if eY E eK=[] then 61 else 0) else 1:=by unfold gX;rw [if_neg (by omega),GN]
 have dF:ma H B f most=if gX H B f most=0 then iC E most.toNat else []:=by unfold ma;rw [GN]
 rw [<- GN] at hE;rw [<- GN];(conv=>whnf);skip;refine cF rfl ?_;(conv=>whnf);repeat (refine ae.k0 (KA _ _ _) ?_;conv=>whnf)
 by_cases hm:1<=most/\most<=64
 rotate_left
 ·refine cT (by simp [bI];omega) ?_;(conv=>whnf);skip;rw [dF,fm,if_neg hm,if_neg (by decide)];exact ag.aH (.cons (ag.nil (by decide)) (.cons (ag.refl _) .nil))
 rw [if_pos hm] at fm;refine cF (by simp [bI];omega) ?_;(conv=>whnf);skip;refine bW rfl mixed [8,10,27,28] [] (fun m r h=>∃ (j:Nat) (ov:AV) (oh hp:af) (es:gb),r=[(8,[],ov),(10,[],.au (lj E (.omap nb) (.omap cb))),(27,[],.int .i64 most),(28,[],.int .i64 j)]/\h=(nb,ew es)::(cb,vS [])::(oh++hp)/\m=65 - j/\(j:Int)<=most/\j<=(eY E eK).length/\Out 3 vN (iC E j) ov oh/\eb E 13 0 es hp) ?_ ?_
 ·(conv=>whnf);exact ⟨_,_,ao.refl _ _,_,0,.aT,[],[],[],rfl,rfl,rfl,by omega,by omega,.inl ⟨by simp [iC],rfl,rfl⟩,QI 13 0 rfl⟩
 rintro m r h' ⟨j,ov,oh,hp,es,rfl,rfl,rfl,Wi,gl,ho,hN⟩;have gR:(iC E j).length=j:=by unfold iC;rw [List.length_map,List.length_take];omega
 (conv=>whnf);refine ⟨fun hz=>?_,fun hz=>?_⟩<;>simp at hz
 ·have jr:=XT E hE nb (.omap cb) es 13 hp j (by omega) hN;have pm:∀ (hp:af) (es:gb),((nb,ew es)::hp++((cb,vS [])::oh)).Perm ((nb,ew es)::(cb,vS [])::(oh++hp)):=fun hp es=>List.Perm.cons _ (List.perm_append_comm (l₂:=(cb,vS [])::oh))
  have CM:=aB.re (R':=fun v H'=>v=vO E j/\∃ vF aY,eb E 13 0 vF aY/\H'=(nb,ew vF)::(cb,vS [])::(oh++aY)) jr (pm hp es) (by
   rintro v h1 ⟨rfl,ext,aY,jz,rfl⟩;exact ⟨_,pm aY _,rfl,_,aY,jz,rfl⟩)
  (conv=>whnf);skip;refine aB.mono ?_ CM;clear hN jr CM;rintro v h1 ⟨rfl,es,hp,hN,rfl⟩;cases lU:(eY E eK)[j]? with
  | none=>
    have nG:vO E j=.aH [.agg [.aT,.aT,.int .i64 0],.bool false]:=by unfold vO;rw [lU]
    have vq:iC E j=iC E most.toNat:=by rw [List.getElem?_eq_none_iff] at lU;unfold iC;rw [List.take_of_length_le lU,List.take_of_length_le (by omega)]
    rw [nG];(conv=>whnf);repeat ((first|refine ⟨_,_,bo.here _,⟨Nat.le_of_ble_eq_true rfl,rfl⟩,?_⟩|intro (nb:Nat));conv=>whnf)
    refine cT rfl ?_;rw [vq] at ho gR;by_cases bE:eY E eK=[]
    ·rcases ho with ⟨hn,rfl,rfl⟩|⟨q,rfl,rfl⟩
     all_goals
      (conv=>whnf);skip;refine cT (by simp [iC,bE]) ?_;(conv=>whnf);skip;rw [dF,fm,if_pos bE,if_neg (by decide)];exact ag.aH (.cons (ag.nil (by decide)) (.cons (ag.refl _) .nil))
    have dK:0<(iC E most.toNat).length:=by unfold iC;rw [List.length_map,List.length_take];have:=List.length_pos_iff.2 bE;omega
    rcases ho with ⟨hn,rfl,rfl⟩|⟨q,rfl,rfl⟩
    ·rw [hn] at dK;simp at dK
    (conv=>whnf);skip;refine cF (decide_eq_false (by rw [List.length_map];omega)) ?_;(conv=>whnf);skip;rw [dF,fm,if_neg bE,if_pos rfl];exact ag.aH (.cons ag.sl (.cons (ag.refl _) .nil))
  | some p=>
    have nG:vO E j=.aH [.agg (vN (nW E p)),.bool true]:=by unfold vO;rw [lU]
    have Wj:=(List.getElem?_eq_some_iff.1 lU).1;have oP:iC E (j+1)=iC E j++[nW E p]:=by unfold iC;rw [dj lU,List.map_append];rfl
    have gQ:((iC E j).map vN).length=j:=by rw [List.length_map];exact gR
    rw [nG];rcases ho with ⟨hn,rfl,rfl⟩|⟨q,rfl,rfl⟩
    ·(conv=>whnf);repeat ((first|refine ⟨_,_,bo.here _,⟨Nat.le_of_ble_eq_true rfl,rfl⟩,?_⟩|intro (nb:Nat));conv=>whnf)
     refine cF rfl ?_;(conv=>whnf);repeat ((first|refine ⟨ah ⟨by omega,by omega⟩,?_⟩|(refine ⟨Nat.le_of_ble_eq_true rfl,fun q=>?_⟩));conv=>whnf)
     exact ⟨_,_,ao.perm (List.perm_middle (l₁:=[_,_])).symm,_,(by omega),j+1,_,[(q,.tok)],hp,es,rfl,rfl,rfl,by omega,by omega,.inr ⟨q,by rw [oP,hn];rfl,rfl⟩,hN⟩
    (conv=>whnf);repeat ((first|refine ⟨_,_,bo.here _,⟨Nat.le_of_ble_eq_true rfl,rfl⟩,?_⟩|intro (nb:Nat));conv=>whnf)
    refine cF rfl ?_;(conv=>whnf);repeat ((first|refine ⟨ah ⟨by omega,by omega⟩,?_⟩|(refine ⟨(by rw [List.length_append,gQ];simp;unfold aU;omega),fun q2=>⟨_,.there (.there (.here _)),?_⟩⟩));conv=>whnf)
    exact ⟨_,_,ao.refl _ _,_,(by omega),j+1,_,[(q2,.tok)],hp,es,rfl,rfl,rfl,by omega,by omega,.inr ⟨q2,by rw [oP,List.map_append];rfl,rfl⟩,hN⟩
 have vq:iC E j=iC E most.toNat:=(by rw [show j=most.toNat by omega]);rw [vq] at ho gR;by_cases bE:eY E eK=[]
 ·rcases ho with ⟨hn,rfl,rfl⟩|⟨q,rfl,rfl⟩
  all_goals
   (conv=>whnf);skip;refine cT (by simp [iC,bE]) ?_;(conv=>whnf);skip;rw [dF,fm,if_pos bE,if_neg (by decide)];exact ag.aH (.cons (ag.nil (by decide)) (.cons (ag.refl _) .nil))
 have dK:0<(iC E most.toNat).length:=by unfold iC;rw [List.length_map,List.length_take];have:=List.length_pos_iff.2 bE;omega
 rcases ho with ⟨hn,rfl,rfl⟩|⟨q,rfl,rfl⟩
 ·rw [hn] at dK;simp at dK
 (conv=>whnf);skip;refine cF (decide_eq_false (by rw [List.length_map];omega)) ?_;(conv=>whnf);skip;rw [dF,fm,if_neg bE,if_pos rfl];exact ag.aH (.cons ag.sl (.cons (ag.refl _) .nil))
def dz (H:aj) (B:bl) (f:aZ):Spl:=(ma H B f 1).headD ⟨[],[],0⟩
theorem Yq {H:aj} {B:bl} {f:aZ} {most:Int} (h:gX H B f most=0):ma H B f most≠[]:=by
 have h0:=h;unfold gX at h0;split at h0
 ·rename_i h1;exact absurd h0 h1
 split at h0
 ·rename_i hm;split at h0
  ·cases h0
  rename_i aJ;unfold ma iC;rw [if_pos h];have:=List.length_pos_iff.2 aJ;refine List.length_pos_iff.1 ?_;rw [List.length_map,List.length_take];omega
 cases h0
theorem KH (H:aj) (B:bl) (f:aZ) (hh:dU H) (hB:pS B) (dP:f.ar.length<=aw) :
  ae Tryz.prog 22 [.agg (bu H),.agg (fN B),.agg (eZ f)] [] (.aH [.agg (vN (dz H B f)),.int .i64 (gX H B f 1)]):=by
 have hl:=QJ H B f 1 hh hB dP;refine ae.of ?_;refine aG (F:=Tryz.f22) c22 rfl rfl rfl mixed rfl fun X=>?_;(conv=>whnf);intro rb;(conv=>whnf);repeat (refine ae.k0 (hl) ?_;conv=>whnf)
 refine ⟨fun h0=>?_,fun h0=>?_⟩<;>simp at h0
 ·have hn:ma H B f 1=[]:=by unfold ma;rw [if_neg h0]
  (conv=>whnf);repeat ((first|(refine ⟨_,_,.here _,aR,?_⟩)|refine ⟨_,_,.head _,rfl,?_⟩);conv=>whnf)
  unfold dz;rw [hn];exact ag.aH (.cons (ag.agg (.cons (ag.nil (by decide)) (.cons (ag.nil (by decide)) (.cons (ag.refl _) .nil)))) (.cons (ag.refl _) .nil))
 obtain ⟨x,t,hx⟩:=List.exists_cons_of_ne_nil (Yq h0);have mz:(ma H B f 1)[0]?=some x:=by rw [hx];rfl
 (conv=>whnf);repeat ((first|refine ix (by assumption) ?_|(refine ⟨_,_,.here _,aR,?_⟩)|refine ⟨_,_,.head _,rfl,?_⟩);conv=>whnf)
 unfold dz;rw [hx,h0];exact ag.refl _
end Go.Abs.Wall.Spl
namespace Go.Abs.Wall.Spl
open Go Go.Abs Go.Proofs Go.Abs.Wall
open Go.Abs.Wall.Lst hiding aq ic lH jx gE dn lI kH lJ lK lL lM lN eA lO ch lP pC rI bY jW oN mV pD getAll
def Bb:bl:=⟨[0,5,0,0,-1,0,0,0],2,2⟩
def Dy:aZ:=⟨0,-1,[]⟩
def Bc:Env:=⟨mB,Bb,⟨[110,102,114],1,[103,111,111,100],2⟩,[110,102,114],[3],2,4,
 [[⟨1,[110]⟩,⟨3,[110]⟩],[⟨1,[110,102,114]⟩,⟨3,[110,102,114]⟩],[⟨1,[102]⟩,⟨3,[102]⟩],[⟨1,[114]⟩,⟨3,[114]⟩],[⟨2,[110,102,114]⟩],[⟨4,[103,111,111,100]⟩],[⟨1,[116]⟩,⟨3,[116]⟩],[⟨1,[110]⟩,⟨2,[110]⟩,⟨3,[110]⟩]]⟩
theorem Yr:lY mB=Bc.ai:=by
 have h:lY mB=(List.range mB.list.aA.length).map fun (i:Nat)=>xm mb (ke mB.period (xn mB (i:Int)).values):=by unfold lY;refine List.map_congr_left fun i _=>?_;unfold gn;exact Ys _ _
 rw [h];decide +kernel
theorem QK:cD mB Bb Dy=Bc:=by unfold cD;rw [Yr];rfl
def KI:List Spl:=[⟨[0,2,3,5],[⟨1,[110]⟩,⟨1,[102]⟩,⟨1,[114]⟩,⟨4,[103,111,111,100]⟩],5⟩,⟨[7,2,3,5],[⟨1,[110]⟩,⟨1,[102]⟩,⟨1,[114]⟩,⟨4,[103,111,111,100]⟩],5⟩,⟨[1,3,5],[⟨1,[110,102,114]⟩,⟨3,[114]⟩,⟨4,[103,111,111,100]⟩],8⟩,⟨[1,1,5],[⟨1,[110,102,114]⟩,⟨3,[110,102,114]⟩,⟨4,[103,111,111,100]⟩],13⟩]
theorem QL:((eY Bc eK).take 5).map (nW Bc)=KI:=by decide +kernel
theorem Yt:eY Bc eK≠[]:=by intro h;have:=QL;rw [h] at this;cases this
theorem Yu:iY mB Bb Dy=0:=by decide +kernel
theorem QM:gX mB Bb Dy 5=0:=by unfold gX;rw [if_neg (by rw [Yu];decide),if_pos (by decide),QK,if_neg Yt]
theorem Yv:ma mB Bb Dy 5=KI:=by unfold ma;rw [if_pos QM,QK];exact QL
theorem Yw:dU mB:=by have h1:∀ s∈mB.list.aA,s.code.length<=aw/\s.values.length<=aw/\∀ v∈s.values,v.text.length<=aw:=(by decide +kernel);have h2:∀ e∈mB.lex.entries,e.root.length<=aw/\e.cls.length<=aw:=(by decide +kernel);have h3:∀ e∈mB.lex.bO,e.text.length<=aw/\e.name.length<=aw:=(by decide +kernel);have h4:∀ e∈mB.lex.ar,e.text.length<=aw/\e.name.length<=aw:=(by decide +kernel);exact ⟨⟨by decide +kernel,fun s hs=>⟨(h1 s hs).1,(h1 s hs).2.1,(h1 s hs).2.2⟩⟩,⟨by decide +kernel,by decide +kernel,by decide +kernel,fun e he=>⟨(h2 e he).1,(h2 e he).2⟩,fun e he=>⟨(h3 e he).1,(h3 e he).2⟩,fun e he=>⟨(h4 e he).1,(h4 e he).2⟩⟩⟩
def c18:az:=⟨[0,1,2,3],[],[1],[],[(2,[0,1,2,3,4,5,6,7,8],[])],[]⟩
theorem tq:ae Tryz.prog 18 [] [] (.bool true):=by
 have hl:=QJ mB Bb Dy 5 Yw ⟨by decide⟩ (by decide);rw [QM,Yv] at hl
 have mL:ae Tryz.prog 19 [.agg (bu mB),.agg [.sl 1 none [[.int .i64 0],[.int .i64 5],[.int .i64 0],[.int .i64 0],[.int .i64 (-1)],[.int .i64 0],[.int .i64 0],[.int .i64 0]],.int .i64 2,.int .i64 2],.agg [.int .i64 0,.int .i64 (-1),.aT],.int .i64 5] [] (.aH [.sl 3 none (KI.map vN),.int .i64 0]):=
  ae.args hl (.cons (ag.refl _) (.cons (ag.refl _) (.cons (ag.agg (.cons (ag.refl _) (.cons (ag.refl _) (.cons (ag.nil (by decide)) .nil)))) (.cons (ag.refl _) .nil))))
 have h1:=QN [1,3,5] [1,3,5] (by decide) (by decide);refine aG (F:=Tryz.f18) c18 rfl rfl rfl mixed rfl fun X=>?_;(conv=>whnf);repeat ((first|refine ba (Yx) ?_|refine ba (mL) ?_|(refine ⟨2,_,ah ⟨rfl,rfl⟩,?_⟩)|refine ba (h1) ?_|refine ⟨_,_,bo.here _,⟨Nat.le_of_ble_eq_true rfl,rfl⟩,?_⟩|refine And.intro (by show aP (aN Tryz.f18 _) _=true;decide +kernel) ?_|intro (nb:Nat));conv=>whnf)
 exact ⟨congrArg AV.bool (by decide),rfl⟩
end Go.Abs.Wall.Spl
namespace Go.Abs.Wall.Spl
open Go Go.Abs Go.Proofs Go.Abs.Wall Go.Proofs.YtbmcnieifibckaaGreat.Br
theorem Yy {xs:List AV} (h:Sh Tryz.prog eC 36 xs):∃ B:bl,xs=fN B/\pS B/\(∀ a∈B.aA,IntKind.i64.has a)/\IntKind.i64.has B.dy/\IntKind.i64.has B.cls:=by obtain ⟨ps,rfl,hp⟩:=tu h rfl;obtain ⟨x,y,z,rfl,h1,h2,h3⟩:=GO hp;obtain ⟨a,rfl,ha,hi⟩:=GP h1;obtain ⟨b,rfl,hb⟩:=kf h2;obtain ⟨c,rfl,hc⟩:=kf h3;exact ⟨⟨a,b,c⟩,rfl,⟨by unfold eC at ha;exact ha⟩,hi,hb,hc⟩
theorem QO {x:AV} (h:qQ Tryz.prog eC 36 x):∃ B:bl,x=.agg (fN B)/\pS B/\(∀ a∈B.aA,IntKind.i64.has a)/\IntKind.i64.has B.dy/\IntKind.i64.has B.cls:=by obtain ⟨xs,h,hx⟩:=h;have hx:x=.agg xs:=hx;subst hx;obtain ⟨B,rfl,hf⟩:=Yy h;exact ⟨B,rfl,hf⟩
theorem Yz {x:AV} (h:qQ Tryz.prog eC 59 x):∃ l:List aZ,x=.sl 3 none (l.map eZ)/\l.length<=eC/\∀ f∈l,f.ar.length<=eC:=by
 obtain ⟨xs,h,hx⟩:=h;have hx:xs=[x]:=hx;obtain ⟨l,h1,h2⟩:=xo (enc:=eZ) h rfl fun y hy=>YA hy;rw [hx] at h1;cases h1
 exact ⟨l,rfl,h2⟩
end Go.Abs.Wall.Spl
