/- Small laws for the walks and contracts of functions; each theorem names its conditions. -/
import Derived.Test.YthmcbjcgdfmmaaaGreatN23
import Derived.Test.YthmcbjcgdfmmaaaGreatN7
import Derived.Test.YthmcbjcgdfmmaaaGreatN8
set_option maxRecDepth 100000
set_option maxHeartbeats 2000000
namespace Go.Abs.Wall.Spl
open Go Go.Abs Go.Proofs Go.Abs.Wall
open Go.Abs.Wall.Lst hiding al iW nG kQ ij dA nH lY nI nJ nK nL nM fj nO cm nP rH uc bW kS qB oO rI getAll
def gn (E:Env) (n:Nat):List Spl:=((eA E gm).take n).map (uC E)
def je (H:aD) (B:bE) (f:br) (most:Int):Int:=if iv H B f≠0 then iv H B f else if 1<=most/\most<=64 then (if eA (lO H B f) gm=[] then 61 else 0) else 1
def iw (H:aD) (B:bE) (f:br) (most:Int):List Spl:=if je H B f most=0 then gn (lO H B f) most.toNat else []
theorem PM {E:Env}:∀ (c:Nat) (d:Int),(c:Int)+d=13->ef E c d [] []
 | 0,d,h=>.done (by omega)
 | c+1,d,h=>.step (hA:=[]) (hB:=[]) .nil (PM c (d+1) (by omega))
def c13:av:=⟨[0,1,2,3,4,5,6,8,9,10,11,12,13,22,26,27,28,29,38,46],[],[12],[],[],[]⟩
def c53:av:=⟨[0,1,2,3,4,5,6,7,8,9,18],[],[],[],[],[]⟩
theorem PN (H:aD) (B:bE) (f:br) (most:Int) (hh:dx H) (hB:lN B) (cY:f.ao.length<=aq) :
  ab Tryz.prog 13 [.agg (aZ H),.agg (dO B),.agg (dt f),.int .i64 most] [] (.aB [.sl 3 none ((iw H B f most).map nV),.int .i64 (je H B f most)]):=by
 refine ab.of ?_;refine aA (F:=Tryz.f13) c13 rfl rfl rfl mixed rfl fun X=>?_;(conv=>whnf);repeat ((refine aw.mono ?_ (IX H B f hh hB cY));conv=>whnf)
 rintro v h' (⟨hb,rfl,rfl⟩|⟨hb,nb,cb,rfl,rfl⟩)
 ·have he:je H B f most=iv H B f:=by unfold je;rw [if_pos hb]
  (conv=>whnf);skip;refine cT (by simp [hb]) ?_;(conv=>whnf);skip;unfold iw;rw [he,if_neg hb];exact aa.aB (.cons (aa.nil (by decide)) (.cons (aa.refl _) .nil))
 have zd:=hb;unfold iv at zd;split at zd
 ·rename_i h1;exact absurd zd h1
 rename_i h1;obtain ⟨h2,h3⟩:=Dq (H:=H) (B:=B) (by omega);have hf:=qF zd;have hE:=Gg h2 h3 hf;obtain ⟨E,rU⟩:∃ E,E=lO H B f:=⟨_,rfl⟩;have dJ:je H B f most=if 1<=most/\most<=64 then (if eA E gm=[] then 61 else 0) else 1:=by unfold je;rw [if_neg (by omega),rU]
 have dw:iw H B f most=if je H B f most=0 then gn E most.toNat else []:=by unfold iw;rw [rU]
 rw [<- rU] at hE;rw [<- rU];(conv=>whnf);skip;refine cF rfl ?_;(conv=>whnf);repeat (refine ab.k0 (JZ _ _ _) ?_;conv=>whnf)
 by_cases hm:1<=most/\most<=64
 rotate_left
 ·refine cT (by simp [bL];omega) ?_;(conv=>whnf);skip;rw [dw,dJ,if_neg hm,if_neg (by decide)];exact aa.aB (.cons (aa.nil (by decide)) (.cons (aa.refl _) .nil))
 rw [if_pos hm] at dJ;refine cF (by simp [bL];omega) ?_;(conv=>whnf);skip;refine bD rfl mixed [8,10,27,28] [] (fun m r h=>∃ (j:Nat) (ov:AV) (oh hp:af) (es:fW),r=[(8,[],ov),(10,[],.ai (kW E (.omap nb) (.omap cb))),(27,[],.int .i64 most),(28,[],.int .i64 j)]/\h=(nb,eB es)::(cb,vO [])::(oh++hp)/\m=65 - j/\(j:Int)<=most/\j<=(eA E gm).length/\Out 3 nV (gn E j) ov oh/\ef E 13 0 es hp) ?_ ?_
 ·(conv=>whnf);exact ⟨_,_,ah.refl _ _,_,0,.aS,[],[],[],rfl,rfl,rfl,by omega,by omega,.inl ⟨by simp [gn],rfl,rfl⟩,PM 13 0 rfl⟩
 rintro m r h' ⟨j,ov,oh,hp,es,rfl,rfl,rfl,Vd,gb,ho,hN⟩;have gf:(gn E j).length=j:=by unfold gn;rw [List.length_map,List.length_take];omega
 (conv=>whnf);refine ⟨fun hz=>?_,fun hz=>?_⟩<;>simp at hz
 ·have jh:=WK E hE nb (.omap cb) es 13 hp j (by omega) hN;have pm:∀ (hp:af) (es:fW),((nb,eB es)::hp++((cb,vO [])::oh)).Perm ((nb,eB es)::(cb,vO [])::(oh++hp)):=fun hp es=>List.Perm.cons _ (List.perm_append_comm (l₂:=(cb,vO [])::oh))
  have CH:=aw.re (R':=fun v H'=>v=vK E j/\∃ te aX,ef E 13 0 te aX/\H'=(nb,eB te)::(cb,vO [])::(oh++aX)) jh (pm hp es) (by
   rintro v h1 ⟨rfl,ext,aX,jm,rfl⟩;exact ⟨_,pm aX _,rfl,_,aX,jm,rfl⟩)
  (conv=>whnf);skip;refine aw.mono ?_ CH;clear hN jh CH;rintro v h1 ⟨rfl,es,hp,hN,rfl⟩;cases jM:(eA E gm)[j]? with
  | none=>
    have np:vK E j=.aB [.agg [.aS,.aS,.int .i64 0],.bool false]:=by unfold vK;rw [jM]
    have vk:gn E j=gn E most.toNat:=by rw [List.getElem?_eq_none_iff] at jM;unfold gn;rw [List.take_of_length_le jM,List.take_of_length_le (by omega)]
    rw [np];(conv=>whnf);repeat ((first|refine ⟨_,_,bj.here _,⟨Nat.le_of_ble_eq_true rfl,rfl⟩,?_⟩|intro (nb:Nat));conv=>whnf)
    refine cT rfl ?_;rw [vk] at ho gf;by_cases bx:eA E gm=[]
    ·rcases ho with ⟨hn,rfl,rfl⟩|⟨q,rfl,rfl⟩
     all_goals
      (conv=>whnf);skip;refine cT (by simp [gn,bx]) ?_;(conv=>whnf);skip;rw [dw,dJ,if_pos bx,if_neg (by decide)];exact aa.aB (.cons (aa.nil (by decide)) (.cons (aa.refl _) .nil))
    have eb:0<(gn E most.toNat).length:=by unfold gn;rw [List.length_map,List.length_take];have:=List.length_pos_iff.2 bx;omega
    rcases ho with ⟨hn,rfl,rfl⟩|⟨q,rfl,rfl⟩
    ·rw [hn] at eb;simp at eb
    (conv=>whnf);skip;refine cF (decide_eq_false (by rw [List.length_map];omega)) ?_;(conv=>whnf);skip;rw [dw,dJ,if_neg bx,if_pos rfl];exact aa.aB (.cons aa.sl (.cons (aa.refl _) .nil))
  | some p=>
    have np:vK E j=.aB [.agg (nV (uC E p)),.bool true]:=by unfold vK;rw [jM]
    have Ve:=(List.getElem?_eq_some_iff.1 jM).1;have mK:gn E (j+1)=gn E j++[uC E p]:=by unfold gn;rw [cN jM,List.map_append];rfl
    have fu:((gn E j).map nV).length=j:=by rw [List.length_map];exact gf
    rw [np];rcases ho with ⟨hn,rfl,rfl⟩|⟨q,rfl,rfl⟩
    ·(conv=>whnf);repeat ((first|refine ⟨_,_,bj.here _,⟨Nat.le_of_ble_eq_true rfl,rfl⟩,?_⟩|intro (nb:Nat));conv=>whnf)
     refine cF rfl ?_;(conv=>whnf);repeat ((first|refine ⟨ag ⟨by omega,by omega⟩,?_⟩|(refine ⟨Nat.le_of_ble_eq_true rfl,fun q=>?_⟩));conv=>whnf)
     exact ⟨_,_,ah.perm (List.perm_middle (l₁:=[_,_])).symm,_,(by omega),j+1,_,[(q,.tok)],hp,es,rfl,rfl,rfl,by omega,by omega,.inr ⟨q,by rw [mK,hn];rfl,rfl⟩,hN⟩
    (conv=>whnf);repeat ((first|refine ⟨_,_,bj.here _,⟨Nat.le_of_ble_eq_true rfl,rfl⟩,?_⟩|intro (nb:Nat));conv=>whnf)
    refine cF rfl ?_;(conv=>whnf);repeat ((first|refine ⟨ag ⟨by omega,by omega⟩,?_⟩|(refine ⟨(by rw [List.length_append,fu];simp;unfold aN;omega),fun q2=>⟨_,.there (.there (.here _)),?_⟩⟩));conv=>whnf)
    exact ⟨_,_,ah.refl _ _,_,(by omega),j+1,_,[(q2,.tok)],hp,es,rfl,rfl,rfl,by omega,by omega,.inr ⟨q2,by rw [mK,List.map_append];rfl,rfl⟩,hN⟩
 have vk:gn E j=gn E most.toNat:=(by rw [show j=most.toNat by omega]);rw [vk] at ho gf;by_cases bx:eA E gm=[]
 ·rcases ho with ⟨hn,rfl,rfl⟩|⟨q,rfl,rfl⟩
  all_goals
   (conv=>whnf);skip;refine cT (by simp [gn,bx]) ?_;(conv=>whnf);skip;rw [dw,dJ,if_pos bx,if_neg (by decide)];exact aa.aB (.cons (aa.nil (by decide)) (.cons (aa.refl _) .nil))
 have eb:0<(gn E most.toNat).length:=by unfold gn;rw [List.length_map,List.length_take];have:=List.length_pos_iff.2 bx;omega
 rcases ho with ⟨hn,rfl,rfl⟩|⟨q,rfl,rfl⟩
 ·rw [hn] at eb;simp at eb
 (conv=>whnf);skip;refine cF (decide_eq_false (by rw [List.length_map];omega)) ?_;(conv=>whnf);skip;rw [dw,dJ,if_neg bx,if_pos rfl];exact aa.aB (.cons aa.sl (.cons (aa.refl _) .nil))
def mh (H:aD) (B:bE) (f:br):Spl:=(iw H B f 1).headD ⟨[],[],0⟩
theorem PO {H:aD} {B:bE} {f:br} {most:Int} (h:je H B f most=0):iw H B f most≠[]:=by
 have h0:=h;unfold je at h0;split at h0
 ·rename_i h1;exact absurd h0 h1
 split at h0
 ·rename_i hm;split at h0
  ·cases h0
  rename_i aM;unfold iw gn;rw [if_pos h];have:=List.length_pos_iff.2 aM;refine List.length_pos_iff.1 ?_;rw [List.length_map,List.length_take];omega
 cases h0
theorem Xh (H:aD) (B:bE) (f:br) (hh:dx H) (hB:lN B) (cY:f.ao.length<=aq) :
  ab Tryz.prog 53 [.agg (aZ H),.agg (dO B),.agg (dt f)] [] (.aB [.agg (nV (mh H B f)),.int .i64 (je H B f 1)]):=by
 have hl:=PN H B f 1 hh hB cY;refine ab.of ?_;refine aA (F:=Tryz.f53) c53 rfl rfl rfl mixed rfl fun X=>?_;(conv=>whnf);intro rb;(conv=>whnf);repeat (refine ab.k0 (hl) ?_;conv=>whnf)
 refine ⟨fun h0=>?_,fun h0=>?_⟩<;>simp at h0
 ·have hn:iw H B f 1=[]:=by unfold iw;rw [if_neg h0]
  (conv=>whnf);repeat ((first|(refine ⟨_,_,.here _,aI,?_⟩)|refine ⟨_,_,.head _,rfl,?_⟩);conv=>whnf)
  unfold mh;rw [hn];exact aa.aB (.cons (aa.agg (.cons (aa.nil (by decide)) (.cons (aa.nil (by decide)) (.cons (aa.refl _) .nil)))) (.cons (aa.refl _) .nil))
 obtain ⟨x,t,hx⟩:=List.exists_cons_of_ne_nil (PO h0);have lJ:(iw H B f 1)[0]?=some x:=by rw [hx];rfl
 (conv=>whnf);repeat ((first|refine ix (by assumption) ?_|(refine ⟨_,_,.here _,aI,?_⟩)|refine ⟨_,_,.head _,rfl,?_⟩);conv=>whnf)
 unfold mh;rw [hx,h0];exact aa.refl _
end Go.Abs.Wall.Spl
namespace Go.Abs.Wall.Spl
open Go Go.Abs Go.Proofs Go.Abs.Wall
open Go.Abs.Wall.Lst hiding al iW nG kQ ij dA nH lY nI nJ nK nL nM fj nO cm nP rH uc bW kS qB oO rI getAll
def AS:bE:=⟨[0,5,0,0,-1,0,0,0],2,2⟩
def Du:br:=⟨0,-1,[]⟩
def AU:Env:=⟨mi,AS,⟨[110,102,114],1,[103,111,111,100],2⟩,[110,102,114],[3],2,4,
 [[⟨1,[110]⟩,⟨3,[110]⟩],[⟨1,[110,102,114]⟩,⟨3,[110,102,114]⟩],[⟨1,[102]⟩,⟨3,[102]⟩],[⟨1,[114]⟩,⟨3,[114]⟩],[⟨2,[110,102,114]⟩],[⟨4,[103,111,111,100]⟩],[⟨1,[116]⟩,⟨3,[116]⟩],[⟨1,[110]⟩,⟨2,[110]⟩,⟨3,[110]⟩]]⟩
theorem Xi:jc mi=AU.ay:=by
 have h:jc mi=(List.range mi.list.aK.length).map fun (i:Nat)=>xo lQ (jS mi.period (AW mi (i:Int)).values):=by unfold jc;refine List.map_congr_left fun i _=>?_;unfold gM;exact Xj _ _
 rw [h];decide +kernel
theorem PQ:lO mi AS Du=AU:=by unfold lO;rw [Xi];rfl
def Kh:List Spl:=[⟨[0,2,3,5],[⟨1,[110]⟩,⟨1,[102]⟩,⟨1,[114]⟩,⟨4,[103,111,111,100]⟩],5⟩,⟨[7,2,3,5],[⟨1,[110]⟩,⟨1,[102]⟩,⟨1,[114]⟩,⟨4,[103,111,111,100]⟩],5⟩,⟨[1,3,5],[⟨1,[110,102,114]⟩,⟨3,[114]⟩,⟨4,[103,111,111,100]⟩],8⟩,⟨[1,1,5],[⟨1,[110,102,114]⟩,⟨3,[110,102,114]⟩,⟨4,[103,111,111,100]⟩],13⟩]
theorem PR:((eA AU gm).take 5).map (uC AU)=Kh:=by decide +kernel
theorem Xk:eA AU gm≠[]:=by intro h;have:=PR;rw [h] at this;cases this
theorem Xl:iv mi AS Du=0:=by decide +kernel
theorem PS:je mi AS Du 5=0:=by unfold je;rw [if_neg (by rw [Xl];decide),if_pos (by decide),PQ,if_neg Xk]
theorem Xm:iw mi AS Du 5=Kh:=by unfold iw;rw [if_pos PS,PQ];exact PR
theorem Xn:dx mi:=by have h1:∀ s∈mi.list.aK,s.code.length<=aq/\s.values.length<=aq/\∀ v∈s.values,v.text.length<=aq:=(by decide +kernel);have h2:∀ e∈mi.lex.entries,e.root.length<=aq/\e.cls.length<=aq:=(by decide +kernel);have h3:∀ e∈mi.lex.bM,e.text.length<=aq/\e.name.length<=aq:=(by decide +kernel);have h4:∀ e∈mi.lex.ao,e.text.length<=aq/\e.name.length<=aq:=(by decide +kernel);exact ⟨⟨by decide +kernel,fun s hs=>⟨(h1 s hs).1,(h1 s hs).2.1,(h1 s hs).2.2⟩⟩,⟨by decide +kernel,by decide +kernel,by decide +kernel,fun e he=>⟨(h2 e he).1,(h2 e he).2⟩,fun e he=>⟨(h3 e he).1,(h3 e he).2⟩,fun e he=>⟨(h4 e he).1,(h4 e he).2⟩⟩⟩
def c5:av:=⟨[0,1,2,3],[],[1],[],[(2,[0,1,2,3,4,5,6,7,8],[])],[]⟩
theorem PT:ab Tryz.prog 5 [] [] (.bool true):=by
 have hl:=PN mi AS Du 5 Xn ⟨by decide⟩ (by decide);rw [PS,Xm] at hl
 have cX:ab Tryz.prog 13 [.agg (aZ mi),.agg [.sl 1 none [[.int .i64 0],[.int .i64 5],[.int .i64 0],[.int .i64 0],[.int .i64 (-1)],[.int .i64 0],[.int .i64 0],[.int .i64 0]],.int .i64 2,.int .i64 2],.agg [.int .i64 0,.int .i64 (-1),.aS],.int .i64 5] [] (.aB [.sl 3 none (Kh.map nV),.int .i64 0]):=
  ab.args hl (.cons (aa.refl _) (.cons (aa.refl _) (.cons (aa.agg (.cons (aa.refl _) (.cons (aa.refl _) (.cons (aa.nil (by decide)) .nil)))) (.cons (aa.refl _) .nil))))
 have h1:=Im [1,3,5] [1,3,5] (by decide) (by decide);refine aA (F:=Tryz.f5) c5 rfl rfl rfl mixed rfl fun X=>?_;(conv=>whnf);repeat ((first|refine aY (Xo) ?_|refine aY (cX) ?_|(refine ⟨2,_,ag ⟨rfl,rfl⟩,?_⟩)|refine aY (h1) ?_|refine ⟨_,_,bj.here _,⟨Nat.le_of_ble_eq_true rfl,rfl⟩,?_⟩|refine And.intro (by show aJ (aH Tryz.f5 _) _=true;decide +kernel) ?_|intro (nb:Nat));conv=>whnf)
 exact ⟨congrArg AV.bool (by decide),rfl⟩
end Go.Abs.Wall.Spl
namespace Go.Abs.Wall.Spl
open Go Go.Abs Go.Proofs Go.Abs.Wall Go.Proofs.YthmcbjcgdfmmaaaGreat.Br
theorem Xp {xs:List AV} (h:Sh Tryz.prog iM 36 xs):∃ B:bE,xs=dO B/\lN B/\(∀ a∈B.aK,IntKind.i64.has a)/\IntKind.i64.has B.cV/\IntKind.i64.has B.cls:=by obtain ⟨ps,rfl,hp⟩:=uD h rfl;obtain ⟨x,y,z,rfl,h1,h2,h3⟩:=Ki hp;obtain ⟨a,rfl,ha,hi⟩:=PU h1;obtain ⟨b,rfl,hb⟩:=kY h2;obtain ⟨c,rfl,hc⟩:=kY h3;exact ⟨⟨a,b,c⟩,rfl,⟨by unfold iM at ha;exact ha⟩,hi,hb,hc⟩
theorem Xq {x:AV} (h:vP Tryz.prog iM 36 x):∃ B:bE,x=.agg (dO B)/\lN B/\(∀ a∈B.aK,IntKind.i64.has a)/\IntKind.i64.has B.cV/\IntKind.i64.has B.cls:=by obtain ⟨xs,h,hx⟩:=h;have hx:x=.agg xs:=hx;subst hx;obtain ⟨B,rfl,hf⟩:=Xp h;exact ⟨B,rfl,hf⟩
end Go.Abs.Wall.Spl
