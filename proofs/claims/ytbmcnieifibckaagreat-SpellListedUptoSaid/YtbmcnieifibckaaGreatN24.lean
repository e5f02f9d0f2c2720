/- What is proved: small laws for the walks of this seat, and contracts of its functions. No condition but those each theorem names. -/
import Derived.Test.YtbmcnieifibckaaGreatN23
import Derived.Test.YtbmcnieifibckaaGreatN7
import Derived.Test.YtbmcnieifibckaaGreatN8
set_option maxRecDepth 100000
set_option maxHeartbeats 2000000
set_option linter.unusedVariables false
set_option linter.unusedSimpArgs false
namespace Go.Abs.Wall.Spl
open Go Go.Abs Go.Proofs Go.Abs.Wall
open Go.Abs.Wall.Lst hiding al gL lq jg gk da lr kd lu lx ly lz lA ef lB cg lC oY qT bW jE og mD oZ getAll
def gS (E:Env) (n:Nat):List Spl:=((df E dR).take n).map (jn E)
def iT (H:ax) (B:bX) (f:bc) (most:Int):Int:=if gD H B f≠0 then gD H B f else if 1<=most/\most<=64 then (if df (bC H B f) dR=[] then 61 else 0) else 1
def gE (H:ax) (B:bX) (f:bc) (most:Int):List Spl:=if iT H B f most=0 then gS (bC H B f) most.toNat else []
theorem Ph {E:Env}:∀ (c:Nat) (d:Int),(c:Int)+d=13->dQ E c d [] []
 | 0,d,h=>.done (by omega)
 | c+1,d,h=>.step (hA:=[]) (hB:=[]) .nil (Ph c (d+1) (by omega))
def c19:aw:=⟨[0,1,2,3,4,5,6,8,9,10,11,12,13,22,26,27,28,29,38,46],[],[12],[],[],[]⟩
theorem Ji (H:ax) (B:bX) (f:bc) (most:Int) (hh:eP H) (hB:wB B) (eO:f.ah.length<=aq) :
  ae Tryz.prog 19 [.agg (bJ H),.agg (mj B),.agg (dm f),.int .i64 most] [] (.aQ [.sl 3 none ((gE H B f most).map kJ),.int .i64 (iT H B f most)]):=by
 refine ae.of ?_;refine aG (F:=Tryz.f19) c19 rfl rfl rfl mixed rfl fun X=>?_;(conv=>whnf);repeat ((refine ay.mono ?_ (HH H B f hh hB eO));conv=>whnf)
 rintro v h' (⟨hb,rfl,rfl⟩|⟨hb,nb,cb,rfl,rfl⟩)
 ·have he:iT H B f most=gD H B f:=by unfold iT;rw [if_pos hb]
  (conv=>whnf);skip;refine cT (by simp [hb]) ?_;(conv=>whnf);skip;unfold gE;rw [he,if_neg hb];exact ag.aQ (.cons (ag.nil (by decide)) (.cons (ag.refl _) .nil))
 have yl:=hb;unfold gD at yl;split at yl
 ·rename_i h1;exact absurd yl h1
 rename_i h1;obtain ⟨h2,h3⟩:=Ck (H:=H) (B:=B) (by omega);have hf:=mG yl;have hE:=yq h2 h3 hf;obtain ⟨E,Fg⟩:∃ E,E=bC H B f:=⟨_,rfl⟩;have jG:iT H B f most=if 1<=most/\most<=64 then (if df E dR=[] then 61 else 0) else 1:=by unfold iT;rw [if_neg (by omega),Fg]
 have ep:gE H B f most=if iT H B f most=0 then gS E most.toNat else []:=by unfold gE;rw [Fg]
 rw [<- Fg] at hE;rw [<- Fg];(conv=>whnf);skip;refine cF rfl ?_;(conv=>whnf);repeat (refine ae.k0 (Ja _ _ _) ?_;conv=>whnf)
 by_cases hm:1<=most/\most<=64
 rotate_left
 ·refine cT (by simp [bG];omega) ?_;(conv=>whnf);skip;rw [ep,jG,if_neg hm,if_neg (by decide)];exact ag.aQ (.cons (ag.nil (by decide)) (.cons (ag.refl _) .nil))
 rw [if_pos hm] at jG;refine cF (by simp [bG];omega) ?_;(conv=>whnf);skip;refine cy rfl mixed [8,10,27,28] [] (fun m r h=>∃ (j:Nat) (ov:AV) (oh hp:ab) (es:fI),r=[(8,[],ov),(10,[],.au (kG E (.omap nb) (.omap cb))),(27,[],.int .i64 most),(28,[],.int .i64 j)]/\h=(nb,ea es)::(cb,vf [])::(oh++hp)/\m=65 - j/\(j:Int)<=most/\j<=(df E dR).length/\Out 3 kJ (gS E j) ov oh/\dQ E 13 0 es hp) ?_ ?_
 ·(conv=>whnf);exact ⟨_,_,ar.refl _ _,_,0,.aW,[],[],[],rfl,rfl,rfl,by omega,by omega,.inl ⟨by simp [gS],rfl,rfl⟩,Ph 13 0 rfl⟩
 rintro m r h' ⟨j,ov,oh,hp,es,rfl,rfl,rfl,Uv,fP,ho,hN⟩;have gx:(gS E j).length=j:=by unfold gS;rw [List.length_map,List.length_take];omega
 (conv=>whnf);refine ⟨fun hz=>?_,fun hz=>?_⟩<;>simp at hz
 ·have nd:=Wc E hE nb (.omap cb) es 13 hp j (by omega) hN;have pm:∀ (hp:ab) (es:fI),((nb,ea es)::hp++((cb,vf [])::oh)).Perm ((nb,ea es)::(cb,vf [])::(oh++hp)):=fun hp es=>List.Perm.cons _ (List.perm_append_comm (l₂:=(cb,vf [])::oh))
  have BI:=ay.re (R':=fun v H'=>v=uZ E j/\∃ uN aZ,dQ E 13 0 uN aZ/\H'=(nb,ea uN)::(cb,vf [])::(oh++aZ)) nd (pm hp es) (by
   rintro v h1 ⟨rfl,ext,aZ,jj,rfl⟩;exact ⟨_,pm aZ _,rfl,_,aZ,jj,rfl⟩)
  (conv=>whnf);skip;refine ay.mono ?_ BI;clear hN nd BI;rintro v h1 ⟨rfl,es,hp,hN,rfl⟩;cases lG:(df E dR)[j]? with
  | none=>
    have mY:uZ E j=.aQ [.agg [.aW,.aW,.int .i64 0],.bool false]:=by unfold uZ;rw [lG]
    have uG:gS E j=gS E most.toNat:=by rw [List.getElem?_eq_none_iff] at lG;unfold gS;rw [List.take_of_length_le lG,List.take_of_length_le (by omega)]
    rw [mY];(conv=>whnf);repeat ((first|refine ⟨_,_,aK.here _,⟨Nat.le_of_ble_eq_true rfl,rfl⟩,?_⟩|intro (nb:Nat));conv=>whnf)
    refine cT rfl ?_;rw [uG] at ho gx;by_cases bF:df E dR=[]
    ·rcases ho with ⟨hn,rfl,rfl⟩|⟨q,rfl,rfl⟩
     all_goals
      (conv=>whnf);skip;refine cT (by simp [gS,bF]) ?_;(conv=>whnf);skip;rw [ep,jG,if_pos bF,if_neg (by decide)];exact ag.aQ (.cons (ag.nil (by decide)) (.cons (ag.refl _) .nil))
    have eF:0<(gS E most.toNat).length:=by unfold gS;rw [List.length_map,List.length_take];have:=List.length_pos_iff.2 bF;omega
    rcases ho with ⟨hn,rfl,rfl⟩|⟨q,rfl,rfl⟩
    ·rw [hn] at eF;simp at eF
    (conv=>whnf);skip;refine cF (decide_eq_false (by rw [List.length_map];omega)) ?_;(conv=>whnf);skip;rw [ep,jG,if_neg bF,if_pos rfl];exact ag.aQ (.cons ag.sl (.cons (ag.refl _) .nil))
  | some p=>
    have mY:uZ E j=.aQ [.agg (kJ (jn E p)),.bool true]:=by unfold uZ;rw [lG]
    have Uw:=(List.getElem?_eq_some_iff.1 lG).1;have rY:gS E (j+1)=gS E j++[jn E p]:=by unfold gS;rw [dg lG,List.map_append];rfl
    have jb:((gS E j).map kJ).length=j:=by rw [List.length_map];exact gx
    rw [mY];rcases ho with ⟨hn,rfl,rfl⟩|⟨q,rfl,rfl⟩
    ·(conv=>whnf);repeat ((first|refine ⟨_,_,aK.here _,⟨Nat.le_of_ble_eq_true rfl,rfl⟩,?_⟩|intro (nb:Nat));conv=>whnf)
     refine cF rfl ?_;(conv=>whnf);repeat ((first|refine ⟨af ⟨by omega,by omega⟩,?_⟩|(refine ⟨Nat.le_of_ble_eq_true rfl,fun q=>?_⟩));conv=>whnf)
     exact ⟨_,_,ar.perm (List.perm_middle (l₁:=[_,_])).symm,_,(by omega),j+1,_,[(q,.tok)],hp,es,rfl,rfl,rfl,by omega,by omega,.inr ⟨q,by rw [rY,hn];rfl,rfl⟩,hN⟩
    (conv=>whnf);repeat ((first|refine ⟨_,_,aK.here _,⟨Nat.le_of_ble_eq_true rfl,rfl⟩,?_⟩|intro (nb:Nat));conv=>whnf)
    refine cF rfl ?_;(conv=>whnf);repeat ((first|refine ⟨af ⟨by omega,by omega⟩,?_⟩|(refine ⟨(by rw [List.length_append,jb];simp;unfold aV;omega),fun q2=>⟨_,.there (.there (.here _)),?_⟩⟩));conv=>whnf)
    exact ⟨_,_,ar.refl _ _,_,(by omega),j+1,_,[(q2,.tok)],hp,es,rfl,rfl,rfl,by omega,by omega,.inr ⟨q2,by rw [rY,List.map_append];rfl,rfl⟩,hN⟩
 have uG:gS E j=gS E most.toNat:=(by rw [show j=most.toNat by omega]);rw [uG] at ho gx;by_cases bF:df E dR=[]
 ·rcases ho with ⟨hn,rfl,rfl⟩|⟨q,rfl,rfl⟩
  all_goals
   (conv=>whnf);skip;refine cT (by simp [gS,bF]) ?_;(conv=>whnf);skip;rw [ep,jG,if_pos bF,if_neg (by decide)];exact ag.aQ (.cons (ag.nil (by decide)) (.cons (ag.refl _) .nil))
 have eF:0<(gS E most.toNat).length:=by unfold gS;rw [List.length_map,List.length_take];have:=List.length_pos_iff.2 bF;omega
 rcases ho with ⟨hn,rfl,rfl⟩|⟨q,rfl,rfl⟩
 ·rw [hn] at eF;simp at eF
 (conv=>whnf);skip;refine cF (decide_eq_false (by rw [List.length_map];omega)) ?_;(conv=>whnf);skip;rw [ep,jG,if_neg bF,if_pos rfl];exact ag.aQ (.cons ag.sl (.cons (ag.refl _) .nil))
def Wz (H:ax) (B:bX) (f:bc):Spl:=(gE H B f 1).headD ⟨[],[],0⟩
end Go.Abs.Wall.Spl
namespace Go.Abs.Wall.Spl
open Go Go.Abs Go.Proofs Go.Abs.Wall
open Go.Abs.Wall.Lst hiding al gL lq jg gk da lr kd lu lx ly lz lA ef lB cg lC oY qT bW jE og mD oZ getAll
def zV:bX:=⟨[0,5,0,0,-1,0,0,0],2,2⟩
def Cs:bc:=⟨0,-1,[]⟩
def zX:Env:=⟨ml,zV,⟨[110,102,114],1,[103,111,111,100],2⟩,[110,102,114],[3],2,4,
 [[⟨1,[110]⟩,⟨3,[110]⟩],[⟨1,[110,102,114]⟩,⟨3,[110,102,114]⟩],[⟨1,[102]⟩,⟨3,[102]⟩],[⟨1,[114]⟩,⟨3,[114]⟩],[⟨2,[110,102,114]⟩],[⟨4,[103,111,111,100]⟩],[⟨1,[116]⟩,⟨3,[116]⟩],[⟨1,[110]⟩,⟨2,[110]⟩,⟨3,[110]⟩]]⟩
theorem WA:lP ml=zX.aj:=by
 have h:lP ml=(List.range ml.list.aB.length).map fun (i:Nat)=>wD fl (jM ml.period (wE ml (i:Int)).values):=by unfold lP;refine List.map_congr_left fun i _=>?_;unfold fg;exact WB _ _
 rw [h];decide +kernel
theorem Pj:bC ml zV Cs=zX:=by unfold bC;rw [WA];rfl
def Jj:List Spl:=[⟨[0,2,3,5],[⟨1,[110]⟩,⟨1,[102]⟩,⟨1,[114]⟩,⟨4,[103,111,111,100]⟩],5⟩,⟨[7,2,3,5],[⟨1,[110]⟩,⟨1,[102]⟩,⟨1,[114]⟩,⟨4,[103,111,111,100]⟩],5⟩,⟨[1,3,5],[⟨1,[110,102,114]⟩,⟨3,[114]⟩,⟨4,[103,111,111,100]⟩],8⟩,⟨[1,1,5],[⟨1,[110,102,114]⟩,⟨3,[110,102,114]⟩,⟨4,[103,111,111,100]⟩],13⟩]
theorem Pk:((df zX dR).take 5).map (jn zX)=Jj:=by decide +kernel
theorem WC:df zX dR≠[]:=by intro h;have:=Pk;rw [h] at this;cases this
theorem WD:gD ml zV Cs=0:=by decide +kernel
theorem Pl:iT ml zV Cs 5=0:=by unfold iT;rw [if_neg (by rw [WD];decide),if_pos (by decide),Pj,if_neg WC]
theorem WE:gE ml zV Cs 5=Jj:=by unfold gE;rw [if_pos Pl,Pj];exact Pk
theorem WG:eP ml:=by have h1:∀ s∈ml.list.aB,s.code.length<=aq/\s.values.length<=aq/\∀ v∈s.values,v.text.length<=aq:=(by decide +kernel);have h2:∀ e∈ml.lex.entries,e.root.length<=aq/\e.cls.length<=aq:=(by decide +kernel);have h3:∀ e∈ml.lex.bL,e.text.length<=aq/\e.name.length<=aq:=(by decide +kernel);have h4:∀ e∈ml.lex.ah,e.text.length<=aq/\e.name.length<=aq:=(by decide +kernel);exact ⟨⟨by decide +kernel,fun s hs=>⟨(h1 s hs).1,(h1 s hs).2.1,(h1 s hs).2.2⟩⟩,⟨by decide +kernel,by decide +kernel,by decide +kernel,fun e he=>⟨(h2 e he).1,(h2 e he).2⟩,fun e he=>⟨(h3 e he).1,(h3 e he).2⟩,fun e he=>⟨(h4 e he).1,(h4 e he).2⟩⟩⟩
def c18:aw:=⟨[0,1,2,3],[],[1],[],[(2,[0,1,2,3,4,5,6,7,8],[])],[]⟩
theorem zY:ae Tryz.prog 18 [] [] (.bool true):=by
 have hl:=Ji ml zV Cs 5 WG ⟨by decide⟩ (by decide);rw [Pl,WE] at hl
 have hD:ae Tryz.prog 19 [.agg (bJ ml),.agg [.sl 1 none [[.int .i64 0],[.int .i64 5],[.int .i64 0],[.int .i64 0],[.int .i64 (-1)],[.int .i64 0],[.int .i64 0],[.int .i64 0]],.int .i64 2,.int .i64 2],.agg [.int .i64 0,.int .i64 (-1),.aW],.int .i64 5] [] (.aQ [.sl 3 none (Jj.map kJ),.int .i64 0]):=
  ae.args hl (.cons (ag.refl _) (.cons (ag.refl _) (.cons (ag.agg (.cons (ag.refl _) (.cons (ag.refl _) (.cons (ag.nil (by decide)) .nil)))) (.cons (ag.refl _) .nil))))
 have h1:=Ha [1,3,5] [1,3,5] (by decide) (by decide);refine aG (F:=Tryz.f18) c18 rfl rfl rfl mixed rfl fun X=>?_;(conv=>whnf);repeat ((first|refine aX (WH) ?_|refine aX (hD) ?_|(refine ⟨2,_,af ⟨rfl,rfl⟩,?_⟩)|refine aX (h1) ?_|refine ⟨_,_,aK.here _,⟨Nat.le_of_ble_eq_true rfl,rfl⟩,?_⟩|refine And.intro (by show aJ (aH Tryz.f18 _) _=true;decide +kernel) ?_|intro (nb:Nat));conv=>whnf)
 exact ⟨congrArg AV.bool (by decide),rfl⟩
end Go.Abs.Wall.Spl
namespace Go.Abs.Wall.Spl
open Go Go.Abs Go.Proofs Go.Abs.Wall Go.Proofs.YtbmcnieifibckaaGreat.Br
theorem WI {xs:List AV} (h:Sh Tryz.prog eL 36 xs):∃ B:bX,xs=mj B/\wB B/\(∀ a∈B.aB,IntKind.i64.has a)/\IntKind.i64.has B.dM/\IntKind.i64.has B.cls:=by obtain ⟨ps,rfl,hp⟩:=oC h rfl;obtain ⟨x,y,z,rfl,h1,h2,h3⟩:=Fh hp;obtain ⟨a,rfl,ha,hi⟩:=Jk h1;obtain ⟨b,rfl,hb⟩:=iU h2;obtain ⟨c,rfl,hc⟩:=iU h3;exact ⟨⟨a,b,c⟩,rfl,⟨by unfold eL at ha;exact ha⟩,hi,hb,hc⟩
theorem WJ {x:AV} (h:vg Tryz.prog eL 36 x):∃ B:bX,x=.agg (mj B)/\wB B/\(∀ a∈B.aB,IntKind.i64.has a)/\IntKind.i64.has B.dM/\IntKind.i64.has B.cls:=by obtain ⟨xs,h,hx⟩:=h;have hx:x=.agg xs:=hx;subst hx;obtain ⟨B,rfl,hf⟩:=WI h;exact ⟨B,rfl,hf⟩
structure Jl where
 line:List Int
 word:cO
def Jm (w:Jl):List AV:=[.sl 1 none (ints w.line)]++du w.word
end Go.Abs.Wall.Spl
