/- Small laws for the walks and contracts of functions; each theorem names its conditions. -/
import Derived.Test.YtdjdbggpgmddnaaGreatN21
import Derived.Recover
set_option maxRecDepth 100000
set_option maxHeartbeats 2000000
set_option linter.unusedVariables false
set_option linter.unusedSimpArgs false
namespace Go.Abs.Wall.Dic
open Go Go.Abs Go.Proofs Go.Abs.Wall
theorem QCall.under {P:Program} {f:FuncId} {args:List AV} {h:Heap} {v:AV} (hf:QCall P f args h v) (h2:Heap):QCall P f args (h2++h) v:=
 ACalls.mono (fun v' h' ⟨h1,⟨e1,e2⟩,e3⟩=>⟨e1,by rw [e3,e2]⟩) (ACalls.under hf h2)
theorem ItsH.one {x:Itm} {cs:List AV} {hp:Heap} (h:ItH x cs hp):ItsH [x] [cs] hp:=by have:=ItsH.cons x cs hp [] [] [] h .nil;rw [List.append_nil] at this;exact this
theorem ItsH.snoc {y:Itm} {cs:List AV} {hy:Heap} (hh:ItH y cs hy):∀ {xs:List Itm} {rows:List (List AV)} {hp:Heap},ItsH xs rows hp->ItsH (xs++[y]) (rows++[cs]) (hp++hy)
 | [],_,_,h=>by cases h;exact .one hh
 | x::xs,_,_,h=>by
   cases h with
   | cons _ c1 h1 _ r2 h2 k1 k2=>
     rw [List.append_assoc];exact .cons _ _ _ _ _ _ k1 (ItsH.snoc hh k2)
theorem iszs_snoc:∀ (xs:List Itm) (y:Itm),iszs (xs++[y])=iszs xs+isz y
 | [],y=>by simp [iszs]
 | x::xs,y=>by rw [List.cons_append,iszs,iszs,iszs_snoc xs y];omega
theorem ItsH.len:∀ {xs:List Itm} {rows:List (List AV)} {hp:Heap},ItsH xs rows hp->rows.length=xs.length
 | [],_,_,h=>by cases h;rfl
 | x::xs,_,_,h=>by
   cases h with
   | cons _ c1 h1 _ r2 h2 k1 k2=>simp [ItsH.len k2]
def GotL (s:List UInt8) (a:Nat) (xs:List Itm) (b:Nat):Prop:=xs≠[]/\a<b/\b<=s.length/\iszs xs+xs.length+2*(xs.length - 1)<=2*(b - a)
theorem ItsH.fl:∀ {xs:List Itm} {rows:List (List AV)} {hp:Heap},ItsH xs rows hp->rows.flatten.length=xs.length*11
 | [],_,_,h=>by cases h;rfl
 | x::xs,_,_,h=>by
   cases h with
   | cons _ c1 h1 _ r2 h2 k1 k2=>
     obtain ⟨nd,code,n,k,rfl⟩:=k1.form;rw [List.flatten_cons,List.length_append,ItsH.fl k2,List.length_cons];simp only [itmC,encNod,List.length_append,List.length_cons,List.length_nil];omega
theorem nodup_perm {a b:Heap} (h:List.Perm a b) (hn:(keys a).Nodup):(keys b).Nodup:=(h.map _).nodup_iff.1 hn
theorem oneC (kind:Int) (q bx:Nat) (o:Ob) (rd:Nat × Ob) {xs:List Itm} {rows:List (List AV)} {hp:Heap} (hI:ItsH xs rows hp) (hne:xs≠[]) (hl:xs.length<=65536) :
  ACalls Tryz.prog 215 [.int .i64 kind,.osl q 0 xs.length 11] ((q,.vec rows.flatten)::(bx,o)::(hp++[rd])) (fun v h'=>∃ y nd code n k h1,v=.agg (itmC nd code n k)/\ItH y (itmC nd code n k) h1/\isz y<=1+iszs xs/\(xs.length=1->isz y=iszs xs)/\h'=(bx,o)::(h1++[rd])):=by
 cases hI with
 | nil=>exact absurd rfl hne
 | cons x cs h1 xs rows h2 k1 k2=>
   have hP:List.Perm ((q,Ob.vec (cs::rows).flatten)::(bx,o)::(h1++h2++[rd])) (((q,Ob.vec (cs++rows.flatten))::(h1++h2))++[(bx,o),rd]):=by rw [List.flatten_cons,List.cons_append];exact .cons _ (List.perm_middle (l₁:=h1++h2) (l₂:=[rd])).symm
   refine ACalls.post (ACalls.pre (ACalls.frame (oneW kind q x xs cs rows h1 h2 k1 k2 (by rw [List.length_cons] at hl;omega)) [(bx,o),rd]) (fun k o hm=>hP.mem_iff.2 hm) (nodup_perm hP)) ?_;rintro v h' ⟨h3,⟨y,cs',rfl,hy,hs1,hs2⟩,rfl⟩;obtain ⟨nd,code,n,k,rfl⟩:=hy.form;have hP2:List.Perm (h3++[(bx,o),rd]) ((bx,o)::(h3++[rd])):=List.perm_middle (l₁:=h3) (l₂:=[rd]);refine ⟨_,(bx,o)::(h3++[rd]),⟨y,nd,code,n,k,h3,rfl,hy,by rw [iszs];exact hs1,fun e=>?_,rfl⟩,VLe.refl _,fun k o hm=>hP2.mem_iff.2 hm,nodup_perm hP2⟩;have:xs=[]:=List.eq_nil_of_length_eq_zero (by rw [List.length_cons] at e;omega);rw [hs2 this,this,iszs,iszs];omega
theorem GotL.snoc {s:List UInt8} {a b b2 b3:Nat} {xs:List Itm} {y:Itm} (h:GotL s a xs b) (h1:b<b2) (h2:b2<b3) (h3:b3<=s.length) (h4:isz y+1<=2*(b3 - b2)):GotL s a (xs++[y]) b3:=by obtain ⟨k1,k2,k3,k4⟩:=h;have:0<xs.length:=List.length_pos_iff.2 k1;refine ⟨by simp,by omega,h3,?_⟩;rw [iszs_snoc,List.length_append,List.length_singleton];omega
theorem GotL.one {s:List UInt8} {a b b2:Nat} {xs:List Itm} {y:Itm} (h:GotL s a xs b) (hb:b<=b2) (hs1:isz y<=1+iszs xs) (hs2:xs.length=1->isz y=iszs xs):a<b2/\isz y+1<=2*(b2 - a):=by
 obtain ⟨k1,k2,k3,k4⟩:=h;have:0<xs.length:=List.length_pos_iff.2 k1;by_cases hx:xs.length=1
 ·have:=hs2 hx;omega
 omega
theorem GotL.len {s:List UInt8} {a b:Nat} {xs:List Itm} (h:GotL s a xs b) (hs:s.length<=65536):xs.length<=65536:=by obtain ⟨k1,k2,k3,k4⟩:=h;omega
def c213:Cfg:=⟨[0,2,3,4,5,6,20,24],[14],[2,3,6],[],[(1,[],[]),(4,[],[]),(6,[],[])],[14]⟩
theorem besideP (rb:Nat) (s:List UInt8) (a:Nat) (ha:a<=s.length) (hs:s.length<=65536) (hO:∀ a',a<=a'->a'<=s.length->OverC rb s a') :
  PCalls Tryz.prog 213 [.optr rb 0] [RD rb s a] (fun v h'=>∃ cs h1,v=.agg cs/\GotI rb s a cs h1/\List.Sublist h1 h') (Bad rb s):=by
 refine fpcalls (F:=Tryz.f213) c213 rfl rfl rfl mixed rfl fun X=>?_;(conv=>whnf);unfold RD;repeat (intro (nb:Nat);conv=>whnf)
 revert nb;intro bx;refine region_pcall (c1:=kA c213 40) (c2:=kA c213 40) rfl 1 rfl rfl rfl rfl ?_;(conv=>whnf);skip;refine ⟨_,rfl,(PCalls.under (hO a (Nat.le_refl _) ha) [(bx,.vec (itmC zN [] 0 .nilS))]).mono (fun v h' h=>?_) fun v h' hS=>?_⟩
 rotate_left
 ·(conv=>whnf);exact hS
 obtain ⟨_,⟨cs,sh,rfl,x,hp,b,hx,hb,hbs,hsz,rfl⟩,rfl⟩:=h;obtain ⟨nd,code,n,k,rfl⟩:=hx.form;(conv=>whnf);repeat ((first|refine ⟨_,_,Rem.here _,⟨Nat.le_of_ble_eq_true rfl,rfl⟩,?_⟩|intro (nb:Nat));conv=>whnf)
 refine ⟨.int .u8 (byteAt s b),fun _=>?_,?_⟩
 ·rw [<- List.append_assoc,<- List.cons_append];exact QCall.under (nextW rb s b hbs hs) _
 (conv=>whnf);skip;refine ⟨fun h1=>?_,fun h1=>?_⟩
 ·(conv=>whnf);skip;refine region_pcall (c1:=kA c213 40) (c2:=kA c213 40) rfl 1 rfl rfl rfl rfl ?_;(conv=>whnf);skip;rw [<- List.append_assoc,<- List.cons_append];refine ⟨_,rfl,(PCalls.under (failW rb s b hbs hs (fun v h'=>False)) _).mono (fun v h' h=>(by obtain ⟨_,hh,_⟩:=h;exact hh.elim)) fun v h' hS=>?_⟩;(conv=>whnf);exact hS
 (conv=>whnf);skip;refine tloop rfl mixed [0,2,5] [] (fun m r h=>∃ (q:Nat) (xs:List Itm) (rows:List (List AV)) (hp:Heap) (b:Nat),r=[(0,[],.optr rb 0),(2,[],.optr bx 0),(5,[],.osl q 0 xs.length 11)]/\h=(q,.vec rows.flatten)::(bx,.vec (itmC zN [] 0 .nilS))::(hp++[RD rb s b])/\m=s.length - b/\ItsH xs rows hp/\GotL s a xs b) ?_ ?_
 ·(conv=>whnf);exact ⟨_,_,Turn.refl _ _,_,nb,[x],[itmC nd code n k],hp,b,rfl,rfl,rfl,.one hx,by simp,hb,hbs,by simp only [iszs,List.length_singleton];omega⟩
 rintro m r h ⟨q,xs,rows,hp,b,rfl,rfl,rfl,hI,hL⟩;have hab:=hL.2.1;have hbs:=hL.2.2.1;have hxl:=hL.len hs;have hlen:=hI.len;(conv=>whnf);skip;show ACalls _ _ _ (((q,.vec rows.flatten)::(bx,.vec (itmC zN [] 0 .nilS))::hp)++[RD rb s b]) _;refine isB rb s b 42 hbs hs _ fun m2 b2 hb2 hb2s hm2=>?_;(conv=>whnf);skip;refine ⟨fun h2=>?_,fun h2=>?_⟩
 ·have hb3:=hm2 h2;(conv=>whnf);skip;refine region_pcall (c1:=kA c213 40) (c2:=kA c213 40) rfl 1 rfl rfl rfl rfl ?_;(conv=>whnf);skip;refine ⟨_,rfl,(PCalls.under (hO b2 (by omega) hb2s) ((q,.vec rows.flatten)::(bx,.vec (itmC zN [] 0 .nilS))::hp)).mono (fun v h' h=>?_) fun v h' hS=>?_⟩
  rotate_left
  ·(conv=>whnf);exact hS
  obtain ⟨_,⟨cs2,sh2,rfl,y,hy,b3,hyI,hb4,hb3s,hsz3,rfl⟩,rfl⟩:=h;obtain ⟨nd2,code2,n2,k2,rfl⟩:=hyI.form;(conv=>whnf);repeat ((first|refine ⟨_,_,Rem.here _,⟨Nat.le_of_ble_eq_true rfl,rfl⟩,?_⟩|intro (nb:Nat));conv=>whnf)
  refine ⟨_,.head _,⟨hI.fl,by unfold AMAX;simp;omega⟩,fun b'=>⟨_,.here _,?_⟩⟩;(conv=>whnf);have e1:∀ (A:List AV),rows.flatten++[A].flatten=(rows++[A]).flatten:=fun A=>by simp
  refine ⟨_,_,Turn.refl _ _,s.length - b3,by omega,b',xs++[y],rows++[itmC nd2 code2 n2 k2],hp++hy,b3,by rw [List.length_append];rfl,?_,rfl,hI.snoc hyI,hL.snoc hb3 hb4 hb3s hsz3⟩;rw [e1,List.append_assoc];rfl
 (conv=>whnf);skip;refine ACalls.mono ?_ (oneC 2 q bx (.vec (itmC zN [] 0 .nilS)) (RD rb s b2) hI hL.1 hxl);rintro v h' ⟨y,nd2,code2,n2,k2,h1,rfl,hy,hs1,hs2,rfl⟩;(conv=>whnf);repeat (refine ⟨_,_,Rem.here _,⟨Nat.le_of_ble_eq_true rfl,rfl⟩,?_⟩;conv=>whnf)
 obtain ⟨h4,h5⟩:=hL.one hb2 hs1 hs2;exact ⟨_,_,rfl,⟨y,h1,b2,hy,h4,hb2s,h5,rfl⟩,.refl _⟩
theorem besideW (rb:Nat) (s:List UInt8) (a:Nat) (ha:a<=s.length) (hs:s.length<=65536) (hO:∀ a',a<=a'->a'<=s.length->OverC rb s a'):BesideC rb s a:=
 PCalls.sub (besideP rb s a ha hs hO) fun v h1 ⟨cs,h2,e,hg,hsub⟩=>⟨h2,⟨cs,e,hg⟩,hsub⟩
end Go.Abs.Wall.Dic
namespace Go.Abs.Wall.Dic
open Go Go.Abs Go.Proofs Go.Abs.Wall
def c212:Cfg:=⟨[0,1,4,5,14,18],[8],[4],[],[(1,[],[]),(3,[],[]),(5,[],[])],[8]⟩
theorem aboveP (rb:Nat) (s:List UInt8) (a:Nat) (w:Bool) (ha:a<=s.length) (hs:s.length<=65536) (hB:∀ a',a<=a'->a'<=s.length->BesideC rb s a') :
  PCalls Tryz.prog 212 [.optr rb 0,.bool w] [RD rb s a] (fun v h'=>∃ cs h1,v=.agg cs/\GotI rb s a cs h1/\List.Sublist h1 h') (Bad rb s):=by
 refine fpcalls (F:=Tryz.f212) c212 rfl rfl rfl mixed rfl fun X=>?_;(conv=>whnf);unfold RD;repeat (intro (nb:Nat);conv=>whnf)
 revert nb;intro bx;refine region_pcall (c1:=kA c212 40) (c2:=kA c212 40) rfl 1 rfl rfl rfl rfl ?_;(conv=>whnf);skip;refine ⟨_,rfl,(PCalls.under (hB a (Nat.le_refl _) ha) [(bx,.vec (itmC zN [] 0 .nilS))]).mono (fun v h' h=>?_) fun v h' hS=>?_⟩
 rotate_left
 ·(conv=>whnf);exact hS
 obtain ⟨_,⟨cs,rfl,x,hp,b,hx,hb,hbs,hsz,rfl⟩,rfl⟩:=h;obtain ⟨nd,code,n,k,rfl⟩:=hx.form;(conv=>whnf);repeat (intro (nb:Nat);conv=>whnf)
 refine ⟨.int .u8 (byteAt s b),fun _=>?_,?_⟩
 ·rw [<- List.append_assoc,<- List.cons_append];exact QCall.under (nextW rb s b hbs hs) _
 (conv=>whnf);skip;refine ⟨fun h1=>?_,fun h1=>?_⟩
 ·(conv=>whnf);skip;refine region_pcall (c1:=kA c212 40) (c2:=kA c212 40) rfl 1 rfl rfl rfl rfl ?_;(conv=>whnf);skip;rw [<- List.append_assoc,<- List.cons_append];refine ⟨_,rfl,(PCalls.under (failW rb s b hbs hs (fun v h'=>False)) _).mono (fun v h' h=>(by obtain ⟨_,hh,_⟩:=h;exact hh.elim)) fun v h' hS=>?_⟩;(conv=>whnf);exact hS
 (conv=>whnf);skip;refine tloop rfl mixed [0,4,5] [] (fun m r h=>∃ (q:Nat) (xs:List Itm) (rows:List (List AV)) (hp:Heap) (b:Nat),r=[(0,[],.optr rb 0),(4,[],.optr bx 0),(5,[],.osl q 0 xs.length 11)]/\h=(q,.vec rows.flatten)::(bx,.vec (itmC zN [] 0 .nilS))::(hp++[RD rb s b])/\m=s.length - b/\ItsH xs rows hp/\GotL s a xs b) ?_ ?_
 ·(conv=>whnf);exact ⟨_,_,Turn.refl _ _,_,nb,[x],[itmC nd code n k],hp,b,rfl,rfl,rfl,.one hx,by simp,hb,hbs,by simp only [iszs,List.length_singleton];omega⟩
 rintro m r h ⟨q,xs,rows,hp,b,rfl,rfl,rfl,hI,hL⟩;have hab:=hL.2.1;have hbs:=hL.2.2.1;have hxl:=hL.len hs;have hlen:=hI.len;(conv=>whnf);skip;show ACalls _ _ _ (((q,.vec rows.flatten)::(bx,.vec (itmC zN [] 0 .nilS))::hp)++[RD rb s b]) _;refine isB rb s b 58 hbs hs _ fun m2 b2 hb2 hb2s hm2=>?_;(conv=>whnf);skip;refine ⟨fun h2=>?_,fun h2=>?_⟩
 ·have hb3:=hm2 h2;(conv=>whnf);skip;refine region_pcall (c1:=kA c212 40) (c2:=kA c212 40) rfl 2 rfl rfl rfl rfl ?_;(conv=>whnf);skip;refine ⟨_,rfl,(PCalls.under (hB b2 (by omega) hb2s) ((q,.vec rows.flatten)::(bx,.vec (itmC zN [] 0 .nilS))::hp)).mono (fun v h' h=>?_) fun v h' hS=>?_⟩
  rotate_left
  ·(conv=>whnf);exact hS
  obtain ⟨_,⟨cs2,rfl,y,hy,b3,hyI,hb4,hb3s,hsz3,rfl⟩,rfl⟩:=h;obtain ⟨nd2,code2,n2,k2,rfl⟩:=hyI.form;(conv=>whnf);skip;refine ⟨_,.head _,⟨hI.fl,by unfold AMAX;simp;omega⟩,fun b'=>⟨_,.here _,?_⟩⟩;(conv=>whnf);have e1:∀ (A:List AV),rows.flatten++[A].flatten=(rows++[A]).flatten:=fun A=>by simp
  refine ⟨_,_,Turn.refl _ _,s.length - b3,by omega,b',xs++[y],rows++[itmC nd2 code2 n2 k2],hp++hy,b3,by rw [List.length_append];rfl,?_,rfl,hI.snoc hyI,hL.snoc hb3 hb4 hb3s hsz3⟩;rw [e1,List.append_assoc];rfl
 (conv=>whnf);skip;refine ACalls.mono ?_ (oneC 3 q bx (.vec (itmC zN [] 0 .nilS)) (RD rb s b2) hI hL.1 hxl);rintro v h' ⟨y,nd2,code2,n2,k2,h1,rfl,hy,hs1,hs2,rfl⟩;(conv=>whnf);repeat (refine ⟨_,_,Rem.here _,⟨Nat.le_of_ble_eq_true rfl,rfl⟩,?_⟩;conv=>whnf)
 obtain ⟨h4,h5⟩:=hL.one hb2 hs1 hs2;exact ⟨_,_,rfl,⟨y,h1,b2,hy,h4,hb2s,h5,rfl⟩,.refl _⟩
theorem aboveW (rb:Nat) (s:List UInt8) (a:Nat) (ha:a<=s.length) (hs:s.length<=65536) (hB:∀ a',a<=a'->a'<=s.length->BesideC rb s a'):AboveC rb s a:=
 fun w=>PCalls.sub (aboveP rb s a w ha hs hB) fun v h1 ⟨cs,h2,e,hg,hsub⟩=>⟨h2,⟨cs,e,hg⟩,hsub⟩
theorem aboveAll (rb:Nat) (s:List UInt8) (hs:s.length<=65536):∀ (n a:Nat),s.length - a<=n->a<=s.length->AboveC rb s a:=by
 have hO:∀ n,(∀ a,s.length - a<n->a<=s.length->AboveC rb s a)->∀ a,s.length - a<=n->a<=s.length->OverC rb s a:=fun n ih a ha has=>
  overW rb s a has hs fun a' h1 h2=>ih a' (by omega) h2
 intro n;induction n with
 | zero=>
   intro a ha has;refine aboveW rb s a has hs fun a' h1 h2=>besideW rb s a' h2 hs fun a2 h3 h4=>hO 0 (fun a3 h5=>by omega) a2 (by omega) h4
 | succ n ih=>
   intro a ha has;refine aboveW rb s a has hs fun a' h1 h2=>besideW rb s a' h2 hs fun a2 h3 h4=>hO (n+1) (fun a3 h5 h6=>ih a3 (by omega) h6) a2 (by omega) h4
theorem aboveR (rb:Nat) (s:List UInt8) (a:Nat) (ha:a<=s.length) (hs:s.length<=65536):AboveC rb s a:=aboveAll rb s hs _ a (Nat.le_refl _) ha
end Go.Abs.Wall.Dic
namespace Go.Abs.Wall.Dic
open Go Go.Abs Go.Proofs Go.Abs.Wall
def c210:Cfg:=⟨[0,2,3,6,15],[12],[],[],[(2,[],[]),(3,[],[]),(6,[],[])],[12]⟩
def c208:Cfg:=⟨[0,2,3,6,15],[12],[],[],[(2,[],[]),(3,[],[]),(6,[],[])],[12]⟩
def c206:Cfg:=⟨[0,1,4,5,10],[8],[],[],[(1,[],[]),(3,[],[])],[8]⟩
def PartC (rb:Nat) (s:List UInt8) (a:Nat):Prop:=PCalls Tryz.prog 210 [.optr rb 0] [RD rb s a] (fun v h'=>∃ cs,v=.agg cs/\GotI rb s a cs h') (Bad rb s)
def GroupC (rb:Nat) (s:List UInt8) (a:Nat):Prop:=PCalls Tryz.prog 208 [.optr rb 0] [RD rb s a] (fun v h'=>∃ cs,v=.agg cs/\GotI rb s a cs h') (Bad rb s)
theorem GotL.node {s:List UInt8} {a a1 b:Nat} {xs:List Itm} {nd:Nod} (h:GotL s a1 xs b) (h1:a<a1):isz (.mk nd [] 0 xs)+1<=2*(b+1 - a):=by obtain ⟨k1,k2,k3,k4⟩:=h;have:0<xs.length:=List.length_pos_iff.2 k1;rw [isz];omega
theorem partP (rb:Nat) (s:List UInt8) (a:Nat) (ha:a<=s.length) (hs:s.length<=65536) :
  PCalls Tryz.prog 210 [.optr rb 0] [RD rb s a] (fun v h'=>∃ cs h1,v=.agg cs/\GotI rb s a cs h1/\List.Sublist h1 h') (Bad rb s):=by
 refine fpcalls (F:=Tryz.f210) c210 rfl rfl rfl mixed rfl fun X=>?_;(conv=>whnf);unfold RD;repeat (intro (nb:Nat);conv=>whnf)
 revert nb;intro bx;show ACalls _ _ _ ([(bx,.vec (itmC zN [] 0 .nilS))]++[RD rb s a]) _;refine isB rb s a 91 ha hs _ fun m b hb hbs hm=>?_;(conv=>whnf);skip;refine ⟨fun h1=>?_,fun h1=>?_⟩
 ·(conv=>whnf);skip;refine region_pcall (c1:=kA c210 40) (c2:=kA c210 40) rfl 1 rfl rfl rfl rfl ?_;(conv=>whnf);skip;refine ⟨_,rfl,(PCalls.under (aboveR rb s b hbs hs false) [(bx,.vec (itmC zN [] 0 .nilS))]).mono (fun v h' h=>?_) fun v h' hS=>?_⟩
  rotate_left
  ·(conv=>whnf);exact hS
  obtain ⟨_,⟨cs,rfl,x,hp,b2,hx,hb2,hb2s,hsz,rfl⟩,rfl⟩:=h;obtain ⟨nd,code,n,k,rfl⟩:=hx.form;(conv=>whnf);repeat ((first|(refine ⟨_,_,.here _,⟨Nat.le_of_ble_eq_true rfl,Nat.le_of_ble_eq_true rfl⟩,?_⟩)|refine ⟨_,_,.head _,rfl,?_⟩);conv=>whnf)
  exact ⟨itmC nd code n k,_,rfl,⟨x,hp,b2,hx,by omega,by omega,by omega,rfl⟩,by first|exact .refl _|exact .cons _ (.refl _)⟩
 simp at h1;have hab:=hm h1;(conv=>whnf);skip;refine region_pcall (c1:=kA c210 40) (c2:=kA c210 40) rfl 2 rfl rfl rfl rfl ?_;(conv=>whnf);skip;refine ⟨_,rfl,(PCalls.under (aboveR rb s b hbs hs false) [(bx,.vec (itmC zN [] 0 .nilS))]).mono (fun v h' h=>?_) fun v h' hS=>?_⟩
 rotate_left
 ·(conv=>whnf);exact hS
 obtain ⟨_,⟨cs,rfl,x,hp,b2,hx,hb2,hb2s,hsz,rfl⟩,rfl⟩:=h;obtain ⟨nd,code,n,k,rfl⟩:=hx.form;(conv=>whnf);repeat ((first|(refine ⟨_,_,.here _,⟨Nat.le_of_ble_eq_true rfl,Nat.le_of_ble_eq_true rfl⟩,?_⟩)|intro (nb:Nat));conv=>whnf)
 rename_i q0;refine tloop rfl mixed [0,2,3] [] (fun m r h=>∃ (by':Nat) (q:Nat) (xs:List Itm) (rows:List (List AV)) (hp:Heap) (b2:Nat),r=[(0,[],.optr rb 0),(2,[],.optr bx 0),(3,[],.optr by' 0)]/\h=(by',.vec (itmC ⟨7,0,0,0,false,0,0,0⟩ [] 0 (.osl q 0 xs.length 11)))::(q,.vec rows.flatten)::(bx,.vec (itmC zN [] 0 .nilS))::(hp++[RD rb s b2])/\m=s.length - b2/\ItsH xs rows hp/\GotL s b xs b2) ?_ ?_
 ·(conv=>whnf);exact ⟨_,_,Turn.refl _ _,_,nb,q0,[x],[itmC nd code n k],hp,b2,rfl,rfl,rfl,.one hx,by simp,hb2,hb2s,by simp only [iszs,List.length_singleton];omega⟩
 rintro m r h ⟨by',q,xs,rows,hp,b2,rfl,rfl,rfl,hI,hL⟩;have hab2:=hL.2.1;have hb2s:=hL.2.2.1;have hxl:=hL.len hs;(conv=>whnf);skip;show ACalls _ _ _ (((by',.vec (itmC ⟨7,0,0,0,false,0,0,0⟩ [] 0 (.osl q 0 xs.length 11)))::(q,.vec rows.flatten)::(bx,.vec (itmC zN [] 0 .nilS))::hp)++[RD rb s b2]) _;refine isB rb s b2 59 hb2s hs _ fun m2 b3 hb3 hb3s hm2=>?_;(conv=>whnf);skip;refine ⟨fun h2=>?_,fun h2=>?_⟩
 ·have hb4:=hm2 h2;(conv=>whnf);skip;refine region_dcall (c1:=kA c210 40) rfl mixed [0,1,2] 3 [4,5,6,7] (by rfl) (by rfl) (by rfl) (by rfl) (by rfl) (by rfl) ?_;(conv=>whnf);repeat ((refine ⟨_,_,.head _,rfl,?_⟩);conv=>whnf)
  refine ⟨_,rfl,(PCalls.under (aboveR rb s b3 hb3s hs false) ((by',.vec (itmC ⟨7,0,0,0,false,0,0,0⟩ [] 0 (.osl q 0 xs.length 11)))::(q,.vec rows.flatten)::(bx,.vec (itmC zN [] 0 .nilS))::hp)).mono (fun v h' h=>?_) fun v h' hS=>?_⟩
  rotate_left
  ·(conv=>whnf);exact hS
  obtain ⟨_,⟨cs2,rfl,y,hy,b4,hyI,hb5,hb4s,hsz3,rfl⟩,rfl⟩:=h;obtain ⟨nd2,code2,n2,k2,rfl⟩:=hyI.form;refine ⟨fun j hj=>?_,?_⟩
  ·have hj:j∈[1]:=hj;rw [List.mem_singleton] at hj;subst hj;exact .inr ⟨_,_,_,_,_,rfl,rfl,rfl,rfl,rfl,_,.head _,.head _⟩
  (conv=>whnf);skip;refine ⟨_,.tail _ (.head _),⟨hI.fl,by unfold AMAX;simp;omega⟩,fun b'=>⟨_,.there (.here _),?_⟩⟩;(conv=>whnf);repeat ((refine ⟨_,_,.here _,⟨Nat.le_of_ble_eq_true rfl,Nat.le_of_ble_eq_true rfl⟩,?_⟩);conv=>whnf)
  have e1:∀ (A:List AV),rows.flatten++[A].flatten=(rows++[A]).flatten:=fun A=>by simp
  refine ⟨_,_,Turn.refl _ _,s.length - b4,by omega,by',b',xs++[y],rows++[itmC nd2 code2 n2 k2],hp++hy,b4,rfl,?_,rfl,hI.snoc hyI,hL.snoc hb4 hb5 hb4s hsz3⟩;rw [e1,List.append_assoc,List.length_append];rfl
 (conv=>whnf);skip;refine region_pcall (c1:=kA c210 40) (c2:=kA c210 40) rfl 1 rfl rfl rfl rfl ?_;(conv=>whnf);skip;refine ⟨_,rfl,(PCalls.under (mustW rb s b3 93 hb3s hs) ((by',.vec (itmC ⟨7,0,0,0,false,0,0,0⟩ [] 0 (.osl q 0 xs.length 11)))::(q,.vec rows.flatten)::(bx,.vec (itmC zN [] 0 .nilS))::hp)).mono (fun v h' h=>?_) fun v h' hS=>?_⟩
 rotate_left
 ·(conv=>whnf);exact hS
 obtain ⟨_,⟨rfl,hlt,rfl⟩,rfl⟩:=h;(conv=>whnf);repeat ((first|(refine ⟨_,_,.head _,rfl,?_⟩)|(refine ⟨_,_,.there (.there (.here _)),⟨Nat.le_of_ble_eq_true rfl,Nat.le_of_ble_eq_true rfl⟩,?_⟩));conv=>whnf)
 refine ⟨_,_,.tail _ (.tail _ (.head _)),rfl,?_⟩;(conv=>whnf);have hsz:=hL.node (nd:=⟨7,0,0,0,false,0,0,0⟩) hab;refine ⟨itmC ⟨7,0,0,0,false,0,0,0⟩ [] 0 (.osl q 0 xs.length 11),(q,.vec rows.flatten)::(hp++[RD rb s (b3+1)]),rfl,⟨.mk ⟨7,0,0,0,false,0,0,0⟩ [] 0 xs,(q,.vec rows.flatten)::hp,b3+1,.node _ _ _ xs q rows hp (by simp) hL.1 hI,by omega,by omega,by omega,rfl⟩,?_⟩
 first
  | exact .cons _ (.cons_cons _ (.cons _ (.refl _)))
  | exact .cons _ (.cons_cons _ (.refl _))
  | exact .cons_cons _ (.cons _ (.refl _))
  | exact .cons_cons _ (.refl _)
theorem partW (rb:Nat) (s:List UInt8) (a:Nat) (ha:a<=s.length) (hs:s.length<=65536):PartC rb s a:=
 PCalls.sub (partP rb s a ha hs) fun v h1 ⟨cs,h2,e,hg,hsub⟩=>⟨h2,⟨cs,e,hg⟩,hsub⟩
theorem groupP (rb:Nat) (s:List UInt8) (a:Nat) (ha:a<=s.length) (hs:s.length<=65536) :
  PCalls Tryz.prog 208 [.optr rb 0] [RD rb s a] (fun v h'=>∃ cs h1,v=.agg cs/\GotI rb s a cs h1/\List.Sublist h1 h') (Bad rb s):=by
 refine fpcalls (F:=Tryz.f208) c208 rfl rfl rfl mixed rfl fun X=>?_;(conv=>whnf);unfold RD;repeat (intro (nb:Nat);conv=>whnf)
 revert nb;intro bx;show ACalls _ _ _ ([(bx,.vec (itmC zN [] 0 .nilS))]++[RD rb s a]) _;refine isB rb s a 60 ha hs _ fun m b hb hbs hm=>?_;(conv=>whnf);skip;refine ⟨fun h1=>?_,fun h1=>?_⟩
 ·(conv=>whnf);skip;refine region_pcall (c1:=kA c208 40) (c2:=kA c208 40) rfl 1 rfl rfl rfl rfl ?_;(conv=>whnf);skip;refine ⟨_,rfl,(PCalls.under (partW rb s b hbs hs) [(bx,.vec (itmC zN [] 0 .nilS))]).mono (fun v h' h=>?_) fun v h' hS=>?_⟩
  rotate_left
  ·(conv=>whnf);exact hS
  obtain ⟨_,⟨cs,rfl,x,hp,b2,hx,hb2,hb2s,hsz,rfl⟩,rfl⟩:=h;obtain ⟨nd,code,n,k,rfl⟩:=hx.form;(conv=>whnf);repeat ((first|(refine ⟨_,_,.here _,⟨Nat.le_of_ble_eq_true rfl,Nat.le_of_ble_eq_true rfl⟩,?_⟩)|refine ⟨_,_,.head _,rfl,?_⟩);conv=>whnf)
  exact ⟨itmC nd code n k,_,rfl,⟨x,hp,b2,hx,by omega,by omega,by omega,rfl⟩,by first|exact .refl _|exact .cons _ (.refl _)⟩
 simp at h1;have hab:=hm h1;(conv=>whnf);skip;refine region_pcall (c1:=kA c208 40) (c2:=kA c208 40) rfl 2 rfl rfl rfl rfl ?_;(conv=>whnf);skip;refine ⟨_,rfl,(PCalls.under (partW rb s b hbs hs) [(bx,.vec (itmC zN [] 0 .nilS))]).mono (fun v h' h=>?_) fun v h' hS=>?_⟩
 rotate_left
 ·(conv=>whnf);exact hS
 obtain ⟨_,⟨cs,rfl,x,hp,b2,hx,hb2,hb2s,hsz,rfl⟩,rfl⟩:=h;obtain ⟨nd,code,n,k,rfl⟩:=hx.form;(conv=>whnf);repeat ((first|(refine ⟨_,_,.here _,⟨Nat.le_of_ble_eq_true rfl,Nat.le_of_ble_eq_true rfl⟩,?_⟩)|intro (nb:Nat));conv=>whnf)
 rename_i q0;refine tloop rfl mixed [0,2,3] [] (fun m r h=>∃ (by':Nat) (q:Nat) (xs:List Itm) (rows:List (List AV)) (hp:Heap) (b2:Nat),r=[(0,[],.optr rb 0),(2,[],.optr bx 0),(3,[],.optr by' 0)]/\h=(by',.vec (itmC ⟨5,0,0,0,false,0,0,0⟩ [] 0 (.osl q 0 xs.length 11)))::(q,.vec rows.flatten)::(bx,.vec (itmC zN [] 0 .nilS))::(hp++[RD rb s b2])/\m=s.length - b2/\ItsH xs rows hp/\GotL s b xs b2) ?_ ?_
 ·(conv=>whnf);exact ⟨_,_,Turn.refl _ _,_,nb,q0,[x],[itmC nd code n k],hp,b2,rfl,rfl,rfl,.one hx,by simp,hb2,hb2s,by simp only [iszs,List.length_singleton];omega⟩
 rintro m r h ⟨by',q,xs,rows,hp,b2,rfl,rfl,rfl,hI,hL⟩;have hab2:=hL.2.1;have hb2s:=hL.2.2.1;have hxl:=hL.len hs;(conv=>whnf);skip;show ACalls _ _ _ (((by',.vec (itmC ⟨5,0,0,0,false,0,0,0⟩ [] 0 (.osl q 0 xs.length 11)))::(q,.vec rows.flatten)::(bx,.vec (itmC zN [] 0 .nilS))::hp)++[RD rb s b2]) _;refine isB rb s b2 45 hb2s hs _ fun m2 b3 hb3 hb3s hm2=>?_;(conv=>whnf);skip;refine ⟨fun h2=>?_,fun h2=>?_⟩
 ·have hb4:=hm2 h2;(conv=>whnf);skip;refine region_dcall (c1:=kA c208 40) rfl mixed [0,1,2] 3 [4,5,6,7] (by rfl) (by rfl) (by rfl) (by rfl) (by rfl) (by rfl) ?_;(conv=>whnf);repeat ((refine ⟨_,_,.head _,rfl,?_⟩);conv=>whnf)
  refine ⟨_,rfl,(PCalls.under (partW rb s b3 hb3s hs) ((by',.vec (itmC ⟨5,0,0,0,false,0,0,0⟩ [] 0 (.osl q 0 xs.length 11)))::(q,.vec rows.flatten)::(bx,.vec (itmC zN [] 0 .nilS))::hp)).mono (fun v h' h=>?_) fun v h' hS=>?_⟩
  rotate_left
  ·(conv=>whnf);exact hS
  obtain ⟨_,⟨cs2,rfl,y,hy,b4,hyI,hb5,hb4s,hsz3,rfl⟩,rfl⟩:=h;obtain ⟨nd2,code2,n2,k2,rfl⟩:=hyI.form;refine ⟨fun j hj=>?_,?_⟩
  ·have hj:j∈[1]:=hj;rw [List.mem_singleton] at hj;subst hj;exact .inr ⟨_,_,_,_,_,rfl,rfl,rfl,rfl,rfl,_,.head _,.head _⟩
  (conv=>whnf);skip;refine ⟨_,.tail _ (.head _),⟨hI.fl,by unfold AMAX;simp;omega⟩,fun b'=>⟨_,.there (.here _),?_⟩⟩;(conv=>whnf);repeat ((refine ⟨_,_,.here _,⟨Nat.le_of_ble_eq_true rfl,Nat.le_of_ble_eq_true rfl⟩,?_⟩);conv=>whnf)
  have e1:∀ (A:List AV),rows.flatten++[A].flatten=(rows++[A]).flatten:=fun A=>by simp
  refine ⟨_,_,Turn.refl _ _,s.length - b4,by omega,by',b',xs++[y],rows++[itmC nd2 code2 n2 k2],hp++hy,b4,rfl,?_,rfl,hI.snoc hyI,hL.snoc hb4 hb5 hb4s hsz3⟩;rw [e1,List.append_assoc,List.length_append];rfl
 (conv=>whnf);skip;refine region_pcall (c1:=kA c208 40) (c2:=kA c208 40) rfl 1 rfl rfl rfl rfl ?_;(conv=>whnf);skip;refine ⟨_,rfl,(PCalls.under (mustW rb s b3 62 hb3s hs) ((by',.vec (itmC ⟨5,0,0,0,false,0,0,0⟩ [] 0 (.osl q 0 xs.length 11)))::(q,.vec rows.flatten)::(bx,.vec (itmC zN [] 0 .nilS))::hp)).mono (fun v h' h=>?_) fun v h' hS=>?_⟩
 rotate_left
 ·(conv=>whnf);exact hS
 obtain ⟨_,⟨rfl,hlt,rfl⟩,rfl⟩:=h;(conv=>whnf);repeat ((first|(refine ⟨_,_,.head _,rfl,?_⟩)|(refine ⟨_,_,.there (.there (.here _)),⟨Nat.le_of_ble_eq_true rfl,Nat.le_of_ble_eq_true rfl⟩,?_⟩));conv=>whnf)
 refine ⟨_,_,.tail _ (.tail _ (.head _)),rfl,?_⟩;(conv=>whnf);have hsz:=hL.node (nd:=⟨5,0,0,0,false,0,0,0⟩) hab;refine ⟨itmC ⟨5,0,0,0,false,0,0,0⟩ [] 0 (.osl q 0 xs.length 11),(q,.vec rows.flatten)::(hp++[RD rb s (b3+1)]),rfl,⟨.mk ⟨5,0,0,0,false,0,0,0⟩ [] 0 xs,(q,.vec rows.flatten)::hp,b3+1,.node _ _ _ xs q rows hp (by simp) hL.1 hI,by omega,by omega,by omega,rfl⟩,?_⟩
 first
  | exact .cons _ (.cons_cons _ (.cons _ (.refl _)))
  | exact .cons _ (.cons_cons _ (.refl _))
  | exact .cons_cons _ (.cons _ (.refl _))
  | exact .cons_cons _ (.refl _)
theorem groupW (rb:Nat) (s:List UInt8) (a:Nat) (ha:a<=s.length) (hs:s.length<=65536):GroupC rb s a:=
 PCalls.sub (groupP rb s a ha hs) fun v h1 ⟨cs,h2,e,hg,hsub⟩=>⟨h2,⟨cs,e,hg⟩,hsub⟩
theorem readW (rb:Nat) (s:List UInt8) (ha:0<s.length) (hs:s.length<=65536) :
  PCalls Tryz.prog 206 [.agg [],.optr rb 0] [RD rb s 0] (fun v h'=>∃ xs rows hp q b,v=.osl q 0 xs.length 11/\ItsH xs rows hp/\GotL s 0 xs b/\h'=(q,.vec rows.flatten)::(hp++[RD rb s b])) (Bad rb s):=by
 refine fpcalls (F:=Tryz.f206) c206 rfl rfl rfl mixed rfl fun X=>?_;(conv=>whnf);unfold RD;skip;refine region_pcall (c1:=kA c206 40) (c2:=kA c206 40) rfl 1 rfl rfl rfl rfl ?_;(conv=>whnf);skip;refine ⟨_,rfl,(groupW rb s 0 (by omega) hs).mono (fun v h' h=>?_) fun v h' hS=>?_⟩
 rotate_left
 ·(conv=>whnf);exact hS
 obtain ⟨cs,rfl,x,hp,b,hx,hb,hbs,hsz,rfl⟩:=h;obtain ⟨nd,code,n,k,rfl⟩:=hx.form;(conv=>whnf);repeat (intro (nb:Nat);conv=>whnf)
 refine tloop rfl mixed [1,5] [] (fun m r h=>∃ (q:Nat) (xs:List Itm) (rows:List (List AV)) (hp:Heap) (b:Nat),r=[(1,[],.optr rb 0),(5,[],.osl q 0 xs.length 11)]/\h=(q,.vec rows.flatten)::(hp++[RD rb s b])/\m=s.length - b/\ItsH xs rows hp/\GotL s 0 xs b) ?_ ?_
 ·(conv=>whnf);exact ⟨_,_,Turn.refl _ _,_,nb,[x],[itmC nd code n k],hp,b,rfl,rfl,rfl,.one hx,by simp,hb,hbs,by simp only [iszs,List.length_singleton];omega⟩
 rintro m r h ⟨q,xs,rows,hp,b,rfl,rfl,rfl,hI,hL⟩;have hab:=hL.2.1;have hbs:=hL.2.2.1;have hxl:=hL.len hs;(conv=>whnf);skip;show ACalls _ _ _ (((q,.vec rows.flatten)::hp)++[RD rb s b]) _;refine isB rb s b 45 hbs hs _ fun m2 b2 hb2 hb2s hm2=>?_;(conv=>whnf);skip;refine ⟨fun h2=>?_,fun h2=>?_⟩
 ·have hb3:=hm2 h2;(conv=>whnf);skip;refine region_pcall (c1:=kA c206 40) (c2:=kA c206 40) rfl 2 rfl rfl rfl rfl ?_;(conv=>whnf);skip;refine ⟨_,rfl,(PCalls.under (groupW rb s b2 hb2s hs) ((q,.vec rows.flatten)::hp)).mono (fun v h' h=>?_) fun v h' hS=>?_⟩
  rotate_left
  ·(conv=>whnf);exact hS
  obtain ⟨_,⟨cs2,rfl,y,hy,b3,hyI,hb4,hb3s,hsz3,rfl⟩,rfl⟩:=h;obtain ⟨nd2,code2,n2,k2,rfl⟩:=hyI.form;(conv=>whnf);skip;refine ⟨_,.head _,⟨hI.fl,by unfold AMAX;simp;omega⟩,fun b'=>⟨_,.here _,?_⟩⟩;(conv=>whnf);have e1:∀ (A:List AV),rows.flatten++[A].flatten=(rows++[A]).flatten:=fun A=>by simp
  refine ⟨_,_,Turn.refl _ _,s.length - b3,by omega,b',xs++[y],rows++[itmC nd2 code2 n2 k2],hp++hy,b3,by rw [List.length_append];rfl,?_,rfl,hI.snoc hyI,hL.snoc hb3 hb4 hb3s hsz3⟩;rw [e1,List.append_assoc];rfl
 (conv=>whnf);skip;obtain ⟨k1,k2,k3,k4⟩:=hL;exact ⟨xs,rows,hp,q,b2,rfl,hI,⟨k1,by omega,hb2s,by omega⟩,rfl⟩
end Go.Abs.Wall.Dic
/-
 The abstract layer,part Pf: functions that defer a call: the rest of the body runs with a deferred call on the list.
-/
namespace Go.Abs
open Go
variable {P:Program} {n:Nat} {X:Nat->Prop}
def Act.dfr (a:Act) (D:List Deferred):Act:={ a with defers:=a.defers++D }
theorem eval_dfr (a:Act) (D:List Deferred):(Act.dfr a D).eval=a.eval:=by funext x;cases x<;>rfl
theorem put_dfr (a:Act) (D:List Deferred) (d:Option Nat) (v:Value):(Act.dfr a D).put d v=Act.dfr (a.put d v) D:=by cases d<;>rfl
def QD (D:List Deferred) (Q:Exit->Act->World->Prop) (e:Exit) (a':Act) (w:World):Prop:=∃ a0,Q e a0 w/\a'=Act.dfr a0 D
theorem upon_dfr {D:List Deferred} {o:Oper} {a:Act} {next next':Act->World->Prop} {Q:Exit->Act->World->Prop} (hn:∀ a w,next a w->next' (Act.dfr a D) w) {r:Result Next} (h:o.upon P a next Q r):o.upon P (Act.dfr a D) next' (QD D Q) r:=by
 unfold Oper.upon at h;split at h
 ·show next' _ _;rw [put_dfr];exact hn _ _ h
 ·show next' _ _;rw [put_dfr];exact hn _ _ h
 ·rename_i d w';show next' ({ Act.dfr a D with defers:=d::(Act.dfr a D).defers }.put o.dst undef) w';have e:({ Act.dfr a D with defers:=d::(Act.dfr a D).defers }:Act)=Act.dfr { a with defers:=d::a.defers } D:=rfl;rw [e,put_dfr];exact hn _ _ h
 ·refine Calls.mono h fun e w' he=>?_;cases e with
  | returned v=>
    show next' _ _;rw [put_dfr];exact hn _ _ he
  | panicked c=>exact ⟨_,he,rfl⟩
  | outgrown=>obtain ⟨a0,w0,hq⟩:=he;exact ⟨_,w0,a0,hq,rfl⟩
 ·intro fr cs;obtain ⟨v,w2,hR,hs⟩:=h fr cs;exact ⟨v,w2,by show next' _ _;rw [put_dfr];exact hn _ _ hR,hs⟩
 ·exact ⟨_,h,rfl⟩
 exact h.elim
theorem wpOps_dfr {D:List Deferred} {ops:Array Oper} {Q:Exit->Act->World->Prop}:∀ (l:List Nat) (a:Act) (w:World),wpOps P ops Q l a w->wpOps P ops (QD D Q) l (Act.dfr a D) w
 | [],a,w,h=>⟨a,h,rfl⟩
 | i::rest,a,w,h=>by
   unfold wpOps at h ⊢;split at h
   ·exact wpOps_dfr rest a w h
   split at h
   ·rename_i o _ hw;have hw':Region.wanted o (yielded ops (Act.dfr a D).tmps)=true:=hw;rw [if_pos hw'];rcases h with h|⟨h,a0,w0,hq⟩
    ·refine .inl ?_;unfold Oper.wp at h ⊢;rw [eval_dfr];exact upon_dfr (fun a w hh=>wpOps_dfr rest a w hh) h
    refine .inr ⟨?_,_,w0,a0,hq,rfl⟩;unfold Oper.asks at h ⊢;rw [eval_dfr];exact h
   rename_i o _ hw;have hw':¬ Region.wanted o (yielded ops (Act.dfr a D).tmps)=true:=hw;rw [if_neg hw',put_dfr];exact wpOps_dfr rest _ w h
def OutA (n:Nat) (X:Nat->Prop) (g:Gh) (h:Heap) (w:World) (Q:Ex->Regs->Heap->Prop) (e:Exit) (a':Act) (w':World):Prop:=
 ∃ ex g' r' h',e=Ex.toExit ex/\Q ex r' h'/\Conc n X g' r' h' a' w'/\Step X g h w g' h' w'
def RO (P:Program) (n:Nat) (X:Nat->Prop) (ops:Array Oper) (Q:Ex->Regs->Heap->Prop) (r:Regs) (h:Heap):Prop:=
 ∀ g a w,Conc n X g r h a w->wpOps P ops (OutA n X g h w Q) (List.range ops.size) a w
structure HD (P:Program) (n:Nat) (X:Nat->Prop) (D:List Deferred) (c:Code) (Q:Ex->Regs->Heap->Prop) (r:Regs) (h:Heap):Prop where
 holds:∀ g a w,Conc n X g r h a w->c.wp P (QD D (OutA n X g h w Q)) (Act.dfr a D) w
theorem HD.region {D:List Deferred} {id:Nat} {ops:Array Oper} {Q:Ex->Regs->Heap->Prop} {r:Regs} {h:Heap} (hr:RO P n X ops Q r h):HD P n X D (.region id ops false) Q r h:=
 ⟨fun g a w hc=>wp_region (wpOps_dfr _ _ _ (hr g a w hc))⟩
theorem HD.seq {D:List Deferred} {x y:Code} {Q:Ex->Regs->Heap->Prop} {r:Regs} {h:Heap} (hx:HD P n X D x (fun e r h=>match e with|.normal=>HD P n X D y Q r h|e=>Q e r h) r h):HD P n X D (.seq x y) Q r h:=by
 refine ⟨fun g a w hc=>?_⟩;refine wp_seq (wp_mono (hx.holds g a w hc) ?_);rintro e a' w' ⟨a0,⟨ex,g',r',h',rfl,hQ,hc',hst⟩,rfl⟩;cases ex with
 | normal=>
   refine wp_mono (HD.holds hQ g' a0 w' hc') ?_;rintro e a2 w2 ⟨a1,⟨ex,g2,r2,h2,rfl,hQ2,hc2,hst2⟩,rfl⟩;exact ⟨a1,⟨ex,g2,r2,h2,rfl,hQ2,hc2,hst.trans hc.cw.own hst2⟩,rfl⟩
 | exit i=>exact ⟨a0,⟨_,g',r',h',rfl,hQ,hc',hst⟩,rfl⟩
 | ret=>exact ⟨a0,⟨_,g',r',h',rfl,hQ,hc',hst⟩,rfl⟩
 | pan v=>exact ⟨a0,⟨_,g',r',h',rfl,hQ,hc',hst⟩,rfl⟩
theorem HD.cond {D:List Deferred} {x:Operand} {a b:Code} {t:Bool} {Q:Ex->Regs->Heap->Prop} {r:Regs} {h:Heap} (hx:opnd r [] x=some (.bool t)) (ha:t=true->HD P n X D a Q r h) (hb:t=false->HD P n X D b Q r h):HD P n X D (.cond x a b) Q r h:=by
 refine ⟨fun g ac w hc=>?_⟩;have hg0:holdsC ac []:=fun e he=>by cases he
 have hr:=hc.opnd hg0 hx;simp only [Rep] at hr;have hr':(Act.dfr ac D).eval x=.bool t:=by rw [eval_dfr];exact hr
 exact wp_cond_split hr' (fun e=>(ha e).holds g ac w hc) (fun e=>(hb e).holds g ac w hc)
theorem HD.ret {D:List Deferred} {Q:Ex->Regs->Heap->Prop} {r:Regs} {h:Heap} (hq:Q .ret r h):HD P n X D .ret Q r h:=
 ⟨fun g a w hc=>wp_ret ⟨a,⟨.ret,g,r,h,rfl,hq,hc,Step.refl _ _ _ _⟩,rfl⟩⟩
theorem HD.skip {D:List Deferred} {Q:Ex->Regs->Heap->Prop} {r:Regs} {h:Heap} (hq:Q .normal r h):HD P n X D .skip Q r h:=
 ⟨fun g a w hc=>wp_skip ⟨a,⟨.normal,g,r,h,rfl,hq,hc,Step.refl _ _ _ _⟩,rfl⟩⟩
theorem RO.plain {c:Cfg} {ops:Array Oper} {Q:Ex->Regs->Heap->Prop} {r:Regs} {h:Heap} (h1:regP P c n ops.toList (Q .normal) ops.toList r h):RO P n X ops Q r h:=by
 intro g a w hc;have hops:ops.toList.toArray=ops:=by simp
 have:=regP_pre (Q:=OutA n X g h w Q) [] ops.toList 0 r h g a w (fun j x hx=>by rw [Nat.zero_add];exact hx) h1 hc
  fun r' h' g' a' w' hR hc' hst=>⟨.normal,g',r',h',rfl,hR,hc',hst⟩
 rw [hops,List.append_nil,<- List.range_eq_range'] at this;simpa using this
def PanOp (P:Program) (n:Nat) (X:Nat->Prop) (o:Oper) (r:Regs) (h:Heap) (K:AV->Heap->Prop) (S:Value->Heap->Prop):Prop:=
 ∀ g a w,Conc n X g r h a w->∀ (next:Act->World->Prop) (Q:Exit->Act->World->Prop),
  (∀ v h2 g2 u w2,K v h2->CW X g2 h2 w2->Rep ⟨g2,live X h2,w2⟩ v u->Step X g h w g2 h2 w2->next (a.put o.dst u) w2) ->
  (∀ v h2 g2 w2,S v h2->CW X g2 h2 w2->Step X g h w g2 h2 w2->Q (.panic [{ v:=v,recovered:=false }]) a w2)->o.wp P a w next Q
theorem PanOp.run {o:Oper} {r:Regs} {h:Heap} {f:FuncId} {vs:List AV} {K:AV->Heap->Prop} {S:Value->Heap->Prop} (hP:PCalls P f vs h K S)
  (hrun:∀ g a w,Conc n X g r h a w->∃ us,RepVs ⟨g,live X h,w⟩ vs us.toList/\(execOp a.eval o).run P w=(callFunc f us).run P w):PanOp P n X o r h K S:=by
 intro g a w hc next Q hk hp;obtain ⟨us,hus,hr⟩:=hrun g a w hc;exact wp_pcall hP hc.cw hus hr (fun v h' g' u w' a1 a2 a3 a4=>hk v h' g' u w' a1 a2 a3 a4) hp
theorem PanOp.call {o:Oper} {r:Regs} {h:Heap} {cl:Call} {f:FuncId} {vs:List AV} {K:AV->Heap->Prop} {S:Value->Heap->Prop} (hop:o.op=.call cl) (hcl:cl.callee=.value (.func f)) (hvs:opnds r [] cl.args.toList=some vs) (hP:PCalls P f vs h K S):PanOp P n X o r h K S:=by
 refine PanOp.run hP fun g a w hc=>⟨cl.args.map a.eval,?_,?_⟩
 ·have:=hc.opnds (fun e he=>by cases he) hvs;simpa using this
 obtain ⟨dst,op,ty,pos,aft,gd⟩:=o;simp only at hop;subst hop;have hrun:(execOp a.eval ⟨dst,.call cl,ty,pos,aft,gd⟩).run P w=(callFunc f (cl.args.map a.eval++#[])).run P w:=run_callF rfl ⟨_,hcl,rfl⟩;simpa using hrun
theorem PanOp.invoke {o:Oper} {r:Regs} {h:Heap} {cl:Call} {f:FuncId} {T:TypeId} {name:String} {x y:Operand} {recv:Value} {ra v:AV} {K:AV->Heap->Prop} {S:Value->Heap->Prop} (hop:o.op=.call cl) (hcl:cl.callee=.invoke x name) (hargs:cl.args=#[y]) (hx:opnd r [] x=some (.val (.iface T recv))) (hy:opnd r [] y=some v)
  (hm:∀ w,(Go.method (P.types.size+Made.depth) T recv name).run P w=.ok (f,recv) w) (hra:∀ c,Rep c ra recv) (hP:PCalls P f [ra,v] h K S):PanOp P n X o r h K S:=by
 refine PanOp.run hP fun g a w hc=>⟨#[recv,a.eval y],?_,?_⟩
 ·have hg0:holdsC a []:=fun e he=>by cases he
  simp only [RepVs];exact ⟨_,_,rfl,hra _,_,_,rfl,hc.opnd hg0 hy,rfl⟩
 have hg0:holdsC a []:=fun e he=>by cases he
 have hv:=hc.opnd hg0 hx;simp only [Rep] at hv;obtain ⟨hv,_⟩:=hv;obtain ⟨dst,op,ty,pos,aft,gd⟩:=o;simp only at hop;subst hop;obtain ⟨callee,args,ats⟩:=cl;simp only at hcl hargs;subst hcl hargs;simp [execOp,resolve,Go.invoke,callMethod,hv,hm,Sem.run_bind,Result.andThen]
theorem RO.pan {c1 c2:Cfg} {ops:Array Oper} {Q:Ex->Regs->Heap->Prop} {r:Regs} {h:Heap}
  (i:Nat) {o:Oper} (hoi:ops.toList[i]?=some o) (hgd:o.guard=none) (h1:regP P c1 n ops.toList (fun r1 h1=>∃ (K:AV->Heap->Prop) (SP:Value->Heap->Prop),PanOp P n X o r1 h1 K SP /\
    (∀ v h2,K v h2->setP n o.dst [] v r1 fun r2=>regP P c2 n ops.toList (Q .normal) (ops.toList.drop (i+1)) r2 h2)/\∀ v h2,SP v h2->Q (.pan v) r1 h2) (ops.toList.take i) r h):RO P n X ops Q r h:=by
 intro g a w hc;have hlt:i<ops.toList.length:=(List.getElem?_eq_some_iff.1 hoi).1;have hlen:ops.toList.length=ops.size:=(by simp);have hsplit:List.range ops.size=List.range' 0 (ops.toList.take i).length++(i::List.range' (i+1) (ops.toList.drop (i+1)).length):=by rw [List.length_take,List.length_drop,Nat.min_eq_left (by omega),List.range_eq_range',hlen,<- List.range'_succ];have:=List.range'_append_1 (s:=0) (m:=i) (n:=ops.size - (i+1)+1);rw [Nat.zero_add] at this;rw [this];congr 1;omega
 rw [hsplit];have hops:ops.toList.toArray=ops:=by simp
 have:=regP_pre (Q:=OutA n X g h w Q) (i::List.range' (i+1) (ops.toList.drop (i+1)).length) (ops.toList.take i) 0 r h g a w
  (fun j x hx=>by rw [List.getElem?_take] at hx;split at hx;· rw [Nat.zero_add];exact hx
                  cases hx) h1 hc ?_
 ·rw [hops] at this;exact this
 rintro r1 h1' g1 a1 w1 ⟨K,SP,hH,hK,hS⟩ hc1 hst1;have hio:ops.toList.toArray[i]?=some o:=by rw [hops];simpa using hoi
 simp only [wpOps,hio];rw [if_pos (wanted_none hgd)];left;have hg1:holdsC a1 []:=fun e he=>by cases he
 refine hH g1 a1 w1 hc1 _ _ ?_ ?_
 ·intro v h2 g2 u w2 hv hcw hrep hst2;obtain ⟨r2,hK,hc2⟩:=setP_ok (u:=u) hc1 hcw hst2 (hK v h2 hv) (fun _=>⟨by simp,hrep⟩) (fun hh=>absurd hg1 hh)
  have hfin:=regP_pre (Q:=OutA n X g h w Q) [] (ops.toList.drop (i+1)) (i+1) r2 h2 g2 _ w2
   (fun j x hx=>by rw [List.getElem?_drop] at hx;exact hx) hK hc2 (fun r' h' g' a' w' hR hc' hst=>⟨.normal,g',r',h',rfl,hR,hc',hst1.trans hc.cw.own (hst2.trans hc1.cw.own hst)⟩)
  rw [List.append_nil] at hfin;exact hfin
 intro v h2 g2 w2 hv hcw hst2;exact ⟨.pan v,g2,r1,h2,rfl,hS v h2 hv,hc1.step hcw hst2,hst1.trans hc.cw.own hst2⟩
end Go.Abs
namespace Go.Abs.Wall.Dic
open Go Go.Abs Go.Proofs Go.Abs.Wall
def c20:Cfg:=⟨[0,1,4,5,6,7,14,24],[12],[],[],[],[]⟩
def c46:Cfg:=⟨[0,1,2,4,5,6,8,10,11],[],[4],[],[(7,[0,1,2,3,4],[]),(3,[],[]),(5,[],[])],[]⟩
theorem hand_eqnil {P:Program} {n:Nat} {X:Nat->Prop} {o:Oper} {r:Regs} {h:Heap} {x:Operand} {t t2 T:TypeId} {v:Value} (hop:o.op=.binOp .eql t x (.const .nilIface) t2) (hx:opnd r [] x=some (.val (.iface T v))) (hT:∃ ms,P.underlying t=some (.interface ms)) :
  HandOp P n X o r h fun y h'=>y=.bool false/\h'=h:=by
 intro g a w hc next Q hn;have hg0:holdsC a []:=fun e he=>by cases he
 have hr:=hc.opnd hg0 hx;simp only [Rep] at hr;obtain ⟨hv,_⟩:=hr;obtain ⟨dst,op,ty,pos,aft,gd⟩:=o;simp only at hop;subst hop;obtain ⟨ms,hms⟩:=hT;have hq:(Op.equalIn Op.maxDepth t (.iface T v) .nilIface).run P w=.ok false w:=by show Sem.run P (Op.equalIn (9999+1) t _ _) w=_;rw [Op.equalIn];simp [run_und hms,Sem.run_bind,Result.andThen]
 refine wp_value (u:=.bool false) (w':=w) ?_ (hn _ _ g _ _ ⟨rfl,rfl⟩ hc.cw ?_ (Step.refl _ _ _ _))
 ·have he:a.eval (.const .nilIface)=.nilIface:=rfl;revert hv he;generalize a.eval=ev;intro hv he;simp [execOp,go_sem,eqGuard,binOp,Op.equal,hv,he,hq,Result.andThen]
 simp only [Rep]
theorem hand_assertV {P:Program} {n:Nat} {X:Nat->Prop} {o:Oper} {r:Regs} {h:Heap} {x:Operand} {t T:TypeId} {v:Value} {av:AV} {fs:Array Field} (hop:o.op=.typeAssert x t T true) (hx:opnd r [] x=some (.val (.iface T v))) (hT:P.underlying T=some (.struct fs)) (hra:∀ c,Rep c av v) :
  HandOp P n X o r h fun y h'=>y=.tup [av,.bool true]/\h'=h:=by
 intro g a w hc next Q hn;have hg0:holdsC a []:=fun e he=>by cases he
 have hr:=hc.opnd hg0 hx;simp only [Rep] at hr;obtain ⟨hv,_⟩:=hr;obtain ⟨dst,op,ty,pos,aft,gd⟩:=o;simp only at hop;subst hop;refine wp_value (u:=.tuple #[v,.bool true]) (w':=w) ?_ (hn _ _ g _ _ ⟨rfl,rfl⟩ hc.cw ?_ (Step.refl _ _ _ _))
 ·simp [execOp,Instr.typeAssert,hv,run_und hT]
 simp only [Rep];refine ⟨_,rfl,?_⟩;simp only [RepVs];exact ⟨_,_,rfl,hra _,_,_,rfl,by simp [Rep],rfl⟩
def boxes (o t e:Nat) (co ct ce:AV):Heap:=[(e,.vec [ce]),(t,.vec [ct]),(o,.vec [co])]
theorem repWr {n:Int} (hn:IntKind.i64.has n) (c:Cx):Rep c (.agg [.int .i64 n]) (.agg #[.int .i64 n]):=by simp only [Rep];exact ⟨_,rfl,by simp [Value.oneCell'],by simp [RepVs,Rep,hn]⟩
theorem catchRest (X:Nat->Prop) (o t e:Nat) (co ct ce:AV) (hco:cellsV co=some [co]) (n:Int) (hn:IntKind.i64.has n) :
  Holds Tryz.prog Tryz.f46.ntmps X (cat Tryz.f46 [true]) (fun ex r h=>(ex=.normal)/\h=boxes o t e .nilS (.int .i64 n) (.int .i64 4)) [(6,[],.val (wr n)),(0,[],.optr o 0),(1,[],.optr t 0),(2,[],.optr e 0)] (boxes o t e co ct ce):=by
 refine holds_mono (fun ex r h hq=>?_) (run_ok (c:=c46) (F:=Tryz.f46) (E:=⟨Tryz.f46.ntmps,X,fun ex r h=>(ex=.normal)/\h=boxes o t e .nilS (.int .i64 n) (.int .i64 4)⟩) mixed 4000 [true] [] ?_)
 ·unfold run at hq;exact hq
 unfold boxes;(conv=>whnf);skip;refine region_hand (c1:=kA c46 14) (c2:=kA c46 14) rfl 0 rfl rfl ?_;(conv=>whnf);skip;refine ⟨_,hand_eqnil rfl rfl ⟨_,rfl⟩,?_⟩;rintro v h' ⟨rfl,rfl⟩;(conv=>whnf);skip;refine cF rfl ?_;(conv=>whnf);skip;refine region_hand (c1:=kA c46 14) (c2:=kA c46 14) rfl 0 rfl rfl ?_;(conv=>whnf);skip;refine ⟨_,hand_assertV rfl rfl rfl (repWr hn),?_⟩;rintro v h' ⟨rfl,rfl⟩;(conv=>whnf);skip;refine cT rfl ?_;(conv=>whnf);repeat ((first|refine ⟨_,_,Rem.here _,⟨Nat.le_of_ble_eq_true rfl,rfl⟩,?_⟩|intro (nb:Nat));conv=>whnf)
 refine And.intro (by decide +kernel) ?_;(conv=>whnf);repeat ((first|(refine ⟨_,_,.there (.there (.here _)),⟨Nat.le_of_ble_eq_true rfl,Nat.le_of_ble_eq_true rfl⟩,?_⟩)|(refine ⟨_,_,.there (.here _),⟨Nat.le_of_ble_eq_true rfl,Nat.le_of_ble_eq_true rfl⟩,?_⟩)|(refine ⟨_,_,.here _,⟨Nat.le_of_ble_eq_true rfl,Nat.le_of_ble_eq_true rfl⟩,?_⟩));conv=>whnf)
 exact ⟨rfl,rfl⟩
theorem hand_nilnil {P:Program} {n:Nat} {X:Nat->Prop} {o:Oper} {r:Regs} {h:Heap} {x:Operand} {t t2:TypeId} (hop:o.op=.binOp .eql t x (.const .nilIface) t2) (hx:opnd r [] x=some (.val .nilIface)) (hT:∃ ms,P.underlying t=some (.interface ms)) :
  HandOp P n X o r h fun y h'=>y=.bool true/\h'=h:=by
 intro g a w hc next Q hn;have hg0:holdsC a []:=fun e he=>by cases he
 have hr:=hc.opnd hg0 hx;simp only [Rep] at hr;obtain ⟨hv,_⟩:=hr;obtain ⟨dst,op,ty,pos,aft,gd⟩:=o;simp only at hop;subst hop;obtain ⟨ms,hms⟩:=hT;have hq:(Op.equalIn Op.maxDepth t .nilIface .nilIface).run P w=.ok true w:=by show Sem.run P (Op.equalIn (9999+1) t _ _) w=_;rw [Op.equalIn];simp [run_und hms,Sem.run_bind,Result.andThen]
 refine wp_value (u:=.bool true) (w':=w) ?_ (hn _ _ g _ _ ⟨rfl,rfl⟩ hc.cw ?_ (Step.refl _ _ _ _))
 ·have he:a.eval (.const .nilIface)=.nilIface:=rfl;revert hv he;generalize a.eval=ev;intro hv he;simp [execOp,go_sem,eqGuard,binOp,Op.equal,hv,he,hq,Result.andThen]
 simp only [Rep]
theorem idleRest (X:Nat->Prop) (h0:Heap):Holds Tryz.prog Tryz.f46.ntmps X (cat Tryz.f46 [true]) (fun ex r h=>(ex=.normal)/\h=h0) [(6,[],.val .nilIface)] h0:=by
 refine holds_mono (fun ex r h hq=>?_) (run_ok (c:={ c46 with keep:=[6] }) (F:=Tryz.f46) (E:=⟨Tryz.f46.ntmps,X,fun ex r h=>(ex=.normal)/\h=h0⟩) mixed 4000 [true] [] ?_)
 ·unfold run at hq;exact hq
 (conv=>whnf);skip;refine region_hand (c1:={ c46 with keep:=[6] }) (c2:={ c46 with keep:=[6,8] }) rfl 0 rfl rfl ?_;(conv=>whnf);skip;refine ⟨_,hand_nilnil rfl rfl ⟨_,rfl⟩,?_⟩;rintro v h' ⟨rfl,rfl⟩;(conv=>whnf);skip;refine cT rfl ?_;(conv=>whnf);skip;exact ⟨rfl,rfl⟩
theorem enterConc {n:Nat} {X:Nat->Prop} {g:Gh} {h:Heap} {w:World} {us:Array Value} {args:List AV} (hc:CW X g h w) (hr:RepVs ⟨g,live X h,w⟩ args us.toList) (hn:args.length<=n) :
  Conc n X g (argRegs 0 args) h { tmps:=us++Array.replicate (n - us.size) undef,defers:=[] } w:=by
 have hlen:=hr.length;simp at hlen;refine ⟨hc,?_,rfl,by simp;omega⟩;intro t gg v hl;obtain ⟨rfl,_,hx⟩:=argRegs_look hl;obtain ⟨u,hu,hrep⟩:=hr.get t v (by simpa using hx);refine ⟨fun _=>⟨by simp,u,?_,hrep⟩,fun hh=>absurd (fun e he=>by cases he) hh⟩;have hu':us[t]?=some u:=(by simpa using hu);have:=(Array.getElem?_eq_some_iff.1 hu').1;rw [Array.getElem?_append_left this];exact hu'
theorem catchBad {X:Nat->Prop} {g:Gh} {w:World} {us:Array Value} (o t e:Nat) (co ct ce:AV) (hco:cellsV co=some [co]) (n:Int) (hn:IntKind.i64.has n) (hc:CW X g (boxes o t e co ct ce) w)
  (hu:RepVs ⟨g,live X (boxes o t e co ct ce),w⟩ [.optr o 0,.optr t 0,.optr e 0] us.toList) :
  CallsD Tryz.prog 46 us (.panicking [{ v:=wr n,recovered:=false }]) w fun e' u' w'=>e'=.returned (.tuple #[])/\u'=.panicking [{ v:=wr n,recovered:=true }] /\
   ∃ g' h',CW X g' h' w'/\Step X g (boxes o t e co ct ce) w g' h' w'/\h'=boxes o t e .nilS (.int .i64 n) (.int .i64 4):=by
 have hlen:=hu.length;simp at hlen;refine callsD_of_wpS (c:=bodyOf Tryz.f46) rfl rfl fun c₀ cs hm=>?_;apply wpS_seq;apply wpS_region;simp [wpOpsS,go_sem,recoverD,hm,Exit.thenS];have hC0:=enterConc (n:=14) hc hu (by simp)
 have hC:=hC0.put' hC0.cw (Step.refl _ _ _ _) (d:=6) (by omega) (gg:=[]) (v:=.val (wr n)) (u:=wr n) (by simp) (fun t gg v hl e he=>by
  have:=(argRegs_look hl).1;subst this;cases he) (fun _=>⟨by simp,by simp only [Rep];exact ⟨trivial,rfl⟩⟩) (fun hh=>absurd (fun e he=>by cases he) hh)
 refine wpS_of_wp (wp_mono ((catchRest X o t e co ct ce hco n hn).holds g _ w hC) ?_);rintro e1 a1 w1 ⟨ex,g',r',h',rfl,⟨rfl,rfl⟩,hc',hst⟩;simp only [Ex.toExit,bodyPostS];exact ⟨hc'.defers,_,rfl,_,results_none rfl _ _ _,rfl,rfl,g',hc'.cw,hst⟩
theorem catchIdle {X:Nat->Prop} {g:Gh} {h:Heap} {w:World} {us:Array Value} {vs:List AV} (hlen:us.size=3) (hc:CW X g h w) :
  CallsD Tryz.prog 46 us .returning w fun e' u' w'=>e'=.returned (.tuple #[])/\u'=.returning/\∃ g',CW X g' h w'/\Step X g h w g' h w':=by
 refine callsD_of_wpS (c:=bodyOf Tryz.f46) rfl rfl fun c₀ cs hm=>?_;apply wpS_seq;apply wpS_region;simp [wpOpsS,go_sem,recoverD,hm,Exit.thenS]
 have hC:Conc 14 X g [(6,[],.val .nilIface)] h { tmps:=(us++Array.replicate (14 - us.size) undef).setIfInBounds 6 .nilIface,defers:=[] } w:=by
  refine ⟨hc,?_,rfl,by simp;omega⟩;intro t gg v hl;unfold lookR at hl;split at hl
  ·rename_i ht;have ht:=Nat.eq_of_beq_eq_true ht;subst ht;cases hl
   refine ⟨fun _=>⟨by simp,.nilIface,?_,by simp only [Rep];exact ⟨trivial,rfl⟩⟩,fun hh=>absurd (fun e he=>by cases he) hh⟩;simp [Array.getElem?_setIfInBounds];omega
  cases hl
 refine wpS_of_wp (wp_mono ((idleRest X h).holds g _ w hC) ?_);rintro e1 a1 w1 ⟨ex,g',r',h',rfl,⟨rfl,rfl⟩,hc',hst⟩;simp only [Ex.toExit,bodyPostS];refine ⟨hc'.defers,.returning,?_,_,results_none rfl _ _ _,rfl,rfl,g',hc'.cw,hst⟩;rw [<- hm]
end Go.Abs.Wall.Dic
namespace Go.Abs.Wall.Dic
open Go Go.Abs Go.Proofs Go.Abs.Wall
def Parsed (s:List UInt8) (v:AV) (h':Heap):Prop:=
 (∃ n:Int,v=.tup [.nilS,.int .i64 n,.int .i64 4]/\h'=[])\/(v=.tup [.nilS,.int .i64 0,.int .i64 0]/\h'=[]) \/
   ∃ xs rows hp q b,v=.tup [.osl q 0 xs.length 11,.int .i64 0,.int .i64 0]/\ItsH xs rows hp/\GotL s 0 xs b/\h'=(q,.vec rows.flatten)::hp
def PanH (o t e:Nat) (v:Value) (r:Regs) (h:Heap):Prop:=∃ n rd co h2,v=wr n/\IntKind.i64.has n/\cellsV co=some [co]/\lookR r 4=some ([],.optr o 0)/\lookR r 5=some ([],.optr t 0)/\lookR r 6=some ([],.optr e 0)/\h=rd::(boxes o t e co (.int .i64 0) (.int .i64 0)++h2)
def PQ (s:List UInt8) (o t e:Nat):Ex->Regs->Heap->Prop
 | .ret,r,h=>resP Tryz.prog Tryz.f20 r h (fun v h1=>∃ h',Parsed s v h'/\List.Sublist h' h1)
 | .pan v,r,h=>PanH o t e v r h
 | _,_,_=>False
theorem readF (s:List UInt8) (rb:Nat) (ha:0<s.length) (hs:s.length<=65536) (B:Heap):PCalls Tryz.prog 206 [.agg [],.optr rb 0] (RD rb s 0::B)
  (fun v h'=>∃ xs rows hp q b,v=.osl q 0 xs.length 11/\ItsH xs rows hp/\GotL s 0 xs b/\h'=RD rb s b::(B++((q,.vec rows.flatten)::hp))) (fun v h'=>∃ n a,v=wr n/\IntKind.i64.has n/\h'=RD rb s a::B):=by
 refine PCalls.post (PCalls.frame (readW rb s ha hs) B) ?_ ?_
 ·rintro v h1 ⟨h2,⟨xs,rows,hp,q,b,rfl,hI,hL,rfl⟩,rfl⟩;have hP:List.Perm ((q,Ob.vec rows.flatten)::(hp++[RD rb s b])++B) (RD rb s b::(B++((q,.vec rows.flatten)::hp))):=by have h1:List.Perm ((q,Ob.vec rows.flatten)::(hp++[RD rb s b])++B) (((q,Ob.vec rows.flatten)::hp)++([RD rb s b]++B)):=(by simp);refine h1.trans ?_;refine (List.perm_append_comm).trans ?_;simp
  exact ⟨_,_,⟨xs,rows,hp,q,b,rfl,hI,hL,rfl⟩,VLe.refl _,fun k o hm=>hP.mem_iff.2 hm,nodup_perm hP⟩
 rintro v h1 ⟨h2,⟨n,a,rfl,hn,ha,rfl⟩,rfl⟩;exact ⟨_,⟨n,a,rfl,hn,rfl⟩,fun k o hm=>hm,fun hn=>hn⟩
theorem parseRest (X:Nat->Prop) (D:List Deferred) (s:List UInt8) (hs:s.length<=65536) (o t e:Nat) :
  HD Tryz.prog Tryz.f20.ntmps X D (cat Tryz.f20 [true,true]) (PQ s o t e) [(0,[],.val LC),(1,[],.str s),(4,[],.optr o 0),(5,[],.optr t 0),(6,[],.optr e 0)] (boxes o t e .nilS (.int .i64 0) (.int .i64 0)):=by
 unfold boxes;refine HD.seq (HD.region (RO.plain (c:=kA c20 28) ?_));(conv=>whnf);repeat (intro (nb:Nat);conv=>whnf)
 revert nb;intro rb;refine HD.seq (HD.seq (HD.region (RO.plain (c:=kA c20 28) ?_)));(conv=>whnf);skip;refine HD.cond rfl (fun h1=>?_) fun h1=>?_
 ·refine HD.seq (HD.region (RO.plain (c:=kA c20 28) ?_));(conv=>whnf);repeat ((first|(refine ⟨_,_,.there (.there (.there (.here _))),⟨Nat.le_of_ble_eq_true rfl,Nat.le_of_ble_eq_true rfl⟩,?_⟩)|(refine ⟨_,_,.there (.there (.here _)),⟨Nat.le_of_ble_eq_true rfl,Nat.le_of_ble_eq_true rfl⟩,?_⟩)|(refine ⟨_,_,.there (.here _),⟨Nat.le_of_ble_eq_true rfl,Nat.le_of_ble_eq_true rfl⟩,?_⟩));conv=>whnf)
  refine HD.ret ?_;(conv=>whnf);repeat ((first|(refine ⟨_,_,.tail _ (.tail _ (.tail _ (.head _))),rfl,?_⟩)|(refine ⟨_,_,.tail _ (.tail _ (.head _)),rfl,?_⟩)|(refine ⟨_,_,.tail _ (.head _),rfl,?_⟩));conv=>whnf)
  exact ⟨[],.inr (.inl ⟨rfl,rfl⟩),List.nil_sublist _⟩
 have hpos:0<s.length:=by refine Nat.pos_of_ne_zero fun hz=>?_;have hz:s=[]:=List.eq_nil_of_length_eq_zero hz;rw [hz] at h1;exact absurd h1 (by decide)
 refine HD.skip ?_;(conv=>whnf);refine HD.seq (HD.region (RO.pan (c1:=kA c20 28) (c2:=kA c20 28) 2 rfl rfl ?_));(conv=>whnf);skip;refine ⟨_,_,PanOp.invoke rfl rfl rfl rfl rfl (fun w=>by kernel_rfl) (ra:=.agg []) ?_ (readF s rb hpos hs _),?_,?_⟩
 ·intro c;simp only [Rep];exact ⟨_,rfl,by simp,by simp [RepVs]⟩
 rotate_left
 ·rintro v h2 ⟨n,a,rfl,hn,rfl⟩;exact ⟨n,RD rb s a,.nilS,[],rfl,hn,rfl,rfl,rfl,rfl,by rw [List.append_nil];rfl⟩
 rintro v h2 ⟨xs,rows,hp,q,b,rfl,hI,hL,rfl⟩;have hbs:=hL.2.2.1;(conv=>whnf);repeat ((refine ⟨_,_,.there (.there (.there (.here _))),⟨Nat.le_of_ble_eq_true rfl,Nat.le_of_ble_eq_true rfl⟩,?_⟩);conv=>whnf)
 refine HD.seq (HD.seq (HD.region (RO.plain (c:=kA c20 28) ?_)));(conv=>whnf);repeat ((refine ⟨_,_,.head _,rfl,?_⟩);conv=>whnf)
 refine HD.cond rfl (fun h2=>?_) fun h2=>?_
 ·refine HD.region (RO.pan (c1:=kA c20 28) (c2:=kA c20 28) 1 rfl rfl ?_);(conv=>whnf);skip;refine ⟨_,_,PanOp.call rfl rfl rfl (PCalls.frame (failW rb s b hbs hs (fun v h'=>False)) _),?_,?_⟩
  ·rintro v h2 ⟨_,hF,_⟩;exact hF.elim
  rintro v h2 ⟨_,⟨n,a,rfl,hn,_,rfl⟩,rfl⟩;exact ⟨n,RD rb s a,_,_,rfl,hn,rfl,rfl,rfl,rfl,rfl⟩
 refine HD.skip ?_;(conv=>whnf);refine HD.seq (HD.region (RO.plain (c:=kA c20 28) ?_));(conv=>whnf);repeat ((first|(refine ⟨_,_,.tail _ (.tail _ (.tail _ (.head _))),rfl,?_⟩)|(refine ⟨_,_,.there (.there (.there (.here _))),⟨Nat.le_of_ble_eq_true rfl,Nat.le_of_ble_eq_true rfl⟩,?_⟩)|(refine ⟨_,_,.there (.there (.here _)),⟨Nat.le_of_ble_eq_true rfl,Nat.le_of_ble_eq_true rfl⟩,?_⟩)|(refine ⟨_,_,.there (.here _),⟨Nat.le_of_ble_eq_true rfl,Nat.le_of_ble_eq_true rfl⟩,?_⟩));conv=>whnf)
 refine HD.ret ?_;(conv=>whnf);repeat ((first|(refine ⟨_,_,.tail _ (.tail _ (.tail _ (.head _))),rfl,?_⟩)|(refine ⟨_,_,.tail _ (.tail _ (.head _)),rfl,?_⟩)|(refine ⟨_,_,.tail _ (.head _),rfl,?_⟩));conv=>whnf)
 exact ⟨_,.inr (.inr ⟨xs,rows,hp,q,b,rfl,hI,hL,rfl⟩),.cons _ (.cons _ (.cons _ (.cons _ (.refl _))))⟩
theorem wpOps_cons {P:Program} {ops:Array Oper} {Q:Exit->Act->World->Prop} {i:Nat} {rest:List Nat} {a:Act} {w:World} {o:Oper} (ho:ops[i]?=some o) (hg:o.guard=none) (h:o.wp P a w (wpOps P ops Q rest) Q):wpOps P ops Q (i::rest) a w:=by simp only [wpOps,ho];rw [if_pos (wanted_none hg)];exact .inl h
theorem parseW (s:List UInt8) (hs:s.length<=65536):ACalls Tryz.prog 20 [.val LC,.str s] [] (fun v h1=>∃ h',Parsed s v h'/\List.Sublist h' h1):=by
 refine ⟨fun X g w us hc hr=>.inl ⟨⟨Tryz.f20,_,rfl,rfl,rfl⟩,?_⟩⟩;refine calls_of_wp_defers (c:=bodyOf Tryz.f20) rfl rfl ?_;have hC0:=enterConc (n:=Tryz.f20.ntmps) hc hr (by simp)
 have h0:RO Tryz.prog Tryz.f20.ntmps X #[⟨some 4,.alloc 80,0, "read.go:20",#[],none⟩,⟨some 5,.alloc 3,0, "read.go:20",#[],none⟩,⟨some 6,.alloc 42,0, "read.go:20",#[],none⟩] (fun ex r h=>ex=.normal/\∃ o t e,r=[(0,[],.val LC),(1,[],.str s),(4,[],.optr o 0),(5,[],.optr t 0),(6,[],.optr e 0)]/\h=boxes o t e .nilS (.int .i64 0) (.int .i64 0)) (argRegs 0 [.val LC,.str s]) []:=by
  refine RO.plain (c:={ c20 with keep:=[0,1,4,5,6] }) ?_;(conv=>whnf);repeat (intro (nb:Nat);conv=>whnf)
  exact ⟨rfl,_,_,_,rfl,rfl⟩
 refine wp_seq (wp_mono (wp_region (h0 g _ w hC0)) ?_);rintro e1 a1 w1 ⟨ex,g1,r1,h1,rfl,⟨rfl,o,t,e,rfl,rfl⟩,hC1,hst1⟩;refine wp_seq (wp_region ?_);have hm:∀ (ty:TypeId) (ps:String) (af:Array Edge) (gd:Option (Nat × Bool)),(execOp a1.eval ⟨some 8,.makeFunc (.func 46) #[] #[.tmp 4,.tmp 5,.tmp 6],ty,ps,af,gd⟩).run Tryz.prog w1=.ok (.value (.func (.func 46) #[] #[a1.eval (.tmp 4),a1.eval (.tmp 5),a1.eval (.tmp 6)])) w1:=fun _ _ _ _=>by simp [execOp,Instr.makeFunc,Result.andThen]
 have hsz:=hC1.size
 have h8:(a1.put (some 8) (.func (.func 46) #[] #[a1.eval (.tmp 4),a1.eval (.tmp 5),a1.eval (.tmp 6)])).eval (.tmp 8)=.func (.func 46) #[] #[a1.eval (.tmp 4),a1.eval (.tmp 5),a1.eval (.tmp 6)]:=by
  have:8<a1.tmps.size:=by rw [hsz];exact Nat.le_of_ble_eq_true rfl
  simp [Act.put,Act.eval,this]
 have hd:∀ (ty:TypeId) (ps:String) (af:Array Edge) (gd:Option (Nat × Bool)),(execOp (a1.put (some 8) (.func (.func 46) #[] #[a1.eval (.tmp 4),a1.eval (.tmp 5),a1.eval (.tmp 6)])).eval ⟨none,.defer ⟨.value (.tmp 8),#[],#[]⟩,ty,ps,af,gd⟩).run Tryz.prog w1=.ok (.defer ⟨.fn (.func 46) #[a1.eval (.tmp 4),a1.eval (.tmp 5),a1.eval (.tmp 6)],#[]⟩) w1:=by intro ty ps af gd;revert h8;generalize (a1.put (some 8) (.func (.func 46) #[] #[a1.eval (.tmp 4),a1.eval (.tmp 5),a1.eval (.tmp 6)])).eval=ev;intro h8;simp [execOp,resolve,h8,Deferred.ofValue,Result.andThen]
 show wpOps _ _ _ [0,1] _ _;refine wpOps_cons (o:=⟨some 8,.makeFunc (.func 46) #[] #[.tmp 4,.tmp 5,.tmp 6],1, "read.go:21",#[],none⟩) rfl rfl ?_;unfold Oper.wp;rw [hm,Oper.upon_value];refine wpOps_cons (o:=⟨none,.defer ⟨.value (.tmp 8),#[],#[]⟩,0, "read.go:21",#[⟨0,.data⟩],none⟩) rfl rfl ?_;unfold Oper.wp;rw [hd,Oper.upon_defer]
 have hC2:Conc Tryz.f20.ntmps X g1 [(0,[],.val LC),(1,[],.str s),(4,[],.optr o 0),(5,[],.optr t 0),(6,[],.optr e 0)] (boxes o t e .nilS (.int .i64 0) (.int .i64 0)) (a1.put (some 8) (.func (.func 46) #[] #[a1.eval (.tmp 4),a1.eval (.tmp 5),a1.eval (.tmp 6)])) w1:=by
  refine (hC1.put' hC1.cw (Step.refl _ _ _ _) (d:=8) (Nat.le_of_ble_eq_true rfl) (gg:=[]) (v:=.unit) (by simp) ?_ (fun _=>⟨by simp,by simp only [Rep]⟩) (fun hh=>absurd (fun e he=>by cases he) hh)).less ?_
  ·intro t' gg v hl e' he';simp only [lookR] at hl;repeat' split at hl
   all_goals first|(cases hl;cases he')|cases hl
  intro t' gg v hl;have h8':t'≠8:=by rintro rfl;revert hl;exact fun hl=>(by cases hl)
  rw [lookR];split
  ·rename_i hb;exact absurd (Nat.eq_of_beq_eq_true hb).symm h8'
  exact hl
 have hfin:=(parseRest X [⟨.fn (.func 46) #[a1.eval (.tmp 4),a1.eval (.tmp 5),a1.eval (.tmp 6)],#[]⟩] s hs o t e).holds g1 _ w1 hC2;have hact:({ tmps:=(a1.put (some 8) (.func (.func 46) #[] #[a1.eval (.tmp 4),a1.eval (.tmp 5),a1.eval (.tmp 6)])).tmps,defers:=⟨.fn (.func 46) #[a1.eval (.tmp 4),a1.eval (.tmp 5),a1.eval (.tmp 6)],#[]⟩::(a1.put (some 8) (.func (.func 46) #[] #[a1.eval (.tmp 4),a1.eval (.tmp 5),a1.eval (.tmp 6)])).defers }:Act).put none undef=Act.dfr (a1.put (some 8) (.func (.func 46) #[] #[a1.eval (.tmp 4),a1.eval (.tmp 5),a1.eval (.tmp 6)])) [⟨.fn (.func 46) #[a1.eval (.tmp 4),a1.eval (.tmp 5),a1.eval (.tmp 6)],#[]⟩]:=by have:=hC2.defers;simp only [Act.put,Act.dfr] at this ⊢;rw [this];rfl
 show Exit.then _ _ .normal _ w1;rw [hact];refine wp_mono hfin ?_
 have hu:RepVs ⟨g1,live X (boxes o t e .nilS (.int .i64 0) (.int .i64 0)),w1⟩ [.optr o 0,.optr t 0,.optr e 0] [a1.eval (.tmp 4),a1.eval (.tmp 5),a1.eval (.tmp 6)]:=by
  have hg:holdsC a1 []:=fun e he=>by cases he
  simp only [RepVs];exact ⟨_,_,rfl,hC1.opnd hg (x:=.tmp 4) rfl,_,_,rfl,hC1.opnd hg (x:=.tmp 5) rfl,_,_,rfl,hC1.opnd hg (x:=.tmp 6) rfl,rfl⟩
 have hinv:∀ w2,(invoke (.fn (.func 46) #[a1.eval (.tmp 4),a1.eval (.tmp 5),a1.eval (.tmp 6)]) #[]).run Tryz.prog w2=.ok (.enter 46 #[a1.eval (.tmp 4),a1.eval (.tmp 5),a1.eval (.tmp 6)]) w2:=by intro w2;show (callFunc 46 (#[]++_)).run Tryz.prog w2=_;rw [run_call ⟨Tryz.f46,_,rfl,rfl,rfl⟩];simp
 rintro e1 a2 w2 ⟨a0,⟨ex,g2,r2,h2,rfl,hQ,hC3,hst2⟩,rfl⟩;have hdf:(Act.dfr a0 [⟨.fn (.func 46) #[a1.eval (.tmp 4),a1.eval (.tmp 5),a1.eval (.tmp 6)],#[]⟩]).defers=[⟨.fn (.func 46) #[a1.eval (.tmp 4),a1.eval (.tmp 5),a1.eval (.tmp 6)],#[]⟩]:=(by simp only [Act.dfr,hC3.defers,List.nil_append]);cases ex with
 | normal=>exact hQ.elim
 | exit i=>exact hQ.elim
 | ret=>
   show Leaves _ _ _ _ (Act.dfr a0 _).defers .returning w2;rw [hdf];refine leaves_cons (by simp) (hinv w2) ?_;refine (catchIdle (by simp) hC3.cw (vs:=[])).mono ?_;rintro e' u' w' ⟨rfl,rfl,g3,hcw3,hst3⟩;show ∃ v,_/\_;obtain ⟨v,u,k1,k2,k3⟩:=resP_ok (P:=Tryz.prog) (hC3.step hcw3 hst3) hQ;exact ⟨u,k2,v,u,g3,_,rfl,k1,hcw3,k3,hst1.trans hc.own (hst2.trans hC1.cw.own hst3)⟩
 | pan v=>
   obtain ⟨n,rd,co,h4,rfl,hn,hco,k4,k5,k6,rfl⟩:=hQ;show Leaves _ _ _ _ (Act.dfr a0 _).defers (.panicking _) w2;rw [hdf];refine leaves_cons (by simp) (hinv w2) ?_;have hsub:List.Sublist (boxes o t e co (.int .i64 0) (.int .i64 0)) (rd::(boxes o t e co (.int .i64 0) (.int .i64 0)++h4)):=.cons _ (List.sublist_append_left _ _);obtain ⟨d1,d2⟩:=hC3.cw.sub (fun k o hm=>hsub.subset hm) (nodup_of_sub hsub hC3.cw.nodup);have hu2:=RepVs.mono (Step.le d2) _ _ (RepVs.mono (Step.le hst2) _ _ hu);refine (catchBad o t e co _ _ hco n hn d1 (us:=#[a1.eval (.tmp 4),a1.eval (.tmp 5),a1.eval (.tmp 6)]) hu2).mono ?_;rintro e' u' w' ⟨rfl,rfl,g3,h3,hcw3,hst3,rfl⟩;show ∃ v,_/\_;have hst4:=d2.trans hC3.cw.own hst3
   have hC5:Conc Tryz.f20.ntmps X g3 [(4,[],.optr o 0),(5,[],.optr t 0),(6,[],.optr e 0)] (boxes o t e .nilS (.int .i64 n) (.int .i64 4)) a0 w':=by
    refine (hC3.step hcw3 hst4).less ?_;intro t' gg v hl;simp only [lookR] at hl;repeat' split at hl
    all_goals first|contradiction|skip
    all_goals rename_i hb;have hb:=Nat.eq_of_beq_eq_true hb;subst hb;cases hl;assumption
   obtain ⟨v,u,k1,k2,k3⟩:=resP_ok (P:=Tryz.prog) (fn:=Tryz.f20) (R:=fun v h1=>∃ h',Parsed s v h'/\List.Sublist h' h1) hC5 (by
    unfold boxes;(conv=>whnf);repeat ((first|(refine ⟨_,_,.tail _ (.tail _ (.head _)),rfl,?_⟩)|(refine ⟨_,_,.tail _ (.head _),rfl,?_⟩)|(refine ⟨_,_,.head _,rfl,?_⟩));conv=>whnf)
    exact ⟨[],.inl ⟨n,rfl,rfl⟩,List.nil_sublist _⟩)
   exact ⟨u,k2,v,u,g3,_,rfl,k1,hcw3,k3,hst1.trans hc.own (hst2.trans hC1.cw.own hst4)⟩
end Go.Abs.Wall.Dic
namespace Go.Abs.Wall.Dic
open Go Go.Abs Go.Proofs Go.Abs.Wall
def c81:Cfg:=⟨[0,1,2],[],[],[],[],[]⟩
def c111:Cfg:=⟨[0,1,4,5,24],[],[],[],[(2,[0,1,2,3,4,5,6,7,8,9,10,11,12,13,14,15,16],[])],[]⟩
def c53:Cfg:=⟨[0,1,2,5],[],[],[],[],[]⟩
def c18:Cfg:=⟨[0,2,3,4,5,9],[],[],[],[(3,[],[])],[]⟩
def leafB (n:Nod):Bool:=decide (n.kind=1)||decide (n.kind=6)
theorem isLeafW (n:Nod):QCall Tryz.prog 81 [.agg (encNod n)] [] (.bool (leafB n)):=by refine fcalls (F:=Tryz.f81) c81 rfl rfl rfl mixed rfl fun X=>?_;(conv=>whnf);skip;exact ⟨rfl,rfl⟩
theorem coderW:QCall Tryz.prog 18 [.int .i64 1] [] (.tup [.val LC,.int .i64 0]):=by refine fcalls (F:=Tryz.f18) c18 rfl rfl rfl mixed rfl fun X=>?_;(conv=>whnf);skip;refine cT rfl ?_;(conv=>whnf);skip;refine region_hand (c1:=keepA 20) (c2:=keepA 20) rfl 1 rfl rfl ?_;(conv=>whnf);skip;refine ⟨_,hand_iface rfl rfl rfl,?_⟩;rintro v h' ⟨rfl,rfl⟩;(conv=>whnf);skip;exact ⟨rfl,rfl⟩
def endI (l:List Nod) (i:Nat) (d:Int):Nat:=i+1+((l.drop (i+1)).takeWhile fun n=>decide (d<n.depth)).length
theorem endI_in {l:List Nod} {i:Nat} {d:Int} (h:i<l.length):i<endI l i d/\endI l i d<=l.length:=by have:=(List.takeWhile_sublist (fun n:Nod=>decide (d<n.depth)) (l:=l.drop (i+1))).length_le;rw [List.length_drop] at this;unfold endI;omega
theorem endW (l:List Nod) (i:Nat) (n:Nod) (hn:l[i]?=some n) (hl:l.length<=1048576):QCall Tryz.prog 111 [.sl 8 none (l.map encNod),.int .i64 i] [] (.int .i64 (endI l i n.depth)):=by
 have hi:=(List.getElem?_eq_some_iff.1 hn).1;refine fcalls (F:=Tryz.f111) c111 rfl rfl rfl mixed rfl fun X=>?_;(conv=>whnf);repeat (refine ⟨gP_of ⟨by omega,by omega⟩,?_⟩;conv=>whnf)
 refine sloop rfl mixed [0,1,5] [] (fun m r h=>∃ (k:Nat),r=[(0,[],.sl 8 none (l.map encNod)),(1,[],.int .i64 i),(5,[],.int .i64 (i+1+k:Nat))]/\h=[]/\m=l.length - k/\i+1+k<=l.length/\endI l i n.depth=i+1+k+((l.drop (i+1+k)).takeWhile fun m=>decide (n.depth<m.depth)).length) ?_ ?_
 ·(conv=>whnf);exact ⟨_,0,rfl,rfl,rfl,by omega,rfl⟩
 rintro m r h ⟨k,rfl,rfl,rfl,hk,he⟩;(conv=>whnf);repeat ((first|(refine ⟨i+1+k,encNod (l.getD (i+1+k) zN),fun hg=>⟨rfl,?_⟩,?_⟩)|refine And.intro (by show drawOK (opsAt Tryz.f111 _) _=true;decide +kernel) ?_);conv=>whnf)
 ·have h1:i+1+k<l.length:=by
   have:=of_decide_eq_true hg;rw [List.length_map] at this;omega
  simp [List.getElem?_eq_getElem h1,List.getD_eq_getElem?_getD]
 (conv=>whnf);repeat (refine ix (by assumption) ?_;conv=>whnf)
 refine ⟨fun hc=>?_,fun hc=>?_⟩
 ·rw [Bool.and_eq_true] at hc;have h1:=of_decide_eq_true hc.1;rw [List.length_map] at h1;have h2:=hc.2;obtain ⟨y,hy⟩:∃ y,l[i+1+k]?=some y:=⟨_,List.getElem?_eq_getElem (by omega)⟩;rw [List.getD_eq_getElem?_getD,hy,Option.getD_some] at h2;(conv=>whnf);repeat (refine ⟨gP_of ⟨by omega,by omega⟩,?_⟩;conv=>whnf)
  refine ⟨l.length - (k+1),by omega,k+1,by rw [show ((i+1+k:Nat):Int)+1=((i+1+(k+1):Nat):Int) by omega],rfl,rfl,by omega,?_⟩;rw [he,drop_cons hy,List.takeWhile_cons,if_pos h2,List.length_cons];show _=_+(List.takeWhile _ (List.drop (i+1+k+1) l)).length;omega
 have hE:endI l i n.depth=i+1+k:=by
  rw [he];by_cases h1:i+1+k<l.length
  ·obtain ⟨y,hy⟩:∃ y,l[i+1+k]?=some y:=⟨_,List.getElem?_eq_getElem h1⟩;rw [drop_cons hy,List.takeWhile_cons,if_neg,List.length_nil]
   ·omega
   rw [List.getD_eq_getElem?_getD,hy,Option.getD_some,decide_eq_true (by rw [List.length_map];omega),Bool.true_and] at hc;exact fun hh=>by rw [show decide (n.depth<y.depth)=false from hc] at hh;cases hh
  rw [List.drop_of_length_le (by omega)];simp
 (conv=>whnf);skip;exact ⟨by rw [hE],rfl⟩
end Go.Abs.Wall.Dic
