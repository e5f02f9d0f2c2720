/- What is proved: small laws for the walks of this seat, and contracts of its functions. No condition but those each theorem names. -/
import Derived.Test.YtmkmflcemegikaaGreatDoorN4
import Derived.Test.YtmkmflcemegikaaGreatDoorN25
set_option maxRecDepth 100000
set_option maxHeartbeats 2000000
set_option linter.unusedVariables false
set_option linter.unusedSimpArgs false
namespace Go.Abs.Wall.Lst
open Go Go.Abs Go.Proofs Go.Abs.Wall Go.Proofs.YtmkmflcemegikaaGreatDoor.Br
def decT (n:Int):List UInt8:=Lib.decDigits n.toNat
def clsT (e:Ent):List UInt8:=if e.cls=[] then [] else 32::e.cls
def numT (l:List Int):List UInt8:=(l.map fun n=>32::decT n).flatten
def recT (x:Lex) (d:Nd):List UInt8:=((((entAt x d.entry).root++clsT (entAt x d.entry))++[58])++numT d.lines)++[10]
def okD (H:Hou) (d:Nd):Bool:=((decide (0≤d.entry)&&decide (d.entry<H.lex.entries.length))&&decide ((d.lines.length:Int)≤40))&&risM d.lines 40
def repE (H:Hou) (l:List Nd):Int:=if houErr H≠0 then houErr H else if 200<l.length then 2 else if l.all (okD H)=true then 0 else 1
def repT (H:Hou) (l:List Nd):List UInt8:=if repE H l=0 then (l.map (recT H.lex)).flatten else []
theorem dec_one {n:Nat} (h:n<10):Lib.decDigits n=[UInt8.ofNat (48+n)]:=by rw [Lib.decDigits,dif_pos h]
theorem dec_two {n:Nat} (h:10≤n) (h2:n<100):Lib.decDigits n=[UInt8.ofNat (48+n / 10),UInt8.ofNat (48+n % 10)]:=by
 rw [Lib.decDigits,dif_neg (by omega),dec_one (by omega)]
 rfl
theorem dec_len {n:Int} (h:0≤n) (h2:n<100):(decT n).length≤2:=by
 unfold decT
 by_cases h3:n.toNat<10
 ·rw [dec_one h3];simp
 ·rw [dec_two (by omega) (by omega)];simp
theorem numT_snoc {l:List Int} {n:Int}:numT (l++[n])=numT l++([32]++decT n):=by unfold numT;simp
theorem numT_len:∀ {l:List Int},(∀ n∈l,0≤n∧n<100)→(numT l).length≤3*l.length
 | [],_=>by simp [numT]
 | n::l,h=>by
   have ih:=numT_len (l:=l) fun m hm=>h m (by simp [hm])
   have h1:=dec_len (h n (by simp)).1 (h n (by simp)).2
   unfold numT at ih ⊢
   simp only [List.map_cons,List.flatten_cons,List.length_append,List.length_cons]
   omega
structure DOK (H:Hou) (d:Nd):Prop where
 entry:0≤d.entry∧d.entry<H.lex.entries.length
 few:d.lines.length≤40
 nums:∀ n∈d.lines,0≤n∧n<40
theorem okD_iff {H:Hou} {d:Nd} (h:okD H d=true):DOK H d:=by
 unfold okD at h
 rw [Bool.and_eq_true,Bool.and_eq_true,Bool.and_eq_true,decide_eq_true_eq,decide_eq_true_eq,decide_eq_true_eq] at h
 exact ⟨h.1.1,by omega,(risM_iff.1 h.2).2⟩
theorem clsT_len {e:Ent} (h:EntOK e):(clsT e).length≤9:=by
 unfold clsT
 split
 ·simp
 ·rename_i h1
  have h2:=h.cls h1
  unfold nameOK at h2
  rw [Bool.and_eq_true,Bool.and_eq_true,decide_eq_true_eq,decide_eq_true_eq] at h2
  simp only [List.length_cons]
  omega
theorem recT_len {H:Hou} (hh:houErr H=0) {d:Nd} (h:DOK H d):(recT H.lex d).length≤139:=by
 have he:=(houOK hh).lex.entAt h.entry.1 h.entry.2
 have h1:=sndOK_len he.root
 have h2:=clsT_len he
 have h3:=numT_len (l:=d.lines) fun n hn=>⟨(h.nums n hn).1,by have:=(h.nums n hn).2;omega⟩
 have h4:=h.few
 unfold recT
 simp only [List.length_append,List.length_cons,List.length_nil]
 omega
theorem recs_len {x:Lex} {B:Nat}:∀ {l:List Nd},(∀ d∈l,(recT x d).length≤B)→((l.map (recT x)).flatten).length≤B*l.length
 | [],_=>by simp
 | d::l,h=>by
   have ih:=recs_len (x:=x) (B:=B) (l:=l) fun m hm=>h m (by simp [hm])
   have h1:=h d (by simp)
   simp only [List.map_cons,List.flatten_cons,List.length_append,List.length_cons]
   rw [Nat.mul_succ]
   omega
theorem bldLaw:BldLaw Tryz.prog 53 5 14 15 17:=
 ⟨fun {_ _ _ _} s {_} h1 h2 h3 h4 h5=>Bld_WriteString Tryz.bld166 Tryz.builderExtra s h1 h2 h3 h4 h5,fun {_ _ _ _} c {_} h1 h2 h3 h4 h5=>Bld_WriteByte Tryz.bld167 Tryz.builderExtra c h1 h2 h3 h4 h5,fun {_ _ _ _ _} h1 h2 h3=>Bld_String Tryz.bld169 Tryz.builderExtra h1 h2 h3⟩
theorem bStr (k:Nat) (s t:List UInt8) (ht:t≠[]) (hl:s.length+t.length≤1048576) {K:AV→Heap→Prop} (hk:K (.tup [.int .i64 t.length,.junk]) [(k,.bld 53 5 (s++t))]) :
  ACalls Tryz.prog 14 [.optr k 0,.str t] [(k,.bld 53 5 s)] K:=
 (bld_str ⟨Tryz.f14,_,rfl,rfl,rfl⟩ bldLaw k s t ht hl).mono fun v h' h=>by rw [h.1,h.2];exact hk
theorem bByte (k:Nat) (s:List UInt8) (c:UInt8) (hl:s.length+1≤1048576) {K:AV→Heap→Prop} (hk:K .junk [(k,.bld 53 5 (s++[c]))]) :
  ACalls Tryz.prog 15 [.optr k 0,.int .u8 c.toNat] [(k,.bld 53 5 s)] K:=
 (bld_byte ⟨Tryz.f15,_,rfl,rfl,rfl⟩ bldLaw k s c hl).mono fun v h' h=>by rw [h.1,h.2];exact hk
theorem bText (k:Nat) (s:List UInt8) (hl:s.length≤1048576) {K:AV→Heap→Prop} (hk:K (.str s) []) :
  ACalls Tryz.prog 17 [.optr k 0] [(k,.bld 53 5 s)] K:=
 (bld_text ⟨Tryz.f17,_,rfl,rfl,rfl⟩ bldLaw k s hl).mono fun v h' h=>by rw [h.1,h.2];exact hk
theorem itoaW (n:Int) (h:0≤n∧n<100):QCall Tryz.prog 16 [.int .i64 n] [] (.str (decT n)):=by
 refine ⟨fun X g w us hc hr=>.inl ⟨⟨Tryz.f16,_,rfl,rfl,rfl⟩,?_⟩⟩
 simp only [RepVs] at hr
 obtain ⟨u,r,hus,hx,hr⟩:=hr
 subst hr
 simp only [Rep] at hx
 obtain ⟨rfl,_⟩:=hx
 obtain ⟨k,rfl⟩:=Int.eq_ofNat_of_zero_le h.1
 have hU:us=#[.int .i64 k]:=by rw [← Array.toList_inj,hus]
 subst hU
 refine (Any.strconv_Itoa_small Tryz.lays171 k (by omega) w).mono ?_
 rintro e w' ⟨rfl,rfl⟩
 have hl:=dec_len (n:=(k:Int)) h.1 h.2
 exact ⟨_,_,g,[],rfl,⟨rfl,rfl⟩,hc,by simp only [Rep];exact ⟨_,rfl,rfl,by unfold LMAX;omega⟩,Step.refl _ _ _ _⟩
def c6:Cfg:=⟨[0,1,2,4,5,6,7,9,10,12,16,20,21,22,23,24,47,60,67,68,69,70],[],[9,10],[],[(6,[],[])],[]⟩
theorem ReportW (H:Hou) (l:List Nd) (hf:HouFit H) (hl:l.length≤1048576) (hd:∀ x∈l,NdFit x):QCall Tryz.prog 6 [.agg (encHou H),.sl 2 none (l.map encNd)] [] (.tup [.str (repT H l),.int .i64 (repE H l)]):=by
 refine QCall.of' ?_
 refine fcalls (F:=Tryz.f6) c6 rfl rfl rfl mixed rfl fun X=>?_
 conv=>whnf
 repeat (refine QCall.k0 (checkHouse H hf) ?_;conv=>whnf)
 refine ⟨fun h0=>?_,fun h0=>?_⟩<;>simp at h0
 ·have he:repE H l=houErr H:=by rw [repE,if_pos h0]
  conv=>whnf
  skip
  rw [repT,he,if_neg h0]
 conv=>whnf
 skip
 refine ⟨fun h2=>?_,fun h2=>?_⟩<;>simp at h2
 ·have he:repE H l=2:=by rw [repE,if_neg (by omega),if_pos (by omega)]
  conv=>whnf
  skip
  rw [repT,he,if_neg (by decide)]
 have hE:repE H l=if l.all (okD H)=true then 0 else 1:=by rw [repE,if_neg (by omega),if_neg (by omega)]
 conv=>whnf
 skip
 refine region_bld (E':=5) rfl rfl rfl rfl rfl Tryz.zeroValue53 fun b=>?_
 conv=>whnf
 skip
 refine sloop rfl mixed [2,7,21,22,23] [] (fun m r h=>∃ (i:Nat) (t:List UInt8),r=[(2,[],.iptr (encHou H)),(7,[],.optr b 0),(21,[],.sl 2 none (l.map encNd)),(22,[],.int .i64 (l.map encNd).length),(23,[],.int .i64 i)]∧h=[(b,.bld 53 5 t)]∧m=l.length - i∧i≤l.length∧(∀ d∈l.take i,okD H d=true)∧t=((l.take i).map (recT H.lex)).flatten) ?_ ?_
 ·conv=>whnf
  exact ⟨_,0,_,rfl,rfl,rfl,by omega,(fun d hd=>by cases hd),rfl⟩
 ·rintro m r h ⟨i,t,rfl,rfl,rfl,hi,hok,ht⟩
  conv=>whnf
  skip
  refine ⟨fun hi2=>?_,fun hi2=>?_⟩<;>simp at hi2
  ·obtain ⟨d,hdi⟩:=get_lt hi2
   have hdm:=List.mem_of_getElem? hdi
   have hdf:=(hd d hdm).lines
   have hris:=risW d.lines 40 (by unfold LMAX;omega) (by decide)
   have hln:((H.lex.entries.map encEnt).length:Int)=H.lex.entries.length:=by rw [List.length_map]
   have hll:((ints d.lines).length:Int)=d.lines.length:=by rw [ints_length]
   have hEl:H.lex.entries.length≤1048576:=by have:=(houOK h0).lex.many.1;omega
   have hkey:okD H d=!(((!(decide (0≤d.entry)&&decide (d.entry≤((H.lex.entries.map encEnt).length:Int) - 1))||decide (40<((ints d.lines).length:Int)))||!risM d.lines 40)):=by
    rw [hln,hll]
    unfold okD
    have e1:decide (d.entry<(H.lex.entries.length:Int))=decide (d.entry≤(H.lex.entries.length:Int) - 1):=decide_eq_decide.2 (by omega)
    have e2:decide ((d.lines.length:Int)≤40)=!decide (40<(d.lines.length:Int)):=by rw [← decide_not];exact decide_eq_decide.2 (by omega)
    rw [e1,e2]
    simp only [Bool.not_or,Bool.not_not]
   conv=>whnf
   repeat ((first|refine ⟨gP_of ⟨by omega,by omega⟩,?_⟩|refine ix (by assumption) ?_|refine QCall.k0 (iwithin _ _ _) ?_|refine gcall (hris) ?_|refine ⟨_,_,Rem.here _,⟨Nat.le_of_ble_eq_true rfl,rfl⟩,?_⟩|intro (nb:Nat));conv=>whnf)
   refine ⟨fun hq=>?_,fun hq=>?_⟩
   ·have hnd:okD H d=false:=by rw [hkey];exact congrArg not hq
    have h1:repE H l=1:=by
     rw [hE,if_neg]
     intro ha
     rw [List.all_eq_true] at ha
     rw [ha d hdm] at hnd
     cases hnd
    conv=>whnf
    skip
    rw [repT,h1,if_neg (by decide)]
   have hkd:okD H d=true:=by rw [hkey];exact congrArg not hq
   have hD:=okD_iff hkd
   have hEO:=(houOK h0).lex.entAt hD.entry.1 hD.entry.2
   have hrl:=sndOK_len hEO.root
   have hcl:=clsT_len hEO
   have hne:(entAt H.lex d.entry).root≠[]:=by intro e;rw [e] at hrl;simp at hrl
   have hs:=take_snoc hdi
   have hok2:∀ x∈l.take (i+1),okD H x=true:=by
    rw [hs]
    intro x hx
    rcases List.mem_append.1 hx with h|h
    ·exact hok x h
    ·rw [List.mem_singleton.1 h];exact hkd
   have htl:t.length≤139*200:=by
    have:=recs_len (x:=H.lex) (B:=139) (l:=l.take i) fun x hx=>recT_len h0 (okD_iff (hok x hx))
    rw [← ht,List.length_take] at this
    have h3:139*min i l.length≤139*200:=Nat.mul_le_mul_left _ (by omega)
    omega
   have hend:((t++(entAt H.lex d.entry).root++clsT (entAt H.lex d.entry)++[58])++numT d.lines)++[10]=((l.take (i+1)).map (recT H.lex)).flatten:=by
    rw [hs,List.map_append,List.flatten_append,← ht]
    simp [recT]
   obtain ⟨u,hu⟩:∃ u,u=t++(entAt H.lex d.entry).root++clsT (entAt H.lex d.entry)++[58]:=⟨_,rfl⟩
   have hul:u.length≤139*200+18:=by
    rw [hu]
    simp only [List.length_append,List.length_cons,List.length_nil]
    omega
   rw [← hu] at hend
   conv=>whnf
   repeat ((first|(refine ixn d.entry.toNat (by have:=hD.entry;omega) (entAt_get hD.entry.1 hD.entry.2) ?_)|(refine bStr b t _ hne (by omega) ?_)|refine ⟨_,_,Rem.here _,⟨Nat.le_of_ble_eq_true rfl,rfl⟩,?_⟩|intro (nb:Nat));conv=>whnf)
   refine ⟨fun hc=>?_,fun hc=>?_⟩<;>simp at hc
   ·have hct:clsT (entAt H.lex d.entry)=[32]++(entAt H.lex d.entry).cls:=by unfold clsT;rw [if_neg hc];rfl
    rw [hct] at hu hcl
    have hl1:([32]++(entAt H.lex d.entry).cls).length≤LMAX:=by unfold LMAX;omega
    conv=>whnf
    repeat ((first|(refine ⟨gP_of hl1,?_⟩)|(refine bStr b (t++(entAt H.lex d.entry).root) ([32]++(entAt H.lex d.entry).cls) (by simp) (by rw [List.length_append];omega) ?_)|(refine bByte b (t++(entAt H.lex d.entry).root++([32]++(entAt H.lex d.entry).cls)) 58 (by rw [List.length_append,List.length_append];omega) ?_));conv=>whnf)
    refine sloop rfl mixed [2,7,21,22,23,67,68,69] [] (fun m r h=>∃ (j:Nat) (v:List UInt8),r=[(2,[],.iptr (encHou H)),(7,[],.optr b 0),(21,[],.sl 2 none (l.map encNd)),(22,[],.int .i64 (l.map encNd).length),(23,[],.int .i64 i),(67,[],.sl 1 none (ints d.lines)),(68,[],.int .i64 (ints d.lines).length),(69,[],.int .i64 j)]∧h=[(b,.bld 53 5 v)]∧m=d.lines.length - j∧j≤d.lines.length∧v=u++numT (d.lines.take j)) ?_ ?_
    ·conv=>whnf
     exact ⟨_,0,_,rfl,rfl,rfl,by omega,by rw [← hu];simp [numT]⟩
    ·rintro m r h ⟨j,v,rfl,rfl,rfl,hj,hv⟩
     conv=>whnf
     skip
     refine ⟨fun hj2=>?_,fun hj2=>?_⟩<;>simp at hj2
     ·obtain ⟨n,hn⟩:=get_lt hj2
      have hnb:=hD.nums n (List.mem_of_getElem? hn)
      have hdl:=dec_len (n:=n) hnb.1 (by omega)
      have hs:=take_snoc hn
      have hvl:v.length≤u.length+3*40:=by
       have:=numT_len (l:=d.lines.take j) fun m hm=>⟨(hD.nums m (List.mem_of_mem_take hm)).1,by have:=(hD.nums m (List.mem_of_mem_take hm)).2;omega⟩
       rw [List.length_take] at this
       rw [hv,List.length_append]
       have:=hD.few
       omega
      have hl1:([32]++decT n).length≤LMAX:=by rw [List.length_append,List.length_cons,List.length_nil];unfold LMAX;omega
      conv=>whnf
      repeat ((first|refine ⟨gP_of ⟨by omega,by omega⟩,?_⟩|refine ix (by assumption) ?_|refine QCall.k0 (itoaW n ⟨hnb.1,by omega⟩) ?_|(refine ⟨gP_of hl1,?_⟩)|(refine bStr b v ([32]++decT n) (by simp) (by rw [List.length_append,List.length_cons,List.length_nil];omega) ?_));conv=>whnf)
      exact ⟨_,by omega,j+1,_,rfl,rfl,rfl,by omega,by rw [hs,numT_snoc,hv,List.append_assoc]⟩
     ·rw [List.take_of_length_le hj2] at hv
      have hvl:v.length≤u.length+3*40:=by
       have:=numT_len (l:=d.lines) fun m hm=>⟨(hD.nums m hm).1,by have:=(hD.nums m hm).2;omega⟩
       rw [hv,List.length_append]
       have:=hD.few
       omega
      conv=>whnf
      repeat ((first|refine ⟨gP_of ⟨by omega,by omega⟩,?_⟩|(refine bByte b v 10 (by omega) ?_));conv=>whnf)
      exact ⟨_,by omega,i+1,_,rfl,rfl,rfl,by omega,hok2,by rw [hv];exact hend⟩
   ·have hct:clsT (entAt H.lex d.entry)=[]:=by unfold clsT;rw [if_pos hc]
    rw [hct,List.append_nil] at hu
    conv=>whnf
    repeat ((refine bByte b (t++(entAt H.lex d.entry).root) 58 (by rw [List.length_append];omega) ?_);conv=>whnf)
    refine sloop rfl mixed [2,7,21,22,23,67,68,69] [] (fun m r h=>∃ (j:Nat) (v:List UInt8),r=[(2,[],.iptr (encHou H)),(7,[],.optr b 0),(21,[],.sl 2 none (l.map encNd)),(22,[],.int .i64 (l.map encNd).length),(23,[],.int .i64 i),(67,[],.sl 1 none (ints d.lines)),(68,[],.int .i64 (ints d.lines).length),(69,[],.int .i64 j)]∧h=[(b,.bld 53 5 v)]∧m=d.lines.length - j∧j≤d.lines.length∧v=u++numT (d.lines.take j)) ?_ ?_
    ·conv=>whnf
     exact ⟨_,0,_,rfl,rfl,rfl,by omega,by rw [← hu];simp [numT]⟩
    ·rintro m r h ⟨j,v,rfl,rfl,rfl,hj,hv⟩
     conv=>whnf
     skip
     refine ⟨fun hj2=>?_,fun hj2=>?_⟩<;>simp at hj2
     ·obtain ⟨n,hn⟩:=get_lt hj2
      have hnb:=hD.nums n (List.mem_of_getElem? hn)
      have hdl:=dec_len (n:=n) hnb.1 (by omega)
      have hs:=take_snoc hn
      have hvl:v.length≤u.length+3*40:=by
       have:=numT_len (l:=d.lines.take j) fun m hm=>⟨(hD.nums m (List.mem_of_mem_take hm)).1,by have:=(hD.nums m (List.mem_of_mem_take hm)).2;omega⟩
       rw [List.length_take] at this
       rw [hv,List.length_append]
       have:=hD.few
       omega
      have hl1:([32]++decT n).length≤LMAX:=by rw [List.length_append,List.length_cons,List.length_nil];unfold LMAX;omega
      conv=>whnf
      repeat ((first|refine ⟨gP_of ⟨by omega,by omega⟩,?_⟩|refine ix (by assumption) ?_|refine QCall.k0 (itoaW n ⟨hnb.1,by omega⟩) ?_|(refine ⟨gP_of hl1,?_⟩)|(refine bStr b v ([32]++decT n) (by simp) (by rw [List.length_append,List.length_cons,List.length_nil];omega) ?_));conv=>whnf)
      exact ⟨_,by omega,j+1,_,rfl,rfl,rfl,by omega,by rw [hs,numT_snoc,hv,List.append_assoc]⟩
     ·rw [List.take_of_length_le hj2] at hv
      have hvl:v.length≤u.length+3*40:=by
       have:=numT_len (l:=d.lines) fun m hm=>⟨(hD.nums m hm).1,by have:=(hD.nums m hm).2;omega⟩
       rw [hv,List.length_append]
       have:=hD.few
       omega
      conv=>whnf
      repeat ((first|refine ⟨gP_of ⟨by omega,by omega⟩,?_⟩|(refine bByte b v 10 (by omega) ?_));conv=>whnf)
      exact ⟨_,by omega,i+1,_,rfl,rfl,rfl,by omega,hok2,by rw [hv];exact hend⟩
  ·rw [List.take_of_length_le hi2] at ht hok
   have h1:repE H l=0:=by rw [hE,if_pos (List.all_eq_true.2 hok)]
   have htl:t.length≤139*200:=by
    have:=recs_len (x:=H.lex) (B:=139) (l:=l) fun x hx=>recT_len h0 (okD_iff (hok x hx))
    rw [← ht] at this
    have h3:139*l.length≤139*200:=Nat.mul_le_mul_left _ (by omega)
    omega
   conv=>whnf
   repeat ((refine bText b t (by omega) ?_);conv=>whnf)
   rw [repT,h1,if_pos rfl,ht]
   done
end Go.Abs.Wall.Lst
namespace Go.Abs.Wall.Lst
open Go Go.Abs Go.Proofs Go.Abs.Wall Go.Proofs.YtmkmflcemegikaaGreatDoor.Br
theorem dig_at:∀ {k:Nat},k<10→(([48,49,50,51,52,53,54,55,56,57]:List UInt8).take (k+1)).drop k=[UInt8.ofNat (48+k)]:=by
 intro k hk
 have:∀ k<10,(([48,49,50,51,52,53,54,55,56,57]:List UInt8).take (k+1)).drop k=[UInt8.ofNat (48+k)]:=by decide
 exact this k hk
theorem dig_i {n:Int} (h:0≤n) (h2:n<10):(([48,49,50,51,52,53,54,55,56,57]:List UInt8).take (n+1).toNat).drop n.toNat=[UInt8.ofNat (48+n.toNat)]:=by
 rw [show (n+1).toNat=n.toNat+1 by omega]
 exact dig_at (by omega)
def c20:Cfg:=⟨[0,2,4],[],[],[],[(3,[0,1,2,3,4,5,6,7,8,9,10,11,12,13],[])],[]⟩
def c7:Cfg:=⟨[0,1,2,4,5,6,7,8,9,10,11,15,19,23,53,73,84],[],[9],[],[],[]⟩
def c3:Cfg:=⟨[0,1,2,4,5,6,7,8,20],[],[],[],[],[]⟩
theorem refDec (n:Int) (h:0≤n) (h2:n<100):QCall Tryz.prog 20 [.int .i64 n] [] (.str (decT n)):=by
 refine fcalls (F:=Tryz.f20) c20 rfl rfl rfl mixed rfl fun X=>?_
 conv=>whnf
 skip
 refine ⟨fun h3=>?_,fun h3=>?_⟩<;>simp at h3
 ·conv=>whnf
  repeat ((first|refine ⟨gP_of ⟨by omega,by omega⟩,?_⟩|(refine ⟨gP_of ⟨by omega,by omega,by simp;omega⟩,?_⟩));conv=>whnf)
  refine ⟨?_,rfl⟩
  rw [decT,dec_one (by omega)]
  exact congrArg AV.str (dig_i h h3)
 ·have hq:n.tdiv 10=n / 10:=Int.tdiv_eq_ediv_of_nonneg h
  have hr:n.tmod 10=n % 10:=Int.tmod_eq_emod_of_nonneg h
  have hd1:=dig_i (n:=n / 10) (by omega) (by omega)
  have hd2:=dig_i (n:=n % 10) (by omega) (by omega)
  have hl1:((([48,49,50,51,52,53,54,55,56,57]:List UInt8).take (n.tdiv 10+1).toNat).drop (n.tdiv 10).toNat++(([48,49,50,51,52,53,54,55,56,57]:List UInt8).take (n.tmod 10+1).toNat).drop (n.tmod 10).toNat).length≤LMAX:=by
   rw [hq,hr,hd1,hd2]
   show 2≤LMAX
   decide
  conv=>whnf
  repeat ((first|refine ⟨gP_of ⟨by omega,by omega⟩,?_⟩|(refine ⟨gP_of (by decide),?_⟩)|(refine ⟨gP_of ⟨by decide,(⟨by rw [hr];omega,by rw [hr];omega⟩:-9223372036854775808≤n.tmod 10∧n.tmod 10≤9223372036854775807)⟩,?_⟩)|(refine ⟨gP_of ⟨by rw [hq];omega,by omega,by rw [hq];simp;omega⟩,?_⟩)|(refine ⟨gP_of ⟨by rw [hr];omega,by omega,by rw [hr];simp;omega⟩,?_⟩)|(refine ⟨gP_of hl1,?_⟩)|refine And.intro (by show drawOK (opsAt Tryz.f20 _) _=true;decide +kernel) ?_);conv=>whnf)
  refine ⟨?_,rfl⟩
  refine congrArg AV.str ?_
  show (([48,49,50,51,52,53,54,55,56,57]:List UInt8).take (n.tdiv 10+1).toNat).drop (n.tdiv 10).toNat++(([48,49,50,51,52,53,54,55,56,57]:List UInt8).take (n.tmod 10+1).toNat).drop (n.tmod 10).toNat=decT n
  rw [hq,hr,hd1,hd2,decT,dec_two (by omega) (by omega)]
  rw [show (n / 10).toNat=n.toNat / 10 by omega,show (n % 10).toNat=n.toNat % 10 by omega]
  rfl
theorem refReportW (H:Hou) (l:List Nd) (hf:HouFit H) (hl:l.length≤1048576) (hd:∀ x∈l,NdFit x):QCall Tryz.prog 7 [.agg (encHou H),.sl 2 none (l.map encNd)] [] (.tup [.str (repT H l),.int .i64 (repE H l)]):=by
 refine QCall.of' ?_
 refine fcalls (F:=Tryz.f7) c7 rfl rfl rfl mixed rfl fun X=>?_
 conv=>whnf
 repeat (refine QCall.k0 (refHouse H hf) ?_;conv=>whnf)
 refine ⟨fun h0=>?_,fun h0=>?_⟩<;>simp at h0
 ·have he:repE H l=houErr H:=by rw [repE,if_pos h0]
  conv=>whnf
  skip
  rw [repT,he,if_neg h0]
 conv=>whnf
 skip
 refine ⟨fun h2=>?_,fun h2=>?_⟩<;>simp at h2
 ·have he:repE H l=2:=by rw [repE,if_neg (by omega),if_pos (by omega)]
  conv=>whnf
  skip
  rw [repT,he,if_neg (by decide)]
 have hE:repE H l=if l.all (okD H)=true then 0 else 1:=by rw [repE,if_neg (by omega),if_neg (by omega)]
 conv=>whnf
 skip
 refine sloop rfl mixed [1,2,7,8] [] (fun m r h=>∃ (i:Nat) (t:List UInt8),r=[(1,[],.sl 2 none (l.map encNd)),(2,[],.iptr (encHou H)),(7,[],.str t),(8,[],.int .i64 i)]∧h=[]∧m=l.length - i∧i≤l.length∧(∀ d∈l.take i,okD H d=true)∧t=((l.take i).map (recT H.lex)).flatten) ?_ ?_
 ·conv=>whnf
  exact ⟨_,0,_,rfl,rfl,rfl,by omega,(fun d hd=>by cases hd),rfl⟩
 ·rintro m r h ⟨i,t,rfl,rfl,rfl,hi,hok,ht⟩
  conv=>whnf
  skip
  refine ⟨fun hi2=>?_,fun hi2=>?_⟩<;>simp at hi2
  ·obtain ⟨d,hdi⟩:=get_lt hi2
   have hdm:=List.mem_of_getElem? hdi
   have hdf:=(hd d hdm).lines
   have hris:=refChoice d.lines 40 (by unfold LMAX;omega) (by decide)
   have hln:((H.lex.entries.map encEnt).length:Int)=H.lex.entries.length:=by rw [List.length_map]
   have hll:((ints d.lines).length:Int)=d.lines.length:=by rw [ints_length]
   have hEl:H.lex.entries.length≤1048576:=by have:=(houOK h0).lex.many.1;omega
   have hkey:okD H d=!(((decide (d.entry<0)||decide (((H.lex.entries.map encEnt).length:Int)≤d.entry))||decide (40<((ints d.lines).length:Int)))||!risM d.lines 40):=by
    rw [hln,hll]
    unfold okD
    have e1:decide (d.entry<(H.lex.entries.length:Int))=!decide ((H.lex.entries.length:Int)≤d.entry):=by rw [← decide_not];exact decide_eq_decide.2 (by omega)
    have e2:decide ((d.lines.length:Int)≤40)=!decide (40<(d.lines.length:Int)):=by rw [← decide_not];exact decide_eq_decide.2 (by omega)
    have e3:decide (0≤d.entry)=!decide (d.entry<0):=by rw [← decide_not];exact decide_eq_decide.2 (by omega)
    rw [e1,e2,e3]
    simp only [Bool.not_or,Bool.not_not]
   conv=>whnf
   repeat ((first|refine ix (by assumption) ?_|refine gcall (hris) ?_|refine ⟨_,_,Rem.here _,⟨Nat.le_of_ble_eq_true rfl,rfl⟩,?_⟩|intro (nb:Nat));conv=>whnf)
   refine ⟨fun hq=>?_,fun hq=>?_⟩
   ·have hnd:okD H d=false:=by rw [hkey];exact congrArg not hq
    have h1:repE H l=1:=by
     rw [hE,if_neg]
     intro ha
     rw [List.all_eq_true] at ha
     rw [ha d hdm] at hnd
     cases hnd
    conv=>whnf
    skip
    rw [repT,h1,if_neg (by decide)]
   have hkd:okD H d=true:=by rw [hkey];exact congrArg not hq
   have hD:=okD_iff hkd
   have hEO:=(houOK h0).lex.entAt hD.entry.1 hD.entry.2
   have hrl:=sndOK_len hEO.root
   have hcl:=clsT_len hEO
   have hs:=take_snoc hdi
   have hok2:∀ x∈l.take (i+1),okD H x=true:=by
    rw [hs]
    intro x hx
    rcases List.mem_append.1 hx with h|h
    ·exact hok x h
    ·rw [List.mem_singleton.1 h];exact hkd
   have htl:t.length≤139*200:=by
    have:=recs_len (x:=H.lex) (B:=139) (l:=l.take i) fun x hx=>recT_len h0 (okD_iff (hok x hx))
    rw [← ht,List.length_take] at this
    have h3:139*min i l.length≤139*200:=Nat.mul_le_mul_left _ (by omega)
    omega
   have hend:((t++(entAt H.lex d.entry).root++clsT (entAt H.lex d.entry)++[58])++numT d.lines)++[10]=((l.take (i+1)).map (recT H.lex)).flatten:=by
    rw [hs,List.map_append,List.flatten_append,← ht]
    simp [recT]
   obtain ⟨u,hu⟩:∃ u,u=t++(entAt H.lex d.entry).root++clsT (entAt H.lex d.entry)++[58]:=⟨_,rfl⟩
   have hul:u.length≤139*200+18:=by
    rw [hu]
    simp only [List.length_append,List.length_cons,List.length_nil]
    omega
   rw [← hu] at hend
   have hl1:(t++(entAt H.lex d.entry).root).length≤LMAX:=by rw [List.length_append];unfold LMAX;omega
   conv=>whnf
   repeat ((first|(refine ixn d.entry.toNat (by have:=hD.entry;omega) (entAt_get hD.entry.1 hD.entry.2) ?_)|(refine ⟨gP_of hl1,?_⟩));conv=>whnf)
   refine ⟨fun hc=>?_,fun hc=>?_⟩<;>simp at hc
   ·have hct:clsT (entAt H.lex d.entry)=[32]++(entAt H.lex d.entry).cls:=by unfold clsT;rw [if_neg hc];rfl
    rw [hct] at hu hcl
    have hl2:([32]++(entAt H.lex d.entry).cls).length≤LMAX:=by unfold LMAX;omega
    have hl3:(t++(entAt H.lex d.entry).root++([32]++(entAt H.lex d.entry).cls)).length≤LMAX:=by rw [List.length_append,List.length_append];unfold LMAX;omega
    have hl4:(t++(entAt H.lex d.entry).root++([32]++(entAt H.lex d.entry).cls)++[58]).length≤LMAX:=by rw [← hu];unfold LMAX;omega
    conv=>whnf
    repeat ((first|(refine ⟨gP_of hl4,?_⟩)|(refine ⟨gP_of hl3,?_⟩)|(refine ⟨gP_of hl2,?_⟩));conv=>whnf)
    refine sloop rfl mixed [1,2,7,8,9,11] [] (fun m r h=>∃ (j:Nat) (v:List UInt8),r=[(1,[],.sl 2 none (l.map encNd)),(2,[],.iptr (encHou H)),(7,[],.str v),(8,[],.int .i64 i),(9,[],.iptr (encNd d)),(11,[],.int .i64 j)]∧h=[]∧m=d.lines.length - j∧j≤d.lines.length∧v=u++numT (d.lines.take j)) ?_ ?_
    ·conv=>whnf
     exact ⟨_,0,_,rfl,rfl,rfl,by omega,by rw [hu];simp [numT]⟩
    ·rintro m r h ⟨j,v,rfl,rfl,rfl,hj,hv⟩
     conv=>whnf
     skip
     refine ⟨fun hj2=>?_,fun hj2=>?_⟩<;>simp at hj2
     ·obtain ⟨n,hn⟩:=get_lt hj2
      have hnb:=hD.nums n (List.mem_of_getElem? hn)
      have hdl:=dec_len (n:=n) hnb.1 (by omega)
      have hs:=take_snoc hn
      have hvl:v.length≤u.length+3*40:=by
       have:=numT_len (l:=d.lines.take j) fun m hm=>⟨(hD.nums m (List.mem_of_mem_take hm)).1,by have:=(hD.nums m (List.mem_of_mem_take hm)).2;omega⟩
       rw [List.length_take] at this
       rw [hv,List.length_append]
       have:=hD.few
       omega
      have hl1:([32]++decT n).length≤LMAX:=by rw [List.length_append,List.length_cons,List.length_nil];unfold LMAX;omega
      have hl2:(v++([32]++decT n)).length≤LMAX:=by rw [List.length_append,List.length_append,List.length_cons,List.length_nil];unfold LMAX;omega
      conv=>whnf
      repeat ((first|refine ⟨gP_of ⟨by omega,by omega⟩,?_⟩|refine ix (by assumption) ?_|refine QCall.k0 (refDec n hnb.1 (by omega)) ?_|(refine ⟨gP_of hl2,?_⟩)|(refine ⟨gP_of hl1,?_⟩));conv=>whnf)
      exact ⟨_,by omega,j+1,_,rfl,rfl,rfl,by omega,by rw [hs,numT_snoc,hv,List.append_assoc]⟩
     ·rw [List.take_of_length_le hj2] at hv
      have hvl:v.length≤u.length+3*40:=by
       have:=numT_len (l:=d.lines) fun m hm=>⟨(hD.nums m hm).1,by have:=(hD.nums m hm).2;omega⟩
       rw [hv,List.length_append]
       have:=hD.few
       omega
      have hl1:(v++[10]).length≤LMAX:=by rw [List.length_append,List.length_cons,List.length_nil];unfold LMAX;omega
      conv=>whnf
      repeat ((first|refine ⟨gP_of ⟨by omega,by omega⟩,?_⟩|(refine ⟨gP_of hl1,?_⟩));conv=>whnf)
      exact ⟨_,by omega,i+1,_,rfl,rfl,rfl,by omega,hok2,by rw [hv];exact hend⟩
   ·have hct:clsT (entAt H.lex d.entry)=[]:=by unfold clsT;rw [if_pos hc]
    rw [hct,List.append_nil] at hu
    have hl4:(t++(entAt H.lex d.entry).root++[58]).length≤LMAX:=by rw [← hu];unfold LMAX;omega
    conv=>whnf
    repeat ((refine ⟨gP_of hl4,?_⟩);conv=>whnf)
    refine sloop rfl mixed [1,2,7,8,9,11] [] (fun m r h=>∃ (j:Nat) (v:List UInt8),r=[(1,[],.sl 2 none (l.map encNd)),(2,[],.iptr (encHou H)),(7,[],.str v),(8,[],.int .i64 i),(9,[],.iptr (encNd d)),(11,[],.int .i64 j)]∧h=[]∧m=d.lines.length - j∧j≤d.lines.length∧v=u++numT (d.lines.take j)) ?_ ?_
    ·conv=>whnf
     exact ⟨_,0,_,rfl,rfl,rfl,by omega,by rw [hu];simp [numT]⟩
    ·rintro m r h ⟨j,v,rfl,rfl,rfl,hj,hv⟩
     conv=>whnf
     skip
     refine ⟨fun hj2=>?_,fun hj2=>?_⟩<;>simp at hj2
     ·obtain ⟨n,hn⟩:=get_lt hj2
      have hnb:=hD.nums n (List.mem_of_getElem? hn)
      have hdl:=dec_len (n:=n) hnb.1 (by omega)
      have hs:=take_snoc hn
      have hvl:v.length≤u.length+3*40:=by
       have:=numT_len (l:=d.lines.take j) fun m hm=>⟨(hD.nums m (List.mem_of_mem_take hm)).1,by have:=(hD.nums m (List.mem_of_mem_take hm)).2;omega⟩
       rw [List.length_take] at this
       rw [hv,List.length_append]
       have:=hD.few
       omega
      have hl1:([32]++decT n).length≤LMAX:=by rw [List.length_append,List.length_cons,List.length_nil];unfold LMAX;omega
      have hl2:(v++([32]++decT n)).length≤LMAX:=by rw [List.length_append,List.length_append,List.length_cons,List.length_nil];unfold LMAX;omega
      conv=>whnf
      repeat ((first|refine ⟨gP_of ⟨by omega,by omega⟩,?_⟩|refine ix (by assumption) ?_|refine QCall.k0 (refDec n hnb.1 (by omega)) ?_|(refine ⟨gP_of hl2,?_⟩)|(refine ⟨gP_of hl1,?_⟩));conv=>whnf)
      exact ⟨_,by omega,j+1,_,rfl,rfl,rfl,by omega,by rw [hs,numT_snoc,hv,List.append_assoc]⟩
     ·rw [List.take_of_length_le hj2] at hv
      have hvl:v.length≤u.length+3*40:=by
       have:=numT_len (l:=d.lines) fun m hm=>⟨(hD.nums m hm).1,by have:=(hD.nums m hm).2;omega⟩
       rw [hv,List.length_append]
       have:=hD.few
       omega
      have hl1:(v++[10]).length≤LMAX:=by rw [List.length_append,List.length_cons,List.length_nil];unfold LMAX;omega
      conv=>whnf
      repeat ((first|refine ⟨gP_of ⟨by omega,by omega⟩,?_⟩|(refine ⟨gP_of hl1,?_⟩));conv=>whnf)
      exact ⟨_,by omega,i+1,_,rfl,rfl,rfl,by omega,hok2,by rw [hv];exact hend⟩
  ·rw [List.take_of_length_le hi2] at ht hok
   have h1:repE H l=0:=by rw [hE,if_pos (List.all_eq_true.2 hok)]
   conv=>whnf
   skip
   rw [repT,h1,if_pos rfl,ht]
theorem argNdR {x:AV} (h:ArgSh Tryz.prog B20 34 x):∃ l:List Nd,x=.sl 2 none (l.map encNd)∧l.length≤1048576∧∀ y∈l,NdFit y:=by
 obtain ⟨xs,h,hx⟩:=h
 have hx:xs=[x]:=hx
 obtain ⟨l,h1,h2,h3⟩:=sh_list (enc:=encNd) (Fit:=NdFit) h rfl fun y hy=>by
  obtain ⟨ps,rfl,hp⟩:=sh_struct hy rfl
  obtain ⟨x,y,rfl,h1,h2⟩:=sh2 hp
  obtain ⟨a,rfl,ha⟩:=shInt h1
  obtain ⟨b,rfl,hb,_⟩:=shInts h2
  exact ⟨⟨a,b⟩,rfl,⟨by unfold B20 at hb;exact hb⟩⟩
 rw [hx] at h1
 cases h1
 exact ⟨l,rfl,by unfold B20 at h2;omega,h3⟩
theorem induceReportsL (H:Hou) (l:List Nd) (hf:HouFit H) (hl:l.length≤1048576) (hd:∀ x∈l,NdFit x):QCall Tryz.prog 3 [.agg (encHou H),.sl 2 none (l.map encNd)] [] (.bool true):=by
 have hlg:QCall Tryz.prog 4 [.agg (encHou H),.nilS] [] (.bool (largeM H [])):=QCall.args (largeW H []) (.cons (VLe.refl _) (.cons (VLe.nil (by decide)) .nil))
 refine QCall.of' ?_
 refine fcalls (F:=Tryz.f3) c3 rfl rfl rfl mixed rfl fun X=>?_
 conv=>whnf
 repeat (refine gcall (hlg) ?_;conv=>whnf)
 refine ⟨fun hq=>?_,fun hq=>?_⟩
 ·conv=>whnf
  repeat (refine QCall.k0 (worksI) ?_;conv=>whnf)
  done
 conv=>whnf
 repeat ((first|refine QCall.k0 (ReportW H l hf hl hd) ?_|refine QCall.k0 (refReportW H l hf hl hd) ?_|refine gcall (worksI) ?_);conv=>whnf)
 exact congrArg AV.bool (by simp)
end Go.Abs.Wall.Lst
