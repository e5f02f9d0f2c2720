/- What is proved: small laws for the walks of this seat, and contracts of its functions. No condition but those each theorem names. -/
import Derived.Test.YthkokengobdgcaaGreatN27
import Derived.Test.YthkokengobdgcaaGreatN24
import Derived.Test.YthkokengobdgcaaGreatN8
import Derived.Test.YthkokengobdgcaaGreatN25
import Derived.Test.YthkokengobdgcaaGreatN19
import Derived.Test.YthkokengobdgcaaGreatN10
set_option maxRecDepth 100000
set_option maxHeartbeats 2000000
set_option linter.unusedVariables false
set_option linter.unusedSimpArgs false
namespace Go.Abs.Wall.Lst
open Go Go.Abs Go.Proofs Go.Abs.Wall
/-! ### proposals: the specification's put -/
def lessN (a b : Ent) : Bool := decide (entC a b < 0)
def putB (L : List Ent) (u : Ent) : List Ent := if u ∈ L then L else bub lessN L u
def entEq (a b : Ent) : Bool := decide (a.root = b.root) && (decide (a.kind = b.kind) && (decide (a.cls = b.cls) && (decide (a.weight = b.weight) && true)))
theorem entEq_iff (a b : Ent) : entEq a b = decide (a = b) := by
  rw [Bool.eq_iff_iff]
  obtain ⟨a1, a2, a3, a4⟩ := a
  obtain ⟨b1, b2, b3, b4⟩ := b
  simp [entEq]
theorem plainEnt : plainT Tryz.prog 63 = true := by decide +kernel
theorem putB_mem {L : List Ent} {u e : Ent} : e ∈ putB L u ↔ e ∈ L ∨ e = u := by
  unfold putB
  split
  · rename_i h
    constructor
    · exact .inl
    · rintro (h1 | rfl)
      · exact h1
      · exact h
  · rw [bub_perm.mem_iff, List.mem_cons]; exact or_comm
theorem putB_len (L : List Ent) (u : Ent) : L.length ≤ (putB L u).length ∧ (putB L u).length ≤ L.length + 1 := by
  unfold putB
  split
  · omega
  · rw [bub_perm.length_eq]; simp
theorem putB_ok {L : List Ent} (hl : UpOK L) {root cls : List UInt8} : UpOK (putB L (entP root cls)) := by
  have hform : ∀ e ∈ putB L (entP root cls), e = entP e.root e.cls := by
    intro e he
    rcases putB_mem.1 he with h | rfl
    · exact hl.form e h
    · rfl
  refine ⟨hform, ?_⟩
  by_cases hm : entP root cls ∈ L
  · unfold putB
    rw [if_pos hm]
    exact hl.up
  · have hb : putB L (entP root cls) = bub lessN L (entP root cls) := by rw [putB, if_neg hm]
    have h1 : (bub lessN L (entP root cls)).Pairwise fun x y => ¬ entC y x < 0 := bub_sorted entC_w (hl.up.imp fun {x y} h h2 => entC_w.irr x (entC_w.tr _ _ _ h h2))
    have h2 : (bub lessN L (entP root cls)).Nodup := (bub_perm.nodup_iff).2 (List.nodup_cons.2 ⟨hm, hl.nodup⟩)
    rw [hb] at hform ⊢
    refine List.Pairwise.imp_of_mem ?_ (h1.and h2)
    rintro x y hx hy ⟨h4, h5⟩
    rcases entC_ne (hform x hx) (hform y hy) h5 with h | h
    · exact h
    · exact absurd h h4
def c144 : Cfg := ⟨[0, 1, 2, 3, 4, 9], [], [], [], [], []⟩
def c97 : Cfg := ⟨[0, 1, 3, 4, 5, 6, 10, 18, 40], [], [], [], [(4, [0, 1, 2, 3, 4, 5], []), (8, [0, 1, 2, 3, 4, 5, 6, 7, 8, 9, 10, 11, 12, 13], []), (10, [0, 1, 2, 3, 4, 5, 6, 7, 8, 9, 10, 11, 12, 13, 14, 15, 16, 17], [])], []⟩
theorem refLessN (a b : Ent) : QCall Tryz.prog 144 [.agg (encEnt a), .agg (encEnt b)] [] (.bool (lessN a b)) := by
  refine fcalls (F := Tryz.f144) c144 rfl rfl rfl mixed rfl fun X => ?_
  conv => whnf
  skip
  have hu : entC a b = if cmpS a.root b.root ≠ 0 then cmpS a.root b.root else cmpS a.cls b.cls := by unfold entC; rw [orI2]
  refine ⟨fun hq => ?_, fun hq => ?_⟩ <;> simp at hq
  · conv => whnf
    skip
    refine ⟨congrArg AV.bool ?_, rfl⟩
    unfold lessN
    rw [hu, if_pos (by rw [ne_eq, zS.zero]; exact hq), bytesLess_eq, decide_eq_decide, cmpS_lt]
  · conv => whnf
    skip
    refine ⟨congrArg AV.bool ?_, rfl⟩
    unfold lessN
    rw [hu, if_neg (by rw [ne_eq, zS.zero]; simpa using hq), bytesLess_eq, decide_eq_decide, cmpS_lt]
theorem refPut10 (L : List Ent) (u : Ent) (v : AV) (hp : Heap) (hL : Row 4 encEnt L v hp) (hl : L.length + 1 ≤ AMAX) :
    ACalls Tryz.prog 97 [v, .agg (encEnt u)] hp (fun v' h' => Row 4 encEnt (putB L u) v' h') := by
  have hl' := hl
  unfold AMAX at hl'
  rcases hL with ⟨hLe, rfl, rfl⟩ | ⟨hne, b, rfl, rfl⟩
  · refine fcalls (F := Tryz.f97) c97 rfl rfl rfl mixed rfl fun X => ?_
    conv => whnf
    refine uloop 60 rfl mixed ?_
    conv => whnf
    refine .inr ?_
    conv => whnf
    skip
    refine cF rfl ?_
    conv => whnf
    repeat ((first | (refine ⟨⟨Nat.le_of_ble_eq_true rfl, Nat.le_of_ble_eq_true rfl⟩, fun bb => ?_⟩) | (refine ⟨gP_of ⟨by simp, by simp⟩, ?_⟩)); conv => whnf)
    have hpm : putB L u = bub lessN L u := by rw [putB, hLe, if_neg (by simp)]
    have hL1 : (L ++ [u]).length = L.length + 1 := by simp
    refine sloop rfl mixed [0, 6] [] (fun m r h => ∃ (i : Nat) (R : List Ent), r = [(0, [], .osl bb 0 (L.length + 1) 4), (6, [], .int .i64 i)] ∧ h = [(bb, .vec (R.map encEnt).flatten)] ∧ m = i ∧ i ≤ L.length ∧ R = L.take i ++ u :: L.drop i ∧ bub lessN L u = bub lessN (L.take i) u ++ L.drop i) ?_ ?_
    · conv => whnf
      exact ⟨_, L.length, L ++ [u], by first | (rw [hLe]; rfl) | simp, by first | (rw [hLe]; rfl) | (rw [List.map_append, List.flatten_append]; rfl), rfl, by omega, by simp, by simp⟩
    · rintro m r h ⟨i, R, rfl, rfl, rfl, hi, hR, hb⟩
      have hRl : R.length = L.length + 1 := by rw [hR]; simp; omega
      have hRi : R[m]? = some u := by rw [hR]; exact mid_get (by rw [List.length_take]; omega)
      obtain ⟨pv, hpv⟩ := get_lt (l := R) (i := ((m : Int) - 1).toNat) (by omega)
      conv => whnf
      repeat ((first | refine ⟨gP_of ⟨by omega, by omega⟩, ?_⟩ | (refine ixo (i := m) (by omega) ?_) | (refine ixog ?_ ?_; (focus (conv => whnf; skip)); (focus (intro g0; simp at g0; show 0 ≤ _ ∧ _ < _; omega)))
                     | (refine ldE encEnt_len (.head _) (Nat.zero_add _) hRi ?_) | (refine ldE encEnt_len (.head _) (Nat.zero_add _) hpv ?_) | refine gcall (refLessN u pv) ?_
                     | refine And.intro (by show drawOK (opsAt Tryz.f97 _) _ = true; decide +kernel) ?_); conv => whnf)
      refine ⟨fun hq => ?_, fun hq => ?_⟩
      · have hq : (decide (0 < (m : Int)) && lessN u pv) = true := hq
        rw [Bool.and_eq_true, decide_eq_true_eq] at hq
        obtain ⟨c, hc, h1, h2⟩ := split_at (L := L) (m := m) (by omega) hi
        have hpc : pv = c := by
          rw [show ((m : Int) - 1).toNat = m - 1 by omega, hR, h1, List.append_assoc, List.getElem?_append_right (by rw [List.length_take]; omega), List.length_take, show m - 1 - min (m - 1) L.length = 0 by omega] at hpv
          exact (Option.some.inj hpv).symm
        subst hpc
        have hpv' : R[m - 1]? = some pv := by rw [← hpv, show ((m : Int) - 1).toNat = m - 1 by omega]
        have hRs : (R.set m pv).set (m - 1) u = L.take (m - 1) ++ u :: L.drop (m - 1) := by
          rw [hR, h1, h2]
          exact swap_mid (by rw [List.length_take]; omega) (by omega)
        conv => whnf
        repeat ((first | refine ⟨gP_of ⟨by omega, by omega⟩, ?_⟩ | (refine ixo (i := m) (by omega) ?_) | (refine ⟨m - 1, gP_of ⟨by omega, by omega⟩, ?_⟩) | (refine ldE encEnt_len (.head _) (Nat.zero_add _) hRi ?_)
                       | (refine ldE encEnt_len (.head _) (Nat.zero_add _) hpv' ?_) | (refine stE pv (by decide) encEnt_len (i := m) (by omega) (Nat.zero_add _) rfl (.here _) ?_)
                       | (refine stE u (by decide) encEnt_len (i := m - 1) (by simp; omega) (Nat.zero_add _) rfl (.here _) ?_) | refine And.intro (by show drawOK (opsAt Tryz.f97 _) _ = true; decide +kernel) ?_); conv => whnf)
        exact ⟨m - 1, by omega, m - 1, _, by rw [show (m : Int) - 1 = ((m - 1 : Nat) : Int) by omega], rfl, rfl, by omega, hRs, by rw [hb, h1, bub_pass hq.2, h2]⟩
      · have hq : (decide (0 < (m : Int)) && lessN u pv) = false := hq
        have hfin : R = putB L u := by
          rw [hpm, hb, hR]
          by_cases h0 : m = 0
          · subst h0; rfl
          · obtain ⟨c, hc, h1, h2⟩ := split_at (L := L) (m := m) (by omega) hi
            have hpc : pv = c := by
              rw [show ((m : Int) - 1).toNat = m - 1 by omega, hR, h1, List.append_assoc, List.getElem?_append_right (by rw [List.length_take]; omega), List.length_take, show m - 1 - min (m - 1) L.length = 0 by omega] at hpv
              exact (Option.some.inj hpv).symm
            subst hpc
            rw [h1, bub_stop (by rw [Bool.and_eq_false_iff, decide_eq_false_iff_not] at hq; rcases hq with hq | hq; omega; exact hq), List.append_assoc]
            rfl
        conv => whnf
        skip
        rw [← hfin]
        exact row_ofL hRl (by intro h; rw [h] at hRl; simp at hRl)
  · refine fcalls (F := Tryz.f97) c97 rfl rfl rfl mixed rfl fun X => ?_
    conv => whnf
    refine sloop rfl mixed [0, 3, 5] [] (fun m r h => ∃ (i : Nat), r = [(0, [], .osl b 0 L.length 4), (3, [], .iptr (encEnt u)), (5, [], .int .i64 i)] ∧ h = [(b, .vec (L.map encEnt).flatten)] ∧ m = L.length - i ∧ i ≤ L.length ∧ ∀ j x, j < i → L[j]? = some x → x ≠ u) ?_ ?_
    · conv => whnf
      exact ⟨_, 0, rfl, rfl, rfl, by omega, fun j x h => by omega⟩
    · rintro m r h ⟨i, rfl, rfl, rfl, hi, hg⟩
      conv => whnf
      skip
      refine ⟨fun he => ?_, fun he => ?_⟩ <;> simp only [decide_eq_true_eq, decide_eq_false_iff_not] at he
      · obtain ⟨x, hx⟩ := get_lt (l := L) (i := i) (by omega)
        conv => whnf
        repeat ((first | (refine ixo (i := i) (by omega) ?_) | (refine ldE encEnt_len (.head _) (Nat.zero_add _) hx ?_) | (refine ⟨plainEnt, ?_⟩) | refine And.intro (by show drawOK (opsAt Tryz.f97 _) _ = true; decide +kernel) ?_); conv => whnf)
        refine ⟨fun hq => ?_, fun hq => ?_⟩
        · have hq : entEq x u = true := hq
          rw [entEq_iff, decide_eq_true_eq] at hq
          subst hq
          conv => whnf
          skip
          rw [putB, if_pos (List.mem_of_getElem? hx)]
          exact row_ofL rfl hne
        · have hq : entEq x u = false := hq
          rw [entEq_iff, decide_eq_false_iff_not] at hq
          conv => whnf
          repeat (refine ⟨gP_of ⟨by omega, by omega⟩, ?_⟩; conv => whnf)
          refine ⟨_, by omega, i + 1, rfl, rfl, rfl, by omega, fun j y hj hy => ?_⟩
          by_cases h1 : j = i
          · subst h1
            rw [hx] at hy
            cases hy
            exact hq
          · exact hg j y (by omega) hy
      · have hpm : putB L u = bub lessN L u := by
          rw [putB, if_neg]
          intro hm
          obtain ⟨j, hj⟩ := List.mem_iff_getElem?.1 hm
          exact hg j u (by have := (List.getElem?_eq_some_iff.1 hj).1; omega) hj rfl
        conv => whnf
        repeat ((first | (refine ⟨_, .head _, ⟨enc_len encEnt_len, hl⟩, fun bb => ⟨_, .here _, ?_⟩⟩) | (refine ⟨gP_of ⟨by simp <;> omega, by simp <;> omega⟩, ?_⟩)); conv => whnf)
        have hL1 : (L ++ [u]).length = L.length + 1 := by simp
        refine sloop rfl mixed [0, 6] [] (fun m r h => ∃ (i : Nat) (R : List Ent), r = [(0, [], .osl bb 0 (L.length + 1) 4), (6, [], .int .i64 i)] ∧ h = [(bb, .vec (R.map encEnt).flatten)] ∧ m = i ∧ i ≤ L.length ∧ R = L.take i ++ u :: L.drop i ∧ bub lessN L u = bub lessN (L.take i) u ++ L.drop i) ?_ ?_
        · conv => whnf
          exact ⟨_, L.length, L ++ [u], by first | (rw [hLe]; rfl) | simp, by first | (rw [hLe]; rfl) | (rw [List.map_append, List.flatten_append]; rfl), rfl, by omega, by simp, by simp⟩
        · rintro m r h ⟨i, R, rfl, rfl, rfl, hi, hR, hb⟩
          have hRl : R.length = L.length + 1 := by rw [hR]; simp; omega
          have hRi : R[m]? = some u := by rw [hR]; exact mid_get (by rw [List.length_take]; omega)
          obtain ⟨pv, hpv⟩ := get_lt (l := R) (i := ((m : Int) - 1).toNat) (by omega)
          conv => whnf
          repeat ((first | refine ⟨gP_of ⟨by omega, by omega⟩, ?_⟩ | (refine ixo (i := m) (by omega) ?_) | (refine ixog ?_ ?_; (focus (conv => whnf; skip)); (focus (intro g0; simp at g0; show 0 ≤ _ ∧ _ < _; omega)))
                         | (refine ldE encEnt_len (.head _) (Nat.zero_add _) hRi ?_) | (refine ldE encEnt_len (.head _) (Nat.zero_add _) hpv ?_) | refine gcall (refLessN u pv) ?_
                         | refine And.intro (by show drawOK (opsAt Tryz.f97 _) _ = true; decide +kernel) ?_); conv => whnf)
          refine ⟨fun hq => ?_, fun hq => ?_⟩
          · have hq : (decide (0 < (m : Int)) && lessN u pv) = true := hq
            rw [Bool.and_eq_true, decide_eq_true_eq] at hq
            obtain ⟨c, hc, h1, h2⟩ := split_at (L := L) (m := m) (by omega) hi
            have hpc : pv = c := by
              rw [show ((m : Int) - 1).toNat = m - 1 by omega, hR, h1, List.append_assoc, List.getElem?_append_right (by rw [List.length_take]; omega), List.length_take, show m - 1 - min (m - 1) L.length = 0 by omega] at hpv
              exact (Option.some.inj hpv).symm
            subst hpc
            have hpv' : R[m - 1]? = some pv := by rw [← hpv, show ((m : Int) - 1).toNat = m - 1 by omega]
            have hRs : (R.set m pv).set (m - 1) u = L.take (m - 1) ++ u :: L.drop (m - 1) := by
              rw [hR, h1, h2]
              exact swap_mid (by rw [List.length_take]; omega) (by omega)
            conv => whnf
            repeat ((first | refine ⟨gP_of ⟨by omega, by omega⟩, ?_⟩ | (refine ixo (i := m) (by omega) ?_) | (refine ⟨m - 1, gP_of ⟨by omega, by omega⟩, ?_⟩) | (refine ldE encEnt_len (.head _) (Nat.zero_add _) hRi ?_)
                           | (refine ldE encEnt_len (.head _) (Nat.zero_add _) hpv' ?_) | (refine stE pv (by decide) encEnt_len (i := m) (by omega) (Nat.zero_add _) rfl (.here _) ?_)
                           | (refine stE u (by decide) encEnt_len (i := m - 1) (by simp; omega) (Nat.zero_add _) rfl (.here _) ?_) | refine And.intro (by show drawOK (opsAt Tryz.f97 _) _ = true; decide +kernel) ?_); conv => whnf)
            exact ⟨m - 1, by omega, m - 1, _, by rw [show (m : Int) - 1 = ((m - 1 : Nat) : Int) by omega], rfl, rfl, by omega, hRs, by rw [hb, h1, bub_pass hq.2, h2]⟩
          · have hq : (decide (0 < (m : Int)) && lessN u pv) = false := hq
            have hfin : R = putB L u := by
              rw [hpm, hb, hR]
              by_cases h0 : m = 0
              · subst h0; rfl
              · obtain ⟨c, hc, h1, h2⟩ := split_at (L := L) (m := m) (by omega) hi
                have hpc : pv = c := by
                  rw [show ((m : Int) - 1).toNat = m - 1 by omega, hR, h1, List.append_assoc, List.getElem?_append_right (by rw [List.length_take]; omega), List.length_take, show m - 1 - min (m - 1) L.length = 0 by omega] at hpv
                  exact (Option.some.inj hpv).symm
                subst hpc
                rw [h1, bub_stop (by rw [Bool.and_eq_false_iff, decide_eq_false_iff_not] at hq; rcases hq with hq | hq; omega; exact hq), List.append_assoc]
                rfl
            conv => whnf
            skip
            rw [← hfin]
            exact row_ofL hRl (by intro h; rw [h] at hRl; simp at hRl)
end Go.Abs.Wall.Lst
set_option maxRecDepth 100000
set_option maxHeartbeats 2000000
set_option linter.unusedVariables false
set_option linter.unusedSimpArgs false
namespace Go.Abs.Wall.Lst
open Go Go.Abs Go.Proofs Go.Abs.Wall
/-! ### proposals: the specification's texts and roots -/
def kindV (kind : Int) (v : Val) : Bool := decide (v.kind = kind)
theorem tx_ref (l : Lst) (per kind s : Int) {x : Sgn} (hx : l.signs[s.toNat]? = some x) : txM l per kind s = (((x.values.filter (inUse per)).filter (kindV kind)).map (·.text)) := by
  unfold txM
  rw [getD_of hx, List.filter_filter]
  rfl
def c95 : Cfg := ⟨[0, 1, 2, 3, 4, 8, 9, 11, 12, 23, 32], [], [], [], [], []⟩
def c96 : Cfg := ⟨[0, 1, 2, 3, 6, 7, 8, 9, 10, 11, 12, 17, 30, 36, 50], [], [], [], [(5, [0, 1, 2, 3, 4, 5, 6, 7], []), (13, [0, 1, 2, 3, 4, 5, 6, 7, 8, 9, 10, 11], []), (14, [0, 1, 2, 3, 4, 5, 6, 7, 8, 9, 10, 11, 12], [])], []⟩
theorem refTexts10 (l : Lst) (s kind per : Int) (hl : LstFit l) (h0 : lstErr l = 0) (hs : 0 ≤ s ∧ s < l.signs.length) (hp : 1 ≤ per ∧ per ≤ l.periods) :
    QCall Tryz.prog 95 [.agg (encLst l), .int .i64 s, .int .i64 kind, .int .i64 per] [] (.sl 1 none ((txM l per kind s).map encTx)) := by
  obtain ⟨x, hx⟩ := get_lt (l := l.signs) (i := s.toNat) (by omega)
  have hv := (lstOK h0).each x (List.mem_of_getElem? hx) |>.few
  have hval := refValues l s per x hl hs.1 hx (by omega) h0 hp
  have hV : (x.values.filter (inUse per)).length ≤ 12 := Nat.le_trans (List.length_filter_le _ _) hv
  rw [tx_ref l per kind s hx]
  obtain ⟨V, hVV⟩ : ∃ V, V = x.values.filter (inUse per) := ⟨_, rfl⟩
  rw [← hVV] at hval hV ⊢
  refine QCall.of ?_
  refine fcalls (F := Tryz.f95) c95 rfl rfl rfl mixed rfl fun X => ?_
  conv => whnf
  repeat (refine QCall.k0 (hval) ?_; conv => whnf)
  refine tloop rfl mixed [2, 9, 11, 12] [] (fun m r h => ∃ (i : Nat) (ov : AV) (oh : Heap), r = [(2, [], .int .i64 kind), (9, [], .sl 4 none (V.map encVal)), (11, [], ov), (12, [], .int .i64 i)] ∧ h = oh ∧ m = V.length - i ∧ i ≤ V.length ∧ Out 1 encTx (((V.take i).filter (kindV kind)).map (·.text)) ov oh) ?_ ?_
  · conv => whnf
    exact ⟨_, _, Turn.refl _ _, _, 0, .nilS, [], rfl, rfl, rfl, by omega, .inl ⟨rfl, rfl, rfl⟩⟩
  · rintro m r h' ⟨i, ov, oh, rfl, rfl, rfl, hi, ho⟩
    have hol : (((V.take i).filter (kindV kind)).map (·.text)).length ≤ 12 := by
      rw [List.length_map]
      have := List.length_filter_le (kindV kind) (V.take i)
      rw [List.length_take] at this
      omega
    conv => whnf
    skip
    refine ⟨fun hi2 => ?_, fun hi2 => ?_⟩ <;> simp at hi2
    · obtain ⟨v, hv2⟩ := get_lt hi2
      have hsn : (((V.take (i + 1)).filter (kindV kind)).map (·.text)) = (((V.take i).filter (kindV kind)).map (·.text)) ++ (if kindV kind v = true then [v.text] else []) := by
        rw [take_snoc hv2, List.filter_append, List.map_append, List.filter_cons]
        split <;> rfl
      rcases ho with ⟨he, rfl, rfl⟩ | ⟨q, rfl, rfl⟩
      all_goals
        conv => whnf
        repeat (refine ix (by assumption) ?_; conv => whnf)
        refine ⟨fun hq => ?_, fun hq => ?_⟩
        · have hq : kindV kind v = true := hq
          rw [if_pos hq] at hsn
          conv => whnf
          repeat ((first | refine ⟨gP_of ⟨by omega, by omega⟩, ?_⟩ | refine ix (by assumption) ?_ | (refine ⟨Nat.le_of_ble_eq_true rfl, fun q' => ?_⟩) | (refine ⟨(by rw [List.length_append, List.length_map]; simp at hol ⊢; unfold AMAX; omega), fun q' => ⟨_, .here _, ?_⟩⟩)); conv => whnf)
          refine ⟨_, _, Turn.refl _ _, _, (by omega), i + 1, _, [(q', .tok)], rfl, rfl, rfl, by omega, .inr ⟨q', ?_, rfl⟩⟩
          rw [hsn, List.map_append]
          first | done | rfl | (rw [he]; done) | (rw [he]; rfl)
        · have hq : kindV kind v = false := hq
          rw [if_neg (by rw [hq]; decide), List.append_nil] at hsn
          conv => whnf
          repeat (refine ⟨gP_of ⟨by omega, by omega⟩, ?_⟩; conv => whnf)
          refine ⟨_, _, Turn.refl _ _, _, (by omega), i + 1, _, _, rfl, rfl, rfl, by omega, ?_⟩
          rw [hsn]
          first | exact .inl ⟨he, rfl, rfl⟩ | exact .inr ⟨q, rfl, rfl⟩
    · rw [List.take_of_length_le hi2] at ho
      conv => whnf
      skip
      exact ho.le (by decide)
/-! the roots of a stretch -/
def fits (r x : List UInt8) : Bool := decide (r.length + x.length ≤ 8)
def longR (TX : List (List UInt8)) (r : List UInt8) : List (List UInt8) := (TX.filter (fits r)).map (r ++ ·)
def rootsF (l : Lst) (per : Int) (R : List (List UInt8)) (s : Int) : List (List UInt8) := R.flatMap (longR (txM l per 1 s))
def rootsM (l : Lst) (per : Int) (st : List Int) : List (List UInt8) := st.foldl (rootsF l per) [[]]
theorem longR_mem {TX : List (List UInt8)} {r y : List UInt8} : y ∈ longR TX r ↔ ∃ x ∈ TX, y = r ++ x ∧ y.length ≤ 8 := by
  unfold longR fits
  rw [List.mem_map]
  constructor
  · rintro ⟨x, hx, rfl⟩
    rw [List.mem_filter, decide_eq_true_eq] at hx
    exact ⟨x, hx.1, rfl, by rw [List.length_append]; exact hx.2⟩
  · rintro ⟨x, hx, rfl, h⟩
    rw [List.length_append] at h
    exact ⟨x, List.mem_filter.2 ⟨hx, decide_eq_true h⟩, rfl⟩
theorem rootsF_mem (l : Lst) (per : Int) : ∀ (st : List Int) (R : List (List UInt8)) (y : List UInt8), (∀ r ∈ R, r.length ≤ 8) → (y ∈ st.foldl (rootsF l per) R ↔ ∃ r ∈ R, ∃ c ∈ chs (txM l per 1) st, y = r ++ c ∧ y.length ≤ 8)
  | [], R, y, hR => by
    rw [List.foldl_nil]
    constructor
    · intro h
      exact ⟨y, h, [], by simp [chs], by simp, hR y h⟩
    · rintro ⟨r, hr, c, hc, rfl, _⟩
      unfold chs at hc
      rw [List.mem_singleton] at hc
      subst hc
      rwa [List.append_nil]
  | s :: t, R, y, hR => by
    have h8 : ∀ r ∈ rootsF l per R s, r.length ≤ 8 := by
      intro r hr
      unfold rootsF at hr
      obtain ⟨a, _, h⟩ := List.mem_flatMap.1 hr
      obtain ⟨_, _, _, h⟩ := longR_mem.1 h
      exact h
    rw [List.foldl_cons, rootsF_mem l per t _ y h8]
    constructor
    · rintro ⟨r, hr, c, hc, rfl, h⟩
      unfold rootsF at hr
      obtain ⟨a, ha, hr⟩ := List.mem_flatMap.1 hr
      obtain ⟨x, hx, rfl, _⟩ := longR_mem.1 hr
      exact ⟨a, ha, x ++ c, by rw [chs, List.mem_flatMap]; exact ⟨x, hx, List.mem_map_of_mem hc⟩, by rw [List.append_assoc], h⟩
    · rintro ⟨r, hr, c, hc, rfl, h⟩
      rw [chs, List.mem_flatMap] at hc
      obtain ⟨x, hx, hc⟩ := hc
      obtain ⟨d, hd, rfl⟩ := List.mem_map.1 hc
      refine ⟨r ++ x, ?_, d, hd, by rw [List.append_assoc], h⟩
      unfold rootsF
      refine List.mem_flatMap.2 ⟨r, hr, longR_mem.2 ⟨x, hx, rfl, ?_⟩⟩
      rw [List.length_append, List.length_append] at h
      rw [List.length_append]
      omega
theorem roots_mem {l : Lst} {per : Int} {st : List Int} {y : List UInt8} : y ∈ rootsM l per st ↔ y ∈ chs (txM l per 1) st ∧ y.length ≤ 8 := by
  unfold rootsM
  rw [rootsF_mem l per st [[]] y (by simp)]
  constructor
  · rintro ⟨r, hr, c, hc, rfl, h⟩
    rw [List.mem_singleton] at hr
    subst hr
    exact ⟨hc, h⟩
  · rintro ⟨h1, h2⟩
    exact ⟨[], by simp, y, h1, rfl, h2⟩
theorem flatMap_len {α β : Type} {f : α → List β} {n : Nat} : ∀ {l : List α}, (∀ a ∈ l, (f a).length ≤ n) → (l.flatMap f).length ≤ l.length * n
  | [], _ => by simp
  | a :: t, h => by
    have h1 := h a (List.mem_cons_self ..)
    have h2 := flatMap_len (f := f) (n := n) (l := t) fun b hb => h b (List.mem_cons_of_mem _ hb)
    rw [List.flatMap_cons, List.length_append, List.length_cons, Nat.succ_mul]
    omega
theorem longR_len {TX : List (List UInt8)} {r : List UInt8} : (longR TX r).length ≤ TX.length := by
  unfold longR
  rw [List.length_map]
  exact List.length_filter_le _ _
theorem tx_len {l : Lst} {per : Int} (h : PropH l per) {kind s : Int} : (txM l per kind s).length ≤ 12 := by
  unfold txM
  rw [List.length_map]
  refine Nat.le_trans (List.length_filter_le _ _) ?_
  rw [List.getD_eq_getElem?_getD]
  cases hs : l.signs[s.toNat]? with
  | none => simp
  | some x => exact h.many x (List.mem_of_getElem? hs)
theorem refRootsA (l : Lst) (st : List Int) (per : Int) (hl : LstFit l) (h0 : lstErr l = 0) (hs : ∀ s ∈ st, 0 ≤ s ∧ s < l.signs.length) (hst : st.length ≤ 4) (hp : 1 ≤ per ∧ per ≤ l.periods) :
    QCall Tryz.prog 96 [.agg (encLst l), .sl 1 none (ints st), .int .i64 per] [] (.sl 1 none ((rootsM l per st).map encTx)) := by
  have hPH := propH_of (per := per) h0
  obtain ⟨F, hF⟩ : ∃ F, F = rootsM l per st := ⟨_, rfl⟩
  rw [← hF]
  refine QCall.of ?_
  refine fcalls (F := Tryz.f96) c96 rfl rfl rfl mixed rfl fun X => ?_
  conv => whnf
  skip
  refine tloop rfl mixed [1, 2, 3, 7, 8] [] (fun m r h => ∃ (i : Nat) (R : List (List UInt8)), r = [(1, [], .sl 1 none (ints st)), (2, [], .int .i64 per), (3, [], .iptr (encLst l)), (7, [], .sl 1 none (R.map encTx)), (8, [], .int .i64 i)] ∧ h = [] ∧ m = st.length - i ∧ i ≤ st.length ∧ R.length ≤ 12 ^ i ∧ (∀ r ∈ R, r.length ≤ 8) ∧ F = (st.drop i).foldl (rootsF l per) R) ?_ ?_
  · conv => whnf
    exact ⟨_, _, Turn.refl _ _, _, 0, [[]], rfl, rfl, rfl, by omega, by simp, by simp, hF⟩
  · rintro m r h' ⟨i, R, rfl, rfl, rfl, hi, hR, hR8, hfo⟩
    conv => whnf
    skip
    refine ⟨fun hi2 => ?_, fun hi2 => ?_⟩ <;> simp [ints_length] at hi2
    · obtain ⟨s, hsi⟩ := get_lt hi2
      have hs0 := hs s (List.mem_of_getElem? hsi)
      have htx := refTexts10 l s 1 per hl h0 hs0 hp
      have htn := tx_len hPH (kind := 1) (s := s)
      have ht8 : ∀ x ∈ txM l per 1 s, x.length ≤ 8 := fun x hx => (tx_mem hPH hx).1
      have hRb : R.length ≤ 1728 := Nat.le_trans hR (by rw [show (1728 : Nat) = 12 ^ 3 by decide]; exact Nat.pow_le_pow_right (by decide) (by omega))
      rw [drop_cons hsi, List.foldl_cons, rootsF] at hfo
      obtain ⟨TX, hTX⟩ : ∃ TX, TX = txM l per 1 s := ⟨_, rfl⟩
      rw [← hTX] at htx htn ht8 hfo
      conv => whnf
      repeat ((first | refine ix (by assumption) ?_ | refine gcall (htx) ?_ | refine And.intro (by show drawOK (opsAt Tryz.f96 _) _ = true; decide +kernel) ?_); conv => whnf)
      refine tloop rfl mixed [1, 2, 3, 7, 8, 9, 10, 11] [] (fun m r h => ∃ (k : Nat) (ov : AV) (oh : Heap), r = [(1, [], .sl 1 none (ints st)), (2, [], .int .i64 per), (3, [], .iptr (encLst l)), (7, [], .sl 1 none (R.map encTx)), (8, [], .int .i64 i), (9, [], .sl 1 none (TX.map encTx)), (10, [], ov), (11, [], .int .i64 k)] ∧ h = oh ∧ m = R.length - k ∧ k ≤ R.length ∧ Out 1 encTx ((R.take k).flatMap (longR TX)) ov oh) ?_ ?_
      · conv => whnf
        exact ⟨_, _, Turn.refl _ _, _, 0, .nilS, [], rfl, rfl, rfl, by omega, .inl ⟨rfl, rfl, rfl⟩⟩
      · rintro m r hA ⟨k, ov, oh, rfl, rfl, rfl, hk, ho⟩
        conv => whnf
        skip
        refine ⟨fun hk2 => ?_, fun hk2 => ?_⟩ <;> simp at hk2
        · obtain ⟨r0, hr0⟩ := get_lt hk2
          have hr8 := hR8 r0 (List.mem_of_getElem? hr0)
          have hsnk : (R.take (k + 1)).flatMap (longR TX) = (R.take k).flatMap (longR TX) ++ longR TX r0 := by
            rw [take_snoc hr0, List.flatMap_append, List.flatMap_singleton]
          have hlk : ((R.take k).flatMap (longR TX)).length ≤ R.length * 12 := by
            refine Nat.le_trans (flatMap_len (n := 12) fun a _ => Nat.le_trans longR_len htn) ?_
            rw [List.length_take]
            exact Nat.mul_le_mul_right _ (by omega)
          obtain ⟨A, hA'⟩ : ∃ A, A = (R.take k).flatMap (longR TX) := ⟨_, rfl⟩
          rw [← hA'] at hsnk hlk ho
          conv => whnf
          skip
          refine tloop rfl mixed [1, 2, 3, 7, 8, 9, 10, 11, 12] [] (fun m r h => ∃ (j : Nat) (ov : AV) (oh : Heap), r = [(1, [], .sl 1 none (ints st)), (2, [], .int .i64 per), (3, [], .iptr (encLst l)), (7, [], .sl 1 none (R.map encTx)), (8, [], .int .i64 i), (9, [], .sl 1 none (TX.map encTx)), (10, [], ov), (11, [], .int .i64 k), (12, [], .int .i64 j)] ∧ h = oh ∧ m = TX.length - j ∧ j ≤ TX.length ∧ Out 1 encTx (A ++ longR (TX.take j) r0) ov oh) ?_ ?_
          · conv => whnf
            exact ⟨_, _, Turn.refl _ _, _, 0, _, _, rfl, rfl, rfl, by omega, by simpa [longR] using ho⟩
          · rintro m r hB ⟨j, ov, oh, rfl, rfl, rfl, hj, ho⟩
            have hol : (A ++ longR (TX.take j) r0).length ≤ 30000 := by
              have := longR_len (TX := TX.take j) (r := r0)
              rw [List.length_take] at this
              rw [List.length_append]
              omega
            conv => whnf
            skip
            refine ⟨fun hj2 => ?_, fun hj2 => ?_⟩ <;> simp at hj2
            · obtain ⟨x, hx⟩ := get_lt hj2
              have hx8 := ht8 x (List.mem_of_getElem? hx)
              have hsn : A ++ longR (TX.take (j + 1)) r0 = (A ++ longR (TX.take j) r0) ++ (if fits r0 x = true then [r0 ++ x] else []) := by
                unfold longR
                rw [take_snoc hx, List.filter_append, List.map_append, List.filter_cons, List.append_assoc]
                split <;> rfl
              have hadd : (r0 ++ x).length ≤ LMAX := by rw [List.length_append]; unfold LMAX; omega
              obtain ⟨B, hB'⟩ : ∃ B, B = A ++ longR (TX.take j) r0 := ⟨_, rfl⟩
              rw [← hB'] at hsn hol ho
              rcases ho with ⟨he, rfl, rfl⟩ | ⟨q, rfl, rfl⟩
              all_goals
                conv => whnf
                repeat ((first | refine ⟨gP_of ⟨by omega, by omega⟩, ?_⟩ | refine ix (by assumption) ?_ | refine And.intro (by show drawOK (opsAt Tryz.f96 _) _ = true; decide +kernel) ?_); conv => whnf)
                refine ⟨fun hq => ?_, fun hq => ?_⟩
                · have hq : fits r0 x = true := by unfold fits; simp at hq ⊢; omega
                  rw [if_pos hq] at hsn
                  conv => whnf
                  repeat ((first | refine ⟨gP_of ⟨by omega, by omega⟩, ?_⟩ | refine ix (by assumption) ?_ | (refine ⟨gP_of hadd, ?_⟩) | (refine ⟨Nat.le_of_ble_eq_true rfl, fun q' => ?_⟩)
                                 | (refine ⟨(by rw [List.length_append, List.length_map]; simp at hol ⊢; unfold AMAX; omega), fun q' => ⟨_, .here _, ?_⟩⟩) | refine And.intro (by show drawOK (opsAt Tryz.f96 _) _ = true; decide +kernel) ?_); conv => whnf)
                  refine ⟨_, _, Turn.refl _ _, _, (by omega), j + 1, _, [(q', .tok)], rfl, rfl, rfl, by omega, .inr ⟨q', ?_, rfl⟩⟩
                  rw [hsn, List.map_append]
                  first | done | rfl | (rw [he]; done) | (rw [he]; rfl)
                · have hq : ¬ fits r0 x = true := by unfold fits; simp at hq ⊢; omega
                  rw [if_neg hq, List.append_nil] at hsn
                  conv => whnf
                  repeat (refine ⟨gP_of ⟨by omega, by omega⟩, ?_⟩; conv => whnf)
                  refine ⟨_, _, Turn.refl _ _, _, (by omega), j + 1, _, _, rfl, rfl, rfl, by omega, ?_⟩
                  rw [hsn]
                  first | exact .inl ⟨he, rfl, rfl⟩ | exact .inr ⟨q, rfl, rfl⟩
            · rw [List.take_of_length_le hj2, ← hsnk] at ho
              conv => whnf
              repeat (refine ⟨gP_of ⟨by omega, by omega⟩, ?_⟩; conv => whnf)
              exact ⟨_, _, Turn.refl _ _, _, by omega, k + 1, _, _, rfl, rfl, rfl, by omega, ho⟩
        · rw [List.take_of_length_le hk2] at ho
          have hR12 : (R.flatMap (longR TX)).length ≤ 12 ^ (i + 1) := by
            refine Nat.le_trans (flatMap_len (n := 12) fun a _ => Nat.le_trans longR_len htn) ?_
            rw [Nat.pow_succ]
            exact Nat.mul_le_mul_right _ hR
          have hR8' : ∀ r ∈ R.flatMap (longR TX), r.length ≤ 8 := by
            intro r hr
            obtain ⟨a, _, h⟩ := List.mem_flatMap.1 hr
            obtain ⟨_, _, _, h⟩ := longR_mem.1 h
            exact h
          have hle := ho.le (by decide)
          conv => whnf
          repeat (refine ⟨gP_of ⟨by omega, by omega⟩, ?_⟩; conv => whnf)
          refine ⟨_, _, Turn.both (r' := _) (h' := []) ?_ ?_ ?_, _, by omega, i + 1, R.flatMap (longR TX), rfl, rfl, rfl, by omega, hR12, hR8', hfo⟩
          · exact .cons (VLe.refl _) (.cons (VLe.refl _) (.cons (VLe.refl _) (.cons hle (RLe.refl _))))
          · simp
          · simp [keys]
    · rw [drop_nil hi2] at hfo
      have hfo : F = R := hfo
      subst hfo
      conv => whnf
      skip
      exact VLe.refl _
end Go.Abs.Wall.Lst
set_option maxRecDepth 100000
set_option maxHeartbeats 2000000
set_option linter.unusedVariables false
set_option linter.unusedSimpArgs false
namespace Go.Abs.Wall.Lst
open Go Go.Abs Go.Proofs Go.Abs.Wall
/-! ### both propose the same -/
def candL (l : Lst) (per : Int) (line : List Int) (to : Nat) (e : Ent) : Prop := ∃ cls ∈ txM l per 3 (line.getD to 0), ∃ k ∈ (List.range to).drop (to - 4), candS (txM l per 1) cls ((line.take to).drop k) [] e
def candP (l : Lst) (per : Int) (lines : List (List Int)) (e : Ent) : Prop := ∃ line ∈ lines, ∃ to ∈ (List.range line.length).drop 1, candL l per line to e
theorem propM_grow (l : Lst) (per : Int) (lines : List (List Int)) : Grow (candP l per lines) [] (propM l per lines) := by
  refine Grow.fold (cand := fun line e => ∃ to ∈ (List.range line.length).drop 1, candL l per line to e) (fun E line => ?_) lines []
  refine Grow.fold (cand := fun to e => candL l per line to e) (fun E to => ?_) _ E
  refine Grow.fold (cand := fun cls e => ∃ k ∈ (List.range to).drop (to - 4), candS (txM l per 1) cls ((line.take to).drop k) [] e) (fun E cls => ?_) _ E
  exact Grow.fold (cand := fun k e => candS (txM l per 1) cls ((line.take to).drop k) [] e) (fun E k => strM_grow (txM l per 1) cls ((line.take to).drop k) E []) _ E
/-- from one ordered list to a later one, by all candidates -/
structure Fill (cand : Ent → Prop) (E E' : List Ent) : Prop where
  ok : UpOK E → UpOK E'
  mem : ∀ e, e ∈ E' ↔ e ∈ E ∨ cand e
  len : E.length ≤ E'.length
theorem Fill.same (E : List Ent) : Fill (fun _ => False) E E := ⟨id, fun e => by simp, Nat.le_refl _⟩
theorem Fill.trans {c1 c2 : Ent → Prop} {E E1 E2 : List Ent} (a : Fill c1 E E1) (b : Fill c2 E1 E2) : Fill (fun e => c1 e ∨ c2 e) E E2 :=
  ⟨fun h => b.ok (a.ok h), fun e => by rw [b.mem, a.mem, or_assoc], Nat.le_trans a.len b.len⟩
theorem Fill.congr {c1 c2 : Ent → Prop} {E E' : List Ent} (a : Fill c1 E E') (h : ∀ e, c1 e ↔ c2 e) : Fill c2 E E' := ⟨a.ok, fun e => by rw [a.mem, h], a.len⟩
theorem Fill.fold {β : Type} {f : List Ent → β → List Ent} {cand : β → Ent → Prop} (h : ∀ E b, Fill (cand b) E (f E b)) : ∀ (l : List β) (E : List Ent), Fill (fun e => ∃ b ∈ l, cand b e) E (l.foldl f E)
  | [], E => (Fill.same E).congr fun e => by simp
  | b :: l, E => ((h E b).trans (Fill.fold h l (f E b))).congr fun e => by simp
theorem Fill.put (E : List Ent) (root cls : List UInt8) : Fill (fun e => e = entP root cls) E (putB E (entP root cls)) := ⟨fun h => putB_ok h, fun e => putB_mem, (putB_len _ _).1⟩
def refC (r : List UInt8) (E : List Ent) (c : List UInt8) : List Ent := putB E (entP r c)
def refR (TX : List (List UInt8)) (E : List Ent) (r : List UInt8) : List Ent := TX.foldl (refC r) E
def refN (l : Lst) (per : Int) (line : List Int) (to : Nat) (TX : List (List UInt8)) (E : List Ent) (n : Nat) : List Ent := (rootsM l per ((line.take to).drop (to - n))).foldl (refR TX) E
def refT (l : Lst) (per : Int) (line : List Int) (E : List Ent) (to : Nat) : List Ent := ((List.range (min 4 to + 1)).drop 1).foldl (refN l per line to (txM l per 3 (line.getD to 0))) E
def refL (l : Lst) (per : Int) (E : List Ent) (line : List Int) : List Ent := ((List.range line.length).drop 1).foldl (refT l per line) E
def refP (l : Lst) (per : Int) (lines : List (List Int)) : List Ent := lines.foldl (refL l per) []
theorem mem_dropR {n k j : Nat} : j ∈ (List.range n).drop k ↔ k ≤ j ∧ j < n := by
  rw [List.mem_iff_getElem?]
  constructor
  · rintro ⟨i, hi⟩
    rw [List.getElem?_drop] at hi
    by_cases h : k + i < n
    · rw [range_get h] at hi
      cases hi
      omega
    · rw [List.getElem?_eq_none (by rw [List.length_range]; omega)] at hi
      cases hi
  · rintro ⟨h1, h2⟩
    exact ⟨j - k, by rw [List.getElem?_drop, show k + (j - k) = j by omega, range_get h2]⟩
theorem refT_fill (l : Lst) (per : Int) (line : List Int) (E : List Ent) (to : Nat) : Fill (candL l per line to) E (refT l per line E to) := by
  refine (Fill.fold (cand := fun n e => ∃ r ∈ rootsM l per ((line.take to).drop (to - n)), ∃ c ∈ txM l per 3 (line.getD to 0), e = entP r c) (fun E n => ?_) _ E).congr fun e => ?_
  · refine Fill.fold (cand := fun r e => ∃ c ∈ txM l per 3 (line.getD to 0), e = entP r c) (fun E r => ?_) _ E
    exact Fill.fold (cand := fun c e => e = entP r c) (fun E c => Fill.put E r c) _ E
  · unfold candL candS
    constructor
    · rintro ⟨n, hn, r, hr, c, hc, rfl⟩
      rw [mem_dropR] at hn
      obtain ⟨hr1, hr2⟩ := roots_mem.1 hr
      exact ⟨c, hc, to - n, mem_dropR.2 (by omega), r, hr1, by rw [List.nil_append]; exact hr2, rfl⟩
    · rintro ⟨c, hc, k, hk, r, hr1, hr2, rfl⟩
      rw [mem_dropR] at hk
      rw [List.nil_append] at hr2 ⊢
      exact ⟨to - k, mem_dropR.2 (by omega), r, roots_mem.2 ⟨by rw [show to - (to - k) = k by omega]; exact hr1, hr2⟩, c, hc, rfl⟩
theorem refP_fill (l : Lst) (per : Int) (lines : List (List Int)) : Fill (candP l per lines) [] (refP l per lines) := by
  refine Fill.fold (cand := fun line e => ∃ to ∈ (List.range line.length).drop 1, candL l per line to e) (fun E line => ?_) lines []
  exact Fill.fold (cand := fun to e => candL l per line to e) (fun E to => refT_fill l per line E to) _ E
theorem prop_both (l : Lst) (per : Int) (lines : List (List Int)) : (200 < (propM l per lines).length ↔ 200 < (refP l per lines).length) ∧ (¬ 200 < (propM l per lines).length → sortL entC (propM l per lines) = refP l per lines) := by
  have hg := propM_grow l per lines
  have hf := refP_fill l per lines
  have ho : PropOK (propM l per lines) := hg.ok ⟨by simp, by simp⟩
  have hu : UpOK (refP l per lines) := hf.ok ⟨by simp, by simp⟩
  have h1 : ∀ e ∈ propM l per lines, e ∈ refP l per lines := by
    intro e he
    rcases hg.sub ⟨by simp, by simp⟩ e he with h | h
    · cases h
    · exact (hf.mem e).2 (.inr h)
  have h2 : ¬ 200 < (propM l per lines).length → ∀ e ∈ refP l per lines, e ∈ propM l per lines := by
    intro hle e he
    rcases (hf.mem e).1 he with h | h
    · cases h
    · exact hg.all ⟨by simp, by simp⟩ (by omega) e h
  have h3 := prop_len ho hu h1
  refine ⟨⟨fun h => by omega, fun h => Classical.byContradiction fun hn => ?_⟩, fun hn => prop_same ho hu fun e => ⟨h1 e, h2 hn e⟩⟩
  have := prop_len2 ho hu (h2 hn)
  omega
theorem rootsF_len (l : Lst) (per : Int) (h : PropH l per) : ∀ (st : List Int) (R : List (List UInt8)), (st.foldl (rootsF l per) R).length ≤ R.length * 12 ^ st.length
  | [], R => by simp
  | s :: t, R => by
    have h1 := rootsF_len l per h t (rootsF l per R s)
    have h2 : (rootsF l per R s).length ≤ R.length * 12 := flatMap_len (n := 12) fun a _ => Nat.le_trans longR_len (tx_len h)
    rw [List.foldl_cons, List.length_cons, Nat.pow_succ]
    refine Nat.le_trans h1 (Nat.le_trans (Nat.mul_le_mul_right _ h2) ?_)
    rw [Nat.mul_assoc, Nat.mul_comm 12]
    exact Nat.le_refl _
theorem roots_len {l : Lst} {per : Int} (h : PropH l per) {st : List Int} (hs : st.length ≤ 4) : (rootsM l per st).length ≤ 20736 := by
  have h1 := rootsF_len l per h st [[]]
  have h2 : 12 ^ st.length ≤ 12 ^ 4 := Nat.pow_le_pow_right (by decide) hs
  have h3 : (12 : Nat) ^ 4 = 20736 := by decide
  unfold rootsM
  simp only [List.length_cons, List.length_nil] at h1
  omega
end Go.Abs.Wall.Lst
set_option maxRecDepth 100000
set_option maxHeartbeats 2000000
set_option linter.unusedVariables false
set_option linter.unusedSimpArgs false
namespace Go.Abs.Wall.Lst
open Go Go.Abs Go.Proofs Go.Abs.Wall
/-! ### the specification's Propose -/
theorem linesE_cons (l : Lst) (x : List Int) (t : List (List Int)) : linesE l (x :: t) = if lineE l x ≠ 0 then lineE l x else linesE l t := by
  rw [linesE]
  unfold lineE
  by_cases h : 60 < x.length
  · rw [if_pos h, if_pos h, if_pos (by decide)]
  · rw [if_neg h, if_neg h]
    by_cases h2 : x.any (badS l) = true
    · rw [if_pos h2]
      have h2 : x.any (fun s => !wthn s 0 ((l.signs.length : Int) - 1)) = true := h2
      rw [if_pos h2, if_pos (by decide)]
    · rw [if_neg h2]
      have h2 : ¬ x.any (fun s => !wthn s 0 ((l.signs.length : Int) - 1)) = true := h2
      rw [if_neg h2, if_neg (by decide)]
theorem fill_len {l : Lst} {per : Int} {line : List Int} : ∀ (ts : List Nat) (E : List Ent), E.length ≤ (ts.foldl (refT l per line) E).length
  | [], E => Nat.le_refl _
  | t :: ts, E => by rw [List.foldl_cons]; exact Nat.le_trans (refT_fill l per line E t).len (fill_len ts _)
theorem fill_lenL {l : Lst} {per : Int} : ∀ (ls : List (List Int)) (E : List Ent), E.length ≤ (ls.foldl (refL l per) E).length
  | [], E => Nat.le_refl _
  | t :: ts, E => by rw [List.foldl_cons]; exact Nat.le_trans (fill_len _ E) (fill_lenL ts _)
theorem fold_idR {TX : List (List UInt8)} (h : TX = []) : ∀ (rs : List (List UInt8)) (E : List Ent), rs.foldl (refR TX) E = E
  | [], E => rfl
  | r :: rs, E => by rw [List.foldl_cons, show refR TX E r = E by subst h; rfl]; exact fold_idR h rs E
theorem fold_idN {l : Lst} {per : Int} {line : List Int} {to : Nat} {TX : List (List UInt8)} (h : TX = []) : ∀ (ns : List Nat) (E : List Ent), ns.foldl (refN l per line to TX) E = E
  | [], E => rfl
  | n :: ns, E => by rw [List.foldl_cons, show refN l per line to TX E n = E from fold_idR h _ E]; exact fold_idN h ns E
def c37 : Cfg := ⟨[0, 1, 2, 3, 6, 7, 8, 9, 10, 11, 12, 13, 14, 15, 16, 17, 18, 19, 23, 32, 35, 39, 49, 54, 64, 85, 100, 106, 122], [], [], [], [(11, [0, 1, 2, 3, 4, 5, 6], []), (22, [0, 1, 2, 3, 4, 5, 6, 7], []), (26, [0, 1, 2, 3, 4, 5, 6, 7, 8, 9], []), (33, [0, 1, 2, 3, 4, 5, 6, 7, 8, 9, 10, 11], [])], [119]⟩
theorem refProposeA (l : Lst) (per : Int) (lines : List (List Int)) (hl : LstFit l) (hll : lines.length ≤ 1048576) (hlx : ∀ x ∈ lines, x.length ≤ 1048576) :
    ACalls Tryz.prog 37 [.agg (encLst l), .int .i64 per, .sl 1 none (lines.map encIs)] [] (RowT 4 encEnt (propR l per lines) (propE l per lines)) := by
  have hck := refCheck l hl
  have hsl : l.signs.length ≤ LMAX := hl.signs
  by_cases h0 : lstErr l ≠ 0
  · have he : propE l per lines = lstErr l := by unfold propE; rw [if_pos h0]
    rw [propR, he, if_neg h0]
    refine RowT.nilT ?_
    refine fcalls (F := Tryz.f37) c37 rfl rfl rfl mixed rfl fun X => ?_
    conv => whnf
    repeat (refine QCall.k0 (hck) ?_; conv => whnf)
    refine cT (by simpa using h0) ?_
    conv => whnf
    skip
  have h0 : lstErr l = 0 := by omega
  rw [h0] at hck
  cases h1 : wthn per 1 l.periods with
  | false =>
    have he : propE l per lines = 13 := by unfold propE; rw [if_neg (by omega), if_pos h1]
    rw [propR, he, if_neg (by decide)]
    have h1' : (decide (per < 1) || decide (l.periods < per)) = true := by
      rw [← Bool.not_eq_true, wthn_iff] at h1
      simp
      omega
    refine RowT.nilT ?_
    refine fcalls (F := Tryz.f37) c37 rfl rfl rfl mixed rfl fun X => ?_
    conv => whnf
    repeat (refine QCall.k0 (hck) ?_; conv => whnf)
    refine cF rfl ?_
    conv => whnf
    skip
    refine cT h1' ?_
    conv => whnf
    skip
  | true =>
    have hp := wthn_iff.1 h1
    have h1' : (decide (per < 1) || decide (l.periods < per)) = false := by
      simp
      omega
    by_cases h2 : 40 < lines.length
    · have he : propE l per lines = 2 := by unfold propE; rw [if_neg (by omega), if_neg (by rw [h1]; decide), if_pos h2]
      rw [propR, he, if_neg (by decide)]
      refine RowT.nilT ?_
      refine fcalls (F := Tryz.f37) c37 rfl rfl rfl mixed rfl fun X => ?_
      conv => whnf
      repeat (refine QCall.k0 (hck) ?_; conv => whnf)
      refine cF rfl ?_
      conv => whnf
      skip
      refine cF h1' ?_
      conv => whnf
      skip
      refine cT (by simp; omega) ?_
      conv => whnf
      skip
    have hN : lines.length ≤ 40 := by omega
    have hpb := prop_both l per lines
    have hpe : propE l per lines = if linesE l lines ≠ 0 then linesE l lines else if 200 < (propM l per lines).length then 2 else 0 := by
      unfold propE
      rw [if_neg (by omega), if_neg (by rw [h1]; decide), if_neg h2]
    have hE1 : linesE l lines ≠ 0 → propE l per lines = linesE l lines ∧ propR l per lines = [] := by
      intro h
      have : propE l per lines = linesE l lines := by rw [hpe, if_pos h]
      exact ⟨this, by rw [propR, this, if_neg h]⟩
    have hE2 : linesE l lines = 0 → 200 < (refP l per lines).length → propE l per lines = 2 ∧ propR l per lines = [] := by
      intro h h'
      have : propE l per lines = 2 := by rw [hpe, if_neg (by omega), if_pos (hpb.1.2 h')]
      exact ⟨this, by rw [propR, this, if_neg (by decide)]⟩
    have hE3 : linesE l lines = 0 → ¬ 200 < (refP l per lines).length → propE l per lines = 0 ∧ propR l per lines = refP l per lines := by
      intro h h'
      have h'' := fun h2 => h' (hpb.1.1 h2)
      have : propE l per lines = 0 := by rw [hpe, if_neg (by omega), if_neg h'']
      exact ⟨this, by rw [propR, this, if_pos rfl, hpb.2 h'']⟩
    obtain ⟨e, he⟩ : ∃ e, e = propE l per lines := ⟨_, rfl⟩
    obtain ⟨L, hL⟩ : ∃ L, L = propR l per lines := ⟨_, rfl⟩
    rw [← he, ← hL] at hE1 hE2 hE3 ⊢
    have hPH := propH_of (per := per) h0
    refine RowT.ofP ?_
    refine fcalls (F := Tryz.f37) c37 rfl rfl rfl mixed rfl fun X => ?_
    conv => whnf
    repeat (refine QCall.k0 (hck) ?_; conv => whnf)
    refine cF rfl ?_
    conv => whnf
    skip
    refine cF h1' ?_
    conv => whnf
    skip
    refine cF (by simp; omega) ?_
    conv => whnf
    skip
    refine sloop rfl mixed [1, 2, 3, 9] [] (fun m r h => ∃ (i : Nat), r = [(1, [], .int .i64 per), (2, [], .sl 1 none (lines.map encIs)), (3, [], .iptr (encLst l)), (9, [], .int .i64 i)] ∧ h = [] ∧ m = lines.length - i ∧ i ≤ lines.length ∧ linesE l lines = linesE l (lines.drop i)) ?_ ?_
    · conv => whnf
      exact ⟨_, 0, rfl, rfl, rfl, by omega, rfl⟩
    · rintro m r h ⟨i, rfl, rfl, rfl, hi, hg⟩
      conv => whnf
      skip
      refine ⟨fun hi2 => ?_, fun hi2 => ?_⟩ <;> simp at hi2
      · obtain ⟨x, hx⟩ := get_lt hi2
        have hxl := hlx x (List.mem_of_getElem? hx)
        have hcl := refLine l x hl (by unfold LMAX; omega)
        rw [drop_cons hx, linesE_cons] at hg
        conv => whnf
        repeat ((first | refine ix (by assumption) ?_ | refine gcall (hcl) ?_ | refine And.intro (by show drawOK (opsAt Tryz.f37 _) _ = true; decide +kernel) ?_); conv => whnf)
        refine ⟨fun hq => ?_, fun hq => ?_⟩ <;> simp at hq
        · rw [if_pos hq] at hg
          have h3 := hE1 (by omega)
          conv => whnf
          skip
          exact .inl ⟨by rw [h3.1, hg], h3.2⟩
        · rw [if_neg (by omega)] at hg
          conv => whnf
          repeat (refine ⟨gP_of ⟨by omega, by omega⟩, ?_⟩; conv => whnf)
          exact ⟨_, by omega, i + 1, rfl, rfl, rfl, by omega, hg⟩
      · rw [drop_nil hi2] at hg
        have hg : linesE l lines = 0 := hg
        have hok := linesE_ok hg
        have hpm : refP l per lines = lines.foldl (refL l per) [] := rfl
        obtain ⟨P, hP⟩ : ∃ P, P = refP l per lines := ⟨_, rfl⟩
        rw [← hP] at hpm hE2 hE3
        have hmono : ∀ (ls : List (List Int)) (E : List Ent), E.length ≤ (ls.foldl (refL l per) E).length := fill_lenL
        obtain ⟨f1, hf1⟩ : ∃ f, f = refL l per := ⟨_, rfl⟩
        rw [← hf1] at hpm hmono
        conv => whnf
        skip
        refine tloop rfl mixed [1, 2, 3, 11, 12] [] (fun m r h => ∃ (i : Nat) (E : List Ent) (ev : AV) (eh : Heap), r = [(1, [], .int .i64 per), (2, [], .sl 1 none (lines.map encIs)), (3, [], .iptr (encLst l)), (11, [], ev), (12, [], .int .i64 i)] ∧ h = eh ∧ m = lines.length - i ∧ i ≤ lines.length ∧ E.length ≤ 200 ∧ Row 4 encEnt E ev eh ∧ P = (lines.drop i).foldl f1 E) ?_ ?_
        · conv => whnf
          exact ⟨_, _, Turn.weak (.cons (VLe.refl _) (.cons (VLe.refl _) (.cons (VLe.refl _) (.cons nil_le_nilO (RLe.refl _))))), _, 0, [], .nilO, [], rfl, rfl, rfl, by omega, by simp, .inl ⟨rfl, rfl, rfl⟩, hpm⟩
        · rintro m r hA ⟨i, E, ev, eh, rfl, rfl, rfl, hi, hE, hr, hfo⟩
          conv => whnf
          skip
          refine ⟨fun hi2 => ?_, fun hi2 => ?_⟩ <;> simp at hi2
          · obtain ⟨x, hx⟩ := get_lt hi2
            obtain ⟨hx60, hxs⟩ := hok x (List.mem_of_getElem? hx)
            rw [drop_cons hx, List.foldl_cons] at hfo
            obtain ⟨F1, hF1⟩ : ∃ F, F = f1 E x := ⟨_, rfl⟩
            rw [← hF1] at hfo
            rw [hf1, refL] at hF1
            have hmono2 : ∀ (ts : List Nat) (E : List Ent), E.length ≤ (ts.foldl (refT l per x) E).length := fill_len
            obtain ⟨f2, hf2⟩ : ∃ f, f = refT l per x := ⟨_, rfl⟩
            rw [← hf2] at hF1 hmono2
            conv => whnf
            repeat (refine ix (by assumption) ?_; conv => whnf)
            refine tloop rfl mixed [1, 2, 3, 11, 12, 13, 14] [] (fun m r h => ∃ (j : Nat) (E2 : List Ent) (ev2 : AV) (eh2 : Heap), r = [(1, [], .int .i64 per), (2, [], .sl 1 none (lines.map encIs)), (3, [], .iptr (encLst l)), (11, [], ev2), (12, [], .int .i64 i), (13, [], .sl 1 none (ints x)), (14, [], .int .i64 j)] ∧ h = eh2 ∧ m = x.length - j ∧ 1 ≤ j ∧ E2.length ≤ 200 ∧ Row 4 encEnt E2 ev2 eh2 ∧ F1 = ((List.range x.length).drop j).foldl f2 E2) ?_ ?_
            · conv => whnf
              exact ⟨_, _, Turn.refl _ _, _, 1, E, _, _, rfl, rfl, rfl, by omega, hE, hr, hF1⟩
            · rintro m r hB ⟨j, E2, ev2, eh2, rfl, rfl, rfl, hj, hE2l, hr2, hfo2⟩
              conv => whnf
              skip
              refine ⟨fun hj2 => ?_, fun hj2 => ?_⟩ <;> simp [ints_length] at hj2
              · obtain ⟨y, hy⟩ := get_lt hj2
                have hy0 := hxs y (List.mem_of_getElem? hy)
                rw [drop_cons (range_get hj2), List.foldl_cons] at hfo2
                obtain ⟨F2, hF2⟩ : ∃ F, F = f2 E2 j := ⟨_, rfl⟩
                rw [← hF2] at hfo2
                rw [hf2, refT, getD_of hy] at hF2
                have htx := refTexts10 l y 3 per hl h0 hy0 hp
                have htn : (txM l per 3 y).length ≤ 12 := tx_len hPH
                obtain ⟨TX, hTX⟩ : ∃ TX, TX = txM l per 3 y := ⟨_, rfl⟩
                rw [← hTX] at htx htn hF2
                obtain ⟨f3, hf3⟩ : ∃ f, f = refN l per x j TX := ⟨_, rfl⟩
                rw [← hf3] at hF2
                conv => whnf
                repeat ((first | refine ix (by assumption) ?_ | refine gcall (htx) ?_ | refine And.intro (by show drawOK (opsAt Tryz.f37 _) _ = true; decide +kernel) ?_); conv => whnf)
                refine tloop rfl mixed [1, 2, 3, 11, 12, 13, 14, 15, 16] [] (fun m r h => ∃ (n : Nat) (E3 : List Ent) (ev3 : AV) (eh3 : Heap), r = [(1, [], .int .i64 per), (2, [], .sl 1 none (lines.map encIs)), (3, [], .iptr (encLst l)), (11, [], ev3), (12, [], .int .i64 i), (13, [], .sl 1 none (ints x)), (14, [], .int .i64 j), (15, [], .sl 1 none (TX.map encTx)), (16, [], .int .i64 n)] ∧ h = eh3 ∧ m = 5 - n ∧ 1 ≤ n ∧ n ≤ 5 ∧ E3.length ≤ 200 + (n - 1) * 250000 ∧ Row 4 encEnt E3 ev3 eh3 ∧ F2 = ((List.range (min 4 j + 1)).drop n).foldl f3 E3) ?_ ?_
                · conv => whnf
                  exact ⟨_, _, Turn.refl _ _, _, 1, E2, _, _, rfl, rfl, rfl, by omega, by omega, by omega, hr2, hF2⟩
                · rintro m r hC ⟨n, E3, ev3, eh3, rfl, rfl, rfl, hn, hn5, hE3l, hr3, hfo3⟩
                  conv => whnf
                  skip
                  refine ⟨fun hn2 => ?_, fun hn2 => ?_⟩
                  · have hn2 : ((decide ((n : Int) ≤ 4) && decide ((n : Int) ≤ (j : Int))) && decide (0 < ((TX.map encTx).length : Int))) = true := hn2
                    simp only [Bool.and_eq_true, decide_eq_true_eq] at hn2
                    rw [drop_cons (range_get (show n < min 4 j + 1 by omega)), List.foldl_cons] at hfo3
                    obtain ⟨F3, hF3⟩ : ∃ F, F = f3 E3 n := ⟨_, rfl⟩
                    rw [← hF3] at hfo3
                    rw [hf3, refN] at hF3
                    have hst : ∀ s ∈ (x.take j).drop (j - n), 0 ≤ s ∧ s < l.signs.length := fun s hs => hxs s (List.mem_of_mem_take (List.mem_of_mem_drop hs))
                    have hstl : ((x.take j).drop (j - n)).length ≤ 4 := by rw [List.length_drop, List.length_take]; omega
                    have hrt := refRootsA l ((x.take j).drop (j - n)) per hl h0 hst hstl hp
                    have hRl := roots_len hPH hstl
                    have e1 : List.drop ((j : Int) - (n : Int)).toNat (List.take ((j : Nat) : Int).toNat (ints x)) = ints ((x.take j).drop (j - n)) := by
                      unfold ints
                      rw [Int.toNat_natCast, show ((j : Int) - (n : Int)).toNat = j - n by omega, List.map_drop, List.map_take]
                    obtain ⟨RR, hRR⟩ : ∃ RR, RR = rootsM l per ((x.take j).drop (j - n)) := ⟨_, rfl⟩
                    rw [← hRR] at hrt hRl hF3
                    rw [← e1] at hrt
                    conv => whnf
                    repeat ((first | refine ⟨gP_of ⟨by omega, by omega⟩, ?_⟩ | (refine ⟨gP_of ⟨by omega, by omega, by rw [ints_length]; omega⟩, ?_⟩) | refine gcall (hrt) ?_ | refine And.intro (by show drawOK (opsAt Tryz.f37 _) _ = true; decide +kernel) ?_); conv => whnf)
                    refine tloop rfl mixed [1, 2, 3, 11, 12, 13, 14, 15, 16, 17, 18] [] (fun m r h => ∃ (a : Nat) (E4 : List Ent) (ev4 : AV) (eh4 : Heap), r = [(1, [], .int .i64 per), (2, [], .sl 1 none (lines.map encIs)), (3, [], .iptr (encLst l)), (11, [], ev4), (12, [], .int .i64 i), (13, [], .sl 1 none (ints x)), (14, [], .int .i64 j), (15, [], .sl 1 none (TX.map encTx)), (16, [], .int .i64 n), (17, [], .sl 1 none (RR.map encTx)), (18, [], .int .i64 a)] ∧ h = eh4 ∧ m = RR.length - a ∧ a ≤ RR.length ∧ E4.length ≤ 200 + (n - 1) * 250000 + a * 12 ∧ Row 4 encEnt E4 ev4 eh4 ∧ F3 = (RR.drop a).foldl (refR TX) E4) ?_ ?_
                    · conv => whnf
                      exact ⟨_, _, Turn.refl _ _, _, 0, E3, _, _, rfl, rfl, rfl, by omega, by omega, hr3, hF3⟩
                    · rintro m r hD ⟨a, E4, ev4, eh4, rfl, rfl, rfl, ha, hE4l, hr4, hfo4⟩
                      conv => whnf
                      skip
                      refine ⟨fun ha2 => ?_, fun ha2 => ?_⟩ <;> simp at ha2
                      · obtain ⟨rt, hrt2⟩ := get_lt ha2
                        rw [drop_cons hrt2, List.foldl_cons] at hfo4
                        obtain ⟨F4, hF4⟩ : ∃ F, F = refR TX E4 rt := ⟨_, rfl⟩
                        rw [← hF4] at hfo4
                        rw [refR] at hF4
                        conv => whnf
                        skip
                        refine tloop rfl mixed [1, 2, 3, 11, 12, 13, 14, 15, 16, 17, 18, 19] [] (fun m r h => ∃ (b : Nat) (E5 : List Ent) (ev5 : AV) (eh5 : Heap), r = [(1, [], .int .i64 per), (2, [], .sl 1 none (lines.map encIs)), (3, [], .iptr (encLst l)), (11, [], ev5), (12, [], .int .i64 i), (13, [], .sl 1 none (ints x)), (14, [], .int .i64 j), (15, [], .sl 1 none (TX.map encTx)), (16, [], .int .i64 n), (17, [], .sl 1 none (RR.map encTx)), (18, [], .int .i64 a), (19, [], .int .i64 b)] ∧ h = eh5 ∧ m = TX.length - b ∧ b ≤ TX.length ∧ E5.length ≤ 200 + (n - 1) * 250000 + a * 12 + b ∧ Row 4 encEnt E5 ev5 eh5 ∧ F4 = (TX.drop b).foldl (refC rt) E5) ?_ ?_
                        · conv => whnf
                          exact ⟨_, _, Turn.refl _ _, _, 0, E4, _, _, rfl, rfl, rfl, by omega, by omega, hr4, hF4⟩
                        · rintro m r hG ⟨b, E5, ev5, eh5, rfl, rfl, rfl, hb, hE5l, hr5, hfo5⟩
                          conv => whnf
                          skip
                          refine ⟨fun hb2 => ?_, fun hb2 => ?_⟩ <;> simp at hb2
                          · obtain ⟨cls, hc⟩ := get_lt hb2
                            rw [drop_cons hc, List.foldl_cons, refC] at hfo5
                            have hpl := (putB_len E5 (entP rt cls)).2
                            conv => whnf
                            repeat ((first | refine ix (by assumption) ?_ | refine And.intro (by show drawOK (opsAt Tryz.f37 _) _ = true; decide +kernel) ?_); conv => whnf)
                            refine ACalls.mono ?_ (refPut10 E5 (entP rt cls) ev5 _ hr5 (by unfold AMAX; omega))
                            rintro v1 h1 hr6
                            conv => whnf
                            repeat (refine ⟨gP_of ⟨by omega, by omega⟩, ?_⟩; conv => whnf)
                            exact ⟨_, _, Turn.refl _ _, _, by omega, b + 1, _, v1, h1, rfl, rfl, rfl, by omega, by omega, hr6, hfo5⟩
                          · rw [drop_nil hb2] at hfo5
                            have hfo5 : F4 = E5 := hfo5
                            subst hfo5
                            conv => whnf
                            repeat (refine ⟨gP_of ⟨by omega, by omega⟩, ?_⟩; conv => whnf)
                            exact ⟨_, _, Turn.refl _ _, _, by omega, a + 1, _, ev5, _, rfl, rfl, rfl, by omega, by omega, hr5, hfo4⟩
                      · rw [drop_nil ha2] at hfo4
                        have hfo4 : F3 = E4 := hfo4
                        subst hfo4
                        conv => whnf
                        repeat (refine ⟨gP_of ⟨by omega, by omega⟩, ?_⟩; conv => whnf)
                        exact ⟨_, _, Turn.refl _ _, _, by omega, n + 1, _, ev4, _, rfl, rfl, rfl, by omega, by omega, by omega, hr4, hfo3⟩
                  · have hn2 : ((decide ((n : Int) ≤ 4) && decide ((n : Int) ≤ (j : Int))) && decide (0 < ((TX.map encTx).length : Int))) = false := hn2
                    have hfin : F2 = E3 := by
                      rw [hfo3]
                      by_cases hT : TX = []
                      · rw [hf3]
                        exact fold_idN hT _ _
                      · rw [drop_nil (by
                          rw [List.length_range]
                          have : TX.length ≠ 0 := fun h => hT (List.eq_nil_of_length_eq_zero h)
                          simp only [Bool.and_eq_false_iff, decide_eq_false_iff_not, List.length_map] at hn2
                          omega)]
                        rfl
                    subst hfin
                    have hPlen : F2.length ≤ P.length := by
                      rw [hfo]
                      refine Nat.le_trans ?_ (hmono _ _)
                      rw [hfo2]
                      exact hmono2 _ _
                    rcases hr3 with ⟨hne, rfl, rfl⟩ | ⟨hne, b, rfl, rfl⟩
                    · conv => whnf
                      skip
                      refine cF (by simp) ?_
                      conv => whnf
                      repeat (refine ⟨gP_of ⟨by omega, by omega⟩, ?_⟩; conv => whnf)
                      exact ⟨_, _, Turn.refl _ _, _, by omega, j + 1, _, _, _, rfl, rfl, rfl, by omega, by rw [hne]; simp, .inl ⟨hne, rfl, rfl⟩, hfo2⟩
                    · conv => whnf
                      skip
                      refine ⟨fun hq => ?_, fun hq => ?_⟩ <;> simp at hq
                      · have h3 := hE2 hg (by omega)
                        conv => whnf
                        skip
                        exact .inl ⟨by rw [h3.1], h3.2⟩
                      · conv => whnf
                        repeat (refine ⟨gP_of ⟨by omega, by omega⟩, ?_⟩; conv => whnf)
                        exact ⟨_, _, Turn.refl _ _, _, by omega, j + 1, _, _, _, rfl, rfl, rfl, by omega, by omega, .inr ⟨hne, b, rfl, rfl⟩, hfo2⟩
              · rw [drop_nil (by rw [List.length_range]; omega)] at hfo2
                have hfo2 : F1 = E2 := hfo2
                subst hfo2
                conv => whnf
                repeat (refine ⟨gP_of ⟨by omega, by omega⟩, ?_⟩; conv => whnf)
                exact ⟨_, _, Turn.refl _ _, _, by omega, i + 1, _, ev2, _, rfl, rfl, rfl, by omega, hE2l, hr2, hfo⟩
          · rw [drop_nil hi2] at hfo
            have hfo : P = E := hfo
            subst hfo
            have h3 := hE3 hg (by omega)
            obtain ⟨h31, h32⟩ := h3
            rw [h31, h32]
            conv => whnf
            skip
            exact .inr ⟨_, _, [], rfl, hr, by rw [List.append_nil]⟩
end Go.Abs.Wall.Lst
set_option maxRecDepth 100000
set_option maxHeartbeats 2000000
set_option linter.unusedVariables false
set_option linter.unusedSimpArgs false
namespace Go.Abs.Wall.Lst
open Go Go.Abs Go.Proofs Go.Abs.Wall Go.Proofs.YthkokengobdgcaaGreat.Br
/-! ### law: both propose the same -/
structure LstB (l : Lst) : Prop where
  fit : LstFit l
  many : l.signs.length ≤ 1048576
  vals : ∀ s ∈ l.signs, s.values.length ≤ 1048576
theorem shSgnI {xs : List AV} (h : Sh Tryz.prog B20 129 xs) : ∃ s : Sgn, xs = encSgn s ∧ SgnFit s ∧ s.values.length ≤ B20 := by
  obtain ⟨ps, rfl, hp⟩ := sh_struct h rfl
  obtain ⟨x, y, z, u, v, rfl, h1, h2, h3, h4, h5⟩ := sh5 hp
  obtain ⟨a, rfl, ha⟩ := sh_str h1 rfl
  obtain ⟨b, rfl, hb⟩ := shInt h2
  obtain ⟨c, rfl, _⟩ := shInt h3
  obtain ⟨d, rfl⟩ := sh_bool h4 rfl
  obtain ⟨e, rfl, he, hf⟩ := sh_list (enc := encVal) h5 rfl fun y hy => shVal hy
  exact ⟨⟨a, b, c, d, e⟩, rfl, ⟨b20 ha, b20 he, fun v hv => b20 (hf v hv)⟩, he⟩
theorem argLstB {x : AV} (h : ArgSh Tryz.prog B20 24 x) : ∃ l : Lst, x = .agg (encLst l) ∧ LstB l := by
  obtain ⟨xs, h, hx⟩ := h
  have hx : x = .agg xs := hx
  subst hx
  obtain ⟨ps, rfl, hp⟩ := sh_struct h rfl
  obtain ⟨x1, y1, rfl, g1, g2⟩ := sh2 hp
  obtain ⟨a, rfl, _⟩ := shInt g1
  obtain ⟨b, rfl, hb, hf⟩ := sh_list (enc := encSgn) g2 rfl fun y hy => shSgnI hy
  exact ⟨⟨a, b⟩, rfl, ⟨b20 hb, fun s hs => (hf s hs).1⟩, by unfold B20 at hb; exact hb, fun s hs => by have := (hf s hs).2; unfold B20 at this; exact this⟩
theorem argLines1 {x : AV} (h : ArgSh Tryz.prog B20 34 x) : ∃ l : List (List Int), x = .sl 1 none (l.map encIs) ∧ l.length ≤ 1048576 ∧ ∀ a ∈ l, a.length ≤ 1048576 := by
  obtain ⟨xs, h, hx⟩ := h
  have hx : xs = [x] := hx
  obtain ⟨l, h1, h2, h3⟩ := sh_list (enc := encIs) (Fit := fun l => l.length ≤ B20) h rfl fun y hy => by obtain ⟨l, rfl, hl, _⟩ := shInts hy; exact ⟨l, rfl, hl⟩
  rw [hx] at h1
  cases h1
  exact ⟨l, rfl, by unfold B20 at h2; omega, fun a ha => by have := h3 a ha; unfold B20 at this; omega⟩
theorem refProposeW (l : Lst) (per : Int) (lines : List (List Int)) (hl : LstFit l) (hll : lines.length ≤ 1048576) (hlx : ∀ x ∈ lines, x.length ≤ 1048576) :
    QCall Tryz.prog 37 [.agg (encLst l), .int .i64 per, .sl 1 none (lines.map encIs)] [] (.tup [.sl 4 none ((propR l per lines).map encEnt), .int .i64 (propE l per lines)]) := RowT.ok (by decide) (fun _ => rfl) (refProposeA l per lines hl hll hlx)
def sndN (l : Lst) (i : Nat) : Nat := ((l.signs.take i).map (·.values.length)).sum
def sndM (l : Lst) : Bool := decide (60 < (sndN l l.signs.length : Int))
theorem sndN_succ {l : Lst} {i : Nat} {x : Sgn} (hx : l.signs[i]? = some x) : sndN l (i + 1) = sndN l i + x.values.length := by
  unfold sndN
  rw [take_snoc hx, List.map_append, List.sum_append]
  simp
theorem sndN_le {l : Lst} (h : LstB l) : ∀ i, i ≤ l.signs.length → sndN l i ≤ i * 1048576
  | 0, _ => by simp [sndN]
  | i + 1, hi => by
    obtain ⟨x, hx⟩ := get_lt (show i < l.signs.length by omega)
    have := h.vals x (List.mem_of_getElem? hx)
    have := sndN_le h i (by omega)
    rw [sndN_succ hx]
    omega
def c35 : Cfg := ⟨[0, 1, 2, 3, 4, 9], [], [], [], [], []⟩
def c9 : Cfg := ⟨[0, 1, 2, 3, 6, 7, 8, 9, 10, 11, 23, 48, 52, 63], [], [], [], [(10, [0, 1, 2, 3, 4, 5, 6, 7, 8], [])], []⟩
theorem soundedW (l : Lst) (h : LstB l) : QCall Tryz.prog 35 [.agg (encLst l)] [] (.bool (sndM l)) := by
  have hm := h.many
  refine fcalls (F := Tryz.f35) c35 rfl rfl rfl mixed rfl fun X => ?_
  conv => whnf
  skip
  refine sloop rfl mixed [1, 3, 4] [] (fun m r h => ∃ (i : Nat), r = [(1, [], .iptr (encLst l)), (3, [], .int .i64 (sndN l i)), (4, [], .int .i64 i)] ∧ h = [] ∧ m = l.signs.length - i ∧ i ≤ l.signs.length) ?_ ?_
  · conv => whnf
    exact ⟨_, 0, rfl, rfl, rfl, by omega⟩
  · rintro m r h' ⟨i, rfl, rfl, rfl, hi⟩
    conv => whnf
    skip
    refine ⟨fun hi2 => ?_, fun hi2 => ?_⟩ <;> simp at hi2
    · obtain ⟨x, hx⟩ := get_lt hi2
      have hv := h.vals x (List.mem_of_getElem? hx)
      have hle := sndN_le h i hi
      have hbig : sndN l i ≤ 1099511627776 := Nat.le_trans hle (by omega)
      have hvl : (x.values.map encVal).length ≤ 1048576 := by rw [List.length_map]; exact hv
      conv => whnf
      repeat ((first | refine ⟨gP_of ⟨by omega, by omega⟩, ?_⟩ | refine ix (by assumption) ?_); conv => whnf)
      exact ⟨_, by omega, i + 1, by rw [sndN_succ hx, List.length_map]; rfl, rfl, rfl, by omega⟩
    · have hi3 : i = l.signs.length := by omega
      subst hi3
      conv => whnf
      skip
      exact ⟨rfl, rfl⟩
theorem induceProposesL (l : Lst) (per : Int) (lines : List (List Int)) (hl : LstB l) (hll : lines.length ≤ 1048576) (hlx : ∀ x ∈ lines, x.length ≤ 1048576) :
    QCall Tryz.prog 9 [.agg (encLst l), .int .i64 per, .sl 1 none (lines.map encIs)] [] (.bool true) := by
  have h1 := ProposeW l per lines hl.fit hll hlx
  have h2 := refProposeW l per lines hl.fit hll hlx
  have hlen : (propR l per lines).length ≤ 200 := by
    unfold propR
    split
    · rename_i h
      rw [sortL_length]
      unfold propE at h
      split at h
      · rename_i h3; exact absurd h h3
      split at h
      · cases h
      split at h
      · cases h
      split at h
      · rename_i h3; exact absurd h h3
      split at h
      · cases h
      · omega
    · simp
  obtain ⟨R, hR⟩ : ∃ R, R = propR l per lines := ⟨_, rfl⟩
  rw [← hR] at h1 h2 hlen
  refine fcalls (F := Tryz.f9) c9 rfl rfl rfl mixed rfl fun X => ?_
  conv => whnf
  repeat (refine QCall.k0 (soundedW l hl) ?_; conv => whnf)
  refine ⟨fun hq => ?_, fun hq => ?_⟩
  · conv => whnf
    repeat (refine QCall.k0 (worksI) ?_; conv => whnf)
    exact ⟨rfl, rfl⟩
  · conv => whnf
    repeat ((first | refine QCall.k0 (h1) ?_ | refine QCall.k0 (h2) ?_); conv => whnf)
    refine cF (by simp) ?_
    conv => whnf
    skip
    refine sloop rfl mixed [7, 9, 11] [] (fun m r h => ∃ (i : Nat), r = [(7, [], .sl 4 none (R.map encEnt)), (9, [], .sl 4 none (R.map encEnt)), (11, [], .int .i64 i)] ∧ h = [] ∧ m = R.length - i ∧ i ≤ R.length) ?_ ?_
    · conv => whnf
      exact ⟨_, 0, rfl, rfl, rfl, by omega⟩
    · rintro m r h ⟨i, rfl, rfl, rfl, hi⟩
      conv => whnf
      skip
      refine ⟨fun hi2 => ?_, fun hi2 => ?_⟩ <;> simp at hi2
      · obtain ⟨x, hx⟩ := get_lt hi2
        conv => whnf
        repeat ((first | refine ix (by assumption) ?_ | (refine ⟨plainEnt, ?_⟩) | refine And.intro (by show drawOK (opsAt Tryz.f9 _) _ = true; decide +kernel) ?_); conv => whnf)
        refine cF (by show (!entEq x x) = false; rw [entEq_iff]; simp) ?_
        conv => whnf
        repeat (refine ⟨gP_of ⟨by omega, by omega⟩, ?_⟩; conv => whnf)
        exact ⟨_, by omega, i + 1, rfl, rfl, rfl, by omega⟩
      · conv => whnf
        repeat (refine QCall.k0 (worksI) ?_; conv => whnf)
        exact ⟨rfl, rfl⟩
end Go.Abs.Wall.Lst
set_option maxRecDepth 100000
set_option maxHeartbeats 2000000
set_option linter.unusedVariables false
set_option linter.unusedSimpArgs false
namespace Go.Abs.Wall.Lst
open Go Go.Abs Go.Proofs Go.Abs.Wall
/-! ### what is proposed can be read as its word (no program in sight) -/
/-- a house with this one entry -/
def oneH (l : Lst) (per : Int) (e : Ent) : Hou := ⟨l, ⟨[e], [], []⟩, ⟨0, 0, 0, 0, 0⟩, per⟩
theorem lexOne {e : Ent} (h : entBad [] e = false) : lexErr ⟨[e], [], []⟩ = 0 := by
  unfold lexErr
  rw [if_neg (by simp), if_neg, if_neg (by simp [bads, badGo]), if_neg (by simp [bads, badGo])]
  simp [bads, badGo, h]
theorem houOne {l : Lst} {per : Int} {e : Ent} (h0 : lstErr l = 0) (hp : 1 ≤ per ∧ per ≤ l.periods) (h : entBad [] e = false) : houErr (oneH l per e) = 0 := by
  unfold houErr oneH
  rw [if_neg (by simp [h0]), if_neg (by simp [lexOne h]), if_neg (by simp [costL, wthn]), if_neg]
  have : wthn per 1 l.periods = true := wthn_iff.2 hp
  simp [this]
theorem tx_val {l : Lst} {per kind s : Int} {t : List UInt8} (ht : t ∈ txM l per kind s) : ∃ x, l.signs[s.toNat]? = some x ∧ ∃ v ∈ x.values, v.kind = kind ∧ wthn per v.fr v.to = true ∧ v.text = t := by
  unfold txM at ht
  obtain ⟨v, hv, rfl⟩ := List.mem_map.1 ht
  rw [List.mem_filter] at hv
  obtain ⟨hv, hk⟩ := hv
  unfold useV at hk
  rw [Bool.and_eq_true, decide_eq_true_eq] at hk
  rw [List.getD_eq_getElem?_getD] at hv
  cases hs : l.signs[s.toNat]? with
  | none => rw [hs] at hv; simp at hv
  | some x => rw [hs] at hv; exact ⟨x, rfl, v, hv, hk.1, hk.2, rfl⟩
theorem useGo_mem {p : Int} {u : Use} : ∀ {vs : List Val}, u ∈ useGo p vs ↔ ∃ v ∈ vs, wthn p v.fr v.to = true ∧ u ∈ useOf v
  | [] => by simp [useGo]
  | v :: t => by
    unfold useGo
    rw [List.mem_append, useGo_mem]
    by_cases h : wthn p v.fr v.to = true
    · rw [if_pos h]
      simp [h]
    · rw [if_neg h]
      simp [h]
theorem usesAt_of {l : Lst} {per : Int} {e : Ent} {kind s : Int} {t : List UInt8} (hs : 0 ≤ s ∧ s < l.signs.length) (ht : t ∈ txM l per kind s) {u : Use} (hu : ∀ v : Val, v.kind = kind → v.text = t → u ∈ useOf v) : (usesAt (oneH l per e) s).any (useEq u) = true := by
  obtain ⟨x, hx, v, hv, hk, hw, htx⟩ := tx_val ht
  rw [List.any_eq_true]
  refine ⟨u, ?_, by rw [useEq_iff]; simp⟩
  have hg := sgnAt_get (H := oneH l per e) (n := s) hs.1 hs.2
  have hg' : (oneH l per e).list.signs[s.toNat]? = some x := hx
  rw [hg'] at hg
  unfold usesAt usesM sortU
  rw [sortL_mem, ← Option.some.inj hg]
  exact useGo_mem.2 ⟨v, hv, hw, hu v hk htx⟩
theorem use1 (t : List UInt8) (v : Val) (hk : v.kind = 1) (ht : v.text = t) : (⟨1, t⟩ : Use) ∈ useOf v := by
  unfold useOf
  rw [if_pos hk, ht]
  simp
theorem use4 (t : List UInt8) (v : Val) (hk : v.kind = 3) (ht : v.text = t) : (⟨4, t⟩ : Use) ∈ useOf v := by
  unfold useOf
  rw [if_neg (by omega), if_neg (by omega), if_pos hk, ht]
  simp
theorem chs_split (tx : Int → List (List UInt8)) : ∀ (st : List Int) (c : List UInt8), c ∈ chs tx st → ∃ xs : List (List UInt8), xs.length = st.length ∧ c = xs.flatten ∧ ∀ (i : Nat) s x, st[i]? = some s → xs[i]? = some x → x ∈ tx s
  | [], c, h => by
    unfold chs at h
    rw [List.mem_singleton] at h
    exact ⟨[], rfl, by rw [h]; rfl, by simp⟩
  | s :: t, c, h => by
    rw [chs, List.mem_flatMap] at h
    obtain ⟨x, hx, h⟩ := h
    obtain ⟨d, hd, rfl⟩ := List.mem_map.1 h
    obtain ⟨xs, h1, rfl, h2⟩ := chs_split tx t d hd
    refine ⟨x :: xs, by simp [h1], by simp, fun i s' x' hs hx' => ?_⟩
    cases i with
    | zero => simp at hs hx'; subst hs; subst hx'; exact hx
    | succ i => simp at hs hx'; exact h2 i s' x' hs hx'
def spell1 (x : List UInt8) : Use := ⟨1, x⟩
theorem spGo_one (l : Lst) (per : Int) (e : Ent) (z : Int) (hcl : e.cls ≠ []) (hz : 0 ≤ z ∧ z < l.signs.length) (hzc : e.cls ∈ txM l per 3 z) :
    ∀ (st : List Int) (xs : List (List UInt8)) (S : List Prg), xs.length = st.length → (∀ s ∈ st, 0 ≤ s ∧ s < l.signs.length) → (∀ (i : Nat) s x, st[i]? = some s → xs[i]? = some x → x ∈ txM l per 1 s ∧ x ≠ []) →
    (∃ p ∈ S, p.sounds ++ xs.flatten = e.root ∧ p.closed = false ∧ p.cl = []) →
    spGo (oneH l per e) ⟨oneH l per e, e, e.root⟩ [] (st ++ [z]) (xs.map spell1 ++ [⟨4, e.cls⟩]) S = true
  | [], [], S, _, _, _, ⟨p, hp, h1, h2, h3⟩ => by
    simp only [List.nil_append, List.map_nil]
    rw [spGo, Bool.and_eq_true]
    refine ⟨usesAt_of hz hzc (use4 _), ?_⟩
    rw [spGo]
    rw [List.any_eq_true]
    have hs : p.sounds = e.root := by simpa using h1
    refine ⟨⟨p.sounds, true, p.cl, ⟨4, e.cls⟩⟩, List.mem_flatMap.2 ⟨p, hp, ?_⟩, ?_⟩
    · unfold nextM
      rw [if_neg (show ¬ (4 : Int) = 1 by decide), if_neg (show ¬ (4 : Int) = 2 by decide), if_neg (show ¬ (4 : Int) = 3 by decide), if_pos (show (4 : Int) = 4 from rfl), if_neg, List.mem_singleton]
      unfold clBad
      simp [h2, hcl, h3, hs]
    · unfold endsM tot cliT
      simp [h3, hs]
    · simp
  | s :: t, x :: xs, S, hl, hs, hx, ⟨p, hp, h1, h2, h3⟩ => by
    obtain ⟨hx1, hx2⟩ := hx 0 s x rfl rfl
    simp only [List.cons_append, List.map_cons]
    rw [spGo, Bool.and_eq_true]
    refine ⟨usesAt_of (hs s (List.mem_cons_self ..)) hx1 (use1 _), ?_⟩
    refine spGo_one l per e z hcl hz hzc t xs _ (by simpa using hl) (fun y hy => hs y (List.mem_cons_of_mem _ hy)) (fun i s' x' a b => hx (i + 1) s' x' (by simpa using a) (by simpa using b)) ⟨⟨p.sounds ++ x, p.closed, p.cl, spell1 x⟩, List.mem_flatMap.2 ⟨p, hp, ?_⟩, ?_, h2, h3⟩
    · have hpart : partM ⟨oneH l per e, e, e.root⟩ p = x ++ xs.flatten := by
        unfold partM tot cliT
        rw [h3]
        simp only [List.map_nil, List.flatten_nil, List.append_nil]
        rw [← h1]
        simp
      show _ ∈ nextM _ p (spell1 x)
      unfold nextM
      rw [if_pos (show (spell1 x).kind = 1 from rfl)]
      unfold spellM
      rw [hpart, if_pos (by simp [hx2]), if_pos, List.mem_singleton]
      · rfl
      · unfold begins spell1
        simp
        omega
    · rw [← h1, List.flatten_cons, List.append_assoc]
  | [], x :: xs, _, h, _, _, _ => by simp at h
  | s :: t, [], _, h, _, _, _ => by simp at h
theorem tx_text {l : Lst} (h0 : lstErr l = 0) {per kind s : Int} {t : List UInt8} (ht : t ∈ txM l per kind s) : textOK kind t = true := by
  obtain ⟨x, hx, v, hv, hk, _, htx⟩ := tx_val ht
  have := lst_text h0 (List.mem_of_getElem? hx) hv
  rw [hk, htx] at this
  exact this
theorem text_letters {k : Int} {t : List UInt8} (h : textOK k t = true) : t.all letter = true ∧ t ≠ [] := by
  unfold textOK at h
  simp only [Bool.and_eq_true, decide_eq_true_eq] at h
  refine ⟨?_, fun e => by rw [e] at h; simp at h⟩
  rw [List.all_eq_true]
  intro y hy
  have h1 := List.all_eq_true.1 h.2 y hy
  unfold textCh at h1
  unfold letter
  rw [Bool.or_eq_true, Bool.and_eq_true] at h1
  rw [Bool.or_eq_true]
  exact h1.imp id fun h => h.2
theorem text_small {t : List UInt8} (h : textOK 3 t = true) : nameOK t = true := by
  unfold textOK at h
  simp only [Bool.and_eq_true, decide_eq_true_eq] at h
  unfold nameOK
  simp only [Bool.and_eq_true, decide_eq_true_eq]
  refine ⟨?_, by omega, by omega⟩
  rw [List.all_eq_true]
  intro y hy
  have h1 := List.all_eq_true.1 h.2 y hy
  unfold textCh at h1
  rw [show (!decide ((3 : Int) = 3)) = false from rfl, Bool.false_and, Bool.or_false] at h1
  exact h1
theorem flat_letters : ∀ {xs : List (List UInt8)}, (∀ x ∈ xs, x.all letter = true ∧ x ≠ []) → xs.flatten.all letter = true ∧ xs.length ≤ xs.flatten.length
  | [], _ => by simp
  | x :: xs, h => by
    obtain ⟨h1, h2⟩ := flat_letters (xs := xs) fun y hy => h y (List.mem_cons_of_mem _ hy)
    obtain ⟨h3, h4⟩ := h x (List.mem_cons_self ..)
    have h5 : 1 ≤ x.length := by cases x with | nil => exact absurd rfl h4 | cons a t => simp
    rw [List.flatten_cons, List.all_append, h3, h1, List.length_append, List.length_cons]
    exact ⟨rfl, by omega⟩
/-- a stretch that spells, and a sign behind it that closes -/
def strW (w : Wrd) : Bool := if w.uses.length < 2 ∨ 5 < w.uses.length ∨ (w.uses.getD (w.uses.length - 1) ⟨0, []⟩).kind ≠ 4 then false else (w.uses.take (w.uses.length - 1)).all fun u => decide (u.kind = 1)
theorem cand_word {l : Lst} {per : Int} {lines : List (List Int)} (h0 : lstErr l = 0) (hp : 1 ≤ per ∧ per ≤ l.periods) (hok : ∀ x ∈ lines, x.length ≤ 60 ∧ ∀ s ∈ x, 0 ≤ s ∧ s < l.signs.length) {e : Ent} (he : candP l per lines e) :
    entBad [] e = false ∧ ∃ line ∈ lines, ∃ k, k < line.length ∧ ∃ x ∈ edgsAt (oneH l per e) line k, strW x.word = true := by
  obtain ⟨line, hline, to, hto, cls, hcls, k, hk, c, hc, hc8, rfl⟩ := he
  rw [mem_dropR] at hto hk
  rw [List.nil_append] at hc8 ⊢
  obtain ⟨hl60, hsg⟩ := hok line hline
  obtain ⟨z, hz⟩ := get_lt hto.2
  rw [getD_of hz] at hcls
  obtain ⟨xs, hxl, hxf, hxm⟩ := chs_split _ _ _ hc
  have hstl : ((line.take to).drop k).length = to - k := by rw [List.length_drop, List.length_take]; omega
  have hxt : ∀ (i : Nat) s x, ((line.take to).drop k)[i]? = some s → xs[i]? = some x → x ∈ txM l per 1 s ∧ x ≠ [] := fun i s x h1 h2 => ⟨hxm i s x h1 h2, (text_letters (tx_text h0 (hxm i s x h1 h2))).2⟩
  have hxa : ∀ x ∈ xs, x.all letter = true ∧ x ≠ [] := by
    intro x hx
    obtain ⟨i, hi⟩ := List.mem_iff_getElem?.1 hx
    have hi2 := (List.getElem?_eq_some_iff.1 hi).1
    obtain ⟨s, hs⟩ := get_lt (l := (line.take to).drop k) (i := i) (by omega)
    exact text_letters (tx_text h0 (hxm i s x hs hi))
  obtain ⟨hlet, hlen⟩ := flat_letters hxa
  rw [← hxf] at hlet hlen
  have hct := text_small (tx_text h0 hcls)
  have hcne := (text_letters (tx_text h0 hcls)).2
  have hbad : entBad [] (entP c cls) = false := by
    unfold entBad entP
    have h1 : sndOK c 8 = true := by
      unfold sndOK
      simp only [Bool.and_eq_true, decide_eq_true_eq]
      exact ⟨hlet, by omega, by omega⟩
    simp [h1, hct, wthn]
  refine ⟨hbad, line, hline, k, by omega, ?_⟩
  have hhou := houOne h0 hp hbad
  have hL : LineOK (oneH l per (entP c cls)) line := ⟨houOK hhou, hl60, hsg⟩
  have hz0 := hsg z (List.mem_of_getElem? hz)
  have hus : ((xs.map spell1) ++ [(⟨4, cls⟩ : Use)]).length = to - k + 1 := by rw [List.length_append, List.length_map, hxl, hstl]; rfl
  have hstr : (line.drop k).take (to - k + 1) = (line.take to).drop k ++ [z] := by
    rw [List.take_add_one, List.getElem?_drop, show k + (to - k) = to by omega, hz, List.drop_take]
    rfl
  have hgo := spGo_one l per (entP c cls) z hcne hz0 hcls ((line.take to).drop k) xs [prg0] (by omega) (fun s hs => hsg s (List.mem_of_mem_take (List.mem_of_mem_drop hs))) hxt ⟨prg0, List.mem_singleton.2 rfl, by rw [← hxf]; rfl, rfl, rfl⟩
  refine ⟨edgOf (oneH l per (entP c cls)) k ⟨⟨0, -1, []⟩, (xs.map spell1) ++ [⟨4, cls⟩]⟩, (edgsAt_iff hL (lexOne hbad) (by omega)).2 ⟨⟨?_, ?_, ?_⟩, rfl⟩, ?_⟩
  · show frmErr (oneH l per (entP c cls)).lex ⟨0, -1, []⟩ = 0
    unfold frmErr
    rw [if_neg (by show ¬ lexErr ⟨[entP c cls], [], []⟩ ≠ 0; rw [lexOne hbad]; simp), if_neg (by show ¬ wthn 0 0 (((1 : Nat) : Int) - 1) = false; decide), if_neg (by unfold badEnd; simp), if_neg (by simp), if_pos (by unfold cliOK; rfl)]
  · show k + ((xs.map spell1) ++ [(⟨4, cls⟩ : Use)]).length ≤ line.length
    omega
  · show spellsM (oneH l per (entP c cls)) ((line.drop k).take ((xs.map spell1) ++ [(⟨4, cls⟩ : Use)]).length) ⟨⟨0, -1, []⟩, (xs.map spell1) ++ [⟨4, cls⟩]⟩ = true
    rw [hus, hstr]
    unfold spellsM
    rw [Bool.and_eq_true, Bool.and_eq_true]
    refine ⟨⟨wthn_iff.2 ?_, ?_⟩, hgo⟩
    · rw [List.length_append, hstl]
      simp
      omega
    · rw [decide_eq_true_eq]
      show ((line.take to).drop k ++ [z]).length = ((xs.map spell1) ++ [(⟨4, cls⟩ : Use)]).length
      rw [hus, List.length_append, hstl]
      rfl
  · show strW ⟨⟨0, -1, []⟩, (xs.map spell1) ++ [⟨4, cls⟩]⟩ = true
    unfold strW
    simp only
    rw [hus, if_neg, List.all_eq_true]
    · intro u hu
      rw [show to - k + 1 - 1 = (xs.map spell1).length by rw [List.length_map]; omega, List.take_left] at hu
      obtain ⟨x, _, rfl⟩ := List.mem_map.1 hu
      rfl
    · rw [List.getD_eq_getElem?_getD, show to - k + 1 - 1 = (xs.map spell1).length by rw [List.length_map]; omega, List.getElem?_append_right (Nat.le_refl _), Nat.sub_self]
      rintro (h | h | h)
      · omega
      · omega
      · exact h rfl
end Go.Abs.Wall.Lst
set_option maxRecDepth 100000
set_option maxHeartbeats 2000000
set_option linter.unusedVariables false
set_option linter.unusedSimpArgs false
namespace Go.Abs.Wall.Lst
open Go Go.Abs Go.Proofs Go.Abs.Wall
/-! ### law: what is proposed can be read -/
def c39 : Cfg := ⟨[0, 1, 2, 3, 4, 23, 26, 35], [], [], [], [], []⟩
def c10 : Cfg := ⟨[0, 1, 2, 3, 6, 7, 8, 9, 10, 11, 12, 13, 14, 15, 16, 17, 24, 29, 37, 47, 56, 71, 80, 98, 107, 120], [], [11], [], [(14, [0, 1, 2, 3, 4, 5, 6, 7, 8, 9, 10], [11]), (22, [0, 1, 2, 3, 4, 5, 6, 7, 8, 9, 10, 11], [])], []⟩
theorem strWalk (w : Wrd) (hw : w.uses.length ≤ 1048576) : QCall Tryz.prog 39 [.agg (encWrd w)] [] (.bool (strW w)) := by
  have hul : (w.uses.map encUse).length = w.uses.length := List.length_map _
  by_cases h1 : w.uses.length < 2 ∨ 5 < w.uses.length
  · have hs : strW w = false := by unfold strW; rw [if_pos (by rcases h1 with h | h; exact .inl h; exact .inr (.inl h))]
    rw [hs]
    have hg : (decide (((w.uses.map encUse).length : Int) - 1 < 1) || decide (4 < ((w.uses.map encUse).length : Int) - 1)) = true := by
      rw [hul]
      simp
      omega
    refine fcalls (F := Tryz.f39) c39 rfl rfl rfl mixed rfl fun X => ?_
    conv => whnf
    repeat ((first | refine ⟨gP_of ⟨by omega, by omega⟩, ?_⟩ | (refine ixg (enc := encUse) (⟨0, []⟩ : Use) ?_ ?_; (focus (intro g0; rw [hg] at g0; cases g0)))); conv => whnf)
    refine cT (by rw [hg]; rfl) ?_
    conv => whnf
    skip
    exact ⟨rfl, rfl⟩
  · obtain ⟨u, hu⟩ := get_lt (l := w.uses) (i := w.uses.length - 1) (by omega)
    have hs : strW w = if u.kind ≠ 4 then false else (w.uses.take (w.uses.length - 1)).all fun u => decide (u.kind = 1) := by
      unfold strW
      rw [getD_of hu]
      by_cases h2 : u.kind ≠ 4
      · rw [if_pos (.inr (.inr h2)), if_pos h2]
      · rw [if_neg (by rintro (h | h | h); exact h1 (.inl h); exact h1 (.inr h); exact h2 h), if_neg h2]
    rw [hs]
    refine fcalls (F := Tryz.f39) c39 rfl rfl rfl mixed rfl fun X => ?_
    conv => whnf
    repeat ((first | refine ⟨gP_of ⟨by omega, by omega⟩, ?_⟩ | (refine ⟨w.uses.length - 1, encUse u, gP_of ⟨by rw [hul]; omega, by rw [List.getElem?_map, hu]; rfl⟩, ?_⟩)); conv => whnf)
    have hg : (decide (((w.uses.map encUse).length : Int) - 1 < 1) || decide (4 < ((w.uses.map encUse).length : Int) - 1)) = false := by
      rw [hul]
      simp
      omega
    refine ⟨fun hq => ?_, fun hq => ?_⟩
    · have hq : ((decide (((w.uses.map encUse).length : Int) - 1 < 1) || decide (4 < ((w.uses.map encUse).length : Int) - 1)) || !decide (u.kind = 4)) = true := hq
      rw [hg, Bool.false_or, Bool.not_eq_true', decide_eq_false_iff_not] at hq
      rw [if_pos hq]
      conv => whnf
      skip
      exact ⟨rfl, rfl⟩
    · have hq : ((decide (((w.uses.map encUse).length : Int) - 1 < 1) || decide (4 < ((w.uses.map encUse).length : Int) - 1)) || !decide (u.kind = 4)) = false := hq
      rw [hg, Bool.false_or, Bool.not_eq_false', decide_eq_true_eq] at hq
      rw [if_neg (by omega)]
      obtain ⟨U, hU⟩ : ∃ U, U = w.uses.take (w.uses.length - 1) := ⟨_, rfl⟩
      have hUl : U.length = w.uses.length - 1 := by rw [hU, List.length_take]; omega
      rw [← hU]
      conv => whnf
      skip
      refine sloop rfl mixed [1, 3, 4] [] (fun m r h => ∃ (i : Nat), r = [(1, [], .iptr (encWrd w)), (3, [], .int .i64 (((w.uses.map encUse).length : Int) - 1)), (4, [], .int .i64 i)] ∧ h = [] ∧ m = U.length - i ∧ i ≤ U.length ∧ (U.all fun u => decide (u.kind = 1)) = (U.drop i).all fun u => decide (u.kind = 1)) ?_ ?_
      · conv => whnf
        exact ⟨_, 0, rfl, rfl, rfl, by omega, rfl⟩
      · rintro m r h ⟨i, rfl, rfl, rfl, hi, hfo⟩
        conv => whnf
        skip
        refine ⟨fun hi2 => ?_, fun hi2 => ?_⟩
        · have hi2 : decide ((i : Int) < ((w.uses.map encUse).length : Int) - 1) = true := hi2
          rw [hul, decide_eq_true_eq] at hi2
          obtain ⟨x, hx⟩ := get_lt (l := U) (i := i) (by omega)
          have hx2 : w.uses[i]? = some x := by
            rw [hU, List.getElem?_take] at hx
            split at hx
            · exact hx
            · cases hx
          rw [drop_cons hx, List.all_cons] at hfo
          conv => whnf
          repeat (refine ix (by assumption) ?_; conv => whnf)
          refine ⟨fun hq2 => ?_, fun hq2 => ?_⟩ <;> simp at hq2
          · rw [decide_eq_false hq2, Bool.false_and] at hfo
            rw [hfo]
            conv => whnf
            skip
            exact ⟨rfl, rfl⟩
          · rw [decide_eq_true hq2, Bool.true_and] at hfo
            conv => whnf
            repeat (refine ⟨gP_of ⟨by omega, by omega⟩, ?_⟩; conv => whnf)
            exact ⟨_, by omega, i + 1, rfl, rfl, rfl, by omega, hfo⟩
        · have hi2 : decide ((i : Int) < ((w.uses.map encUse).length : Int) - 1) = false := hi2
          rw [hul, decide_eq_false_iff_not] at hi2
          rw [drop_nil (by omega)] at hfo
          rw [hfo]
          conv => whnf
          skip
          exact ⟨rfl, rfl⟩
def fndX (H : Hou) (line : List Int) (k : Nat) : Bool := decide (wordsE H line k = 2) || (wordsLs H line k).any fun x => strW x.word
def fndY (H : Hou) (line : List Int) : Bool := (List.range line.length).any (fndX H line)
theorem propE_zero {l : Lst} {per : Int} {lines : List (List Int)} (h : propE l per lines = 0) : lstErr l = 0 ∧ (1 ≤ per ∧ per ≤ l.periods) ∧ linesE l lines = 0 ∧ propR l per lines = sortL entC (propM l per lines) := by
  have h' := h
  unfold propE at h
  split at h
  · rename_i h3; exact absurd h h3
  split at h
  · cases h
  split at h
  · cases h
  split at h
  · rename_i h3; exact absurd h h3
  · rename_i h1 h2 h3 h4
    exact ⟨by omega, wthn_iff.1 (by simpa using h2), by omega, by rw [propR, if_pos h']⟩
structure OneOK (l : Lst) (per : Int) (lines : List (List Int)) (e : Ent) : Prop where
  fit : HouFit (oneH l per e)
  all : lines.any (fndY (oneH l per e)) = true
  err : ∀ line ∈ lines, ∀ k, k < line.length → wordsE (oneH l per e) line k = 0 ∨ wordsE (oneH l per e) line k = 2
  few : ∀ line ∈ lines, ∀ k, k < line.length → ∀ x ∈ wordsLs (oneH l per e) line k, x.word.uses.length ≤ 1048576
  many : ∀ line ∈ lines, ∀ k, k < line.length → (wordsLs (oneH l per e) line k).length ≤ 2000
theorem one_ok {l : Lst} {per : Int} {lines : List (List Int)} (hl : LstFit l) (h : propE l per lines = 0) {e : Ent} (he : e ∈ propR l per lines) : OneOK l per lines e := by
  obtain ⟨h0, hp, hle, hR⟩ := propE_zero h
  have hok := linesE_ok hle
  rw [hR, sortL_mem] at he
  have hc : candP l per lines e := by
    rcases (propM_grow l per lines).sub ⟨by simp, by simp⟩ e he with h | h
    · cases h
    · exact h
  obtain ⟨hbad, line0, hl0, k0, hk0, x0, hx0, hs0⟩ := cand_word h0 hp hok hc
  have hhou := houOne h0 hp hbad
  have hlin : ∀ line ∈ lines, lineErr (oneH l per e) line = 0 := by
    intro line hline
    obtain ⟨h1, h2⟩ := hok line hline
    unfold lineErr
    rw [if_neg (by rw [hhou]; simp), if_neg (by omega), if_neg]
    rw [List.any_eq_true]
    rintro ⟨s, hs, hb⟩
    have := h2 s hs
    have hw : wthn s 0 (((oneH l per e).list.signs.length : Int) - 1) = true := wthn_iff.2 (by show 0 ≤ s ∧ s ≤ (l.signs.length : Int) - 1; omega)
    rw [hw] at hb
    cases hb
  have herr : ∀ line ∈ lines, ∀ k, k < line.length → wordsE (oneH l per e) line k = if 2000 < (edgsAt (oneH l per e) line k).length then 2 else 0 := by
    intro line hline k hk
    have hw : wthn (k : Int) 0 line.length = true := wthn_iff.2 (by omega)
    unfold wordsE
    rw [if_neg (by rw [hlin line hline]; simp), if_neg (by rw [hw]; simp), Int.toNat_natCast]
  have hbe : sndOK e.root 8 = true ∧ e.cls.length ≤ 8 := by
    obtain ⟨line, _, to, _, cls, hcls, k, _, c, _, hc8, rfl⟩ := hc
    unfold entBad at hbad
    simp only [Bool.or_eq_false_iff, Bool.not_eq_false'] at hbad
    refine ⟨hbad.1.1.1.1, ?_⟩
    have := tx_text h0 hcls
    unfold textOK at this
    simp only [Bool.and_eq_true, decide_eq_true_eq] at this
    exact this.1.2
  have hrl := sndOK_len hbe.1
  refine ⟨⟨hl, ⟨(by show 1 ≤ LMAX; decide), (by show 0 ≤ LMAX; decide), (by show 0 ≤ LMAX; decide), ?_, (by intro x hx; cases hx), (by intro x hx; cases hx)⟩⟩, ?_, fun line hline k hk => ?_, fun line hline k hk x hx => ?_, fun line hline k hk => ?_⟩
  · intro x hx
    have hx : x ∈ [e] := hx
    rw [List.mem_singleton] at hx
    subst hx
    exact ⟨by unfold LMAX; omega, by have := hbe.2; unfold LMAX; omega⟩
  · rw [List.any_eq_true]
    refine ⟨line0, hl0, ?_⟩
    unfold fndY
    rw [List.any_eq_true]
    refine ⟨k0, List.mem_range.2 hk0, ?_⟩
    unfold fndX
    rw [Bool.or_eq_true, decide_eq_true_eq]
    have he0 := herr line0 hl0 k0 hk0
    by_cases hb : 2000 < (edgsAt (oneH l per e) line0 k0).length
    · rw [if_pos hb] at he0
      exact .inl he0
    · rw [if_neg hb] at he0
      right
      rw [wordsLs, if_pos he0, Int.toNat_natCast, List.any_eq_true]
      exact ⟨x0, hx0, hs0⟩
  · rw [herr line hline k hk]
    split
    · exact .inr rfl
    · exact .inl rfl
  · have h1 := hok line hline
    unfold wordsLs at hx
    split at hx
    · rw [Int.toNat_natCast] at hx
      have hL : LineOK (oneH l per e) line := lineOK (hlin line hline)
      have := ((edgsAt_iff hL (lexOne hbad) (by omega)).1 hx).1.2.1
      omega
    · cases hx
  · have he0 := herr line hline k hk
    unfold wordsLs
    split
    · rename_i h1
      rw [Int.toNat_natCast]
      by_cases hb : 2000 < (edgsAt (oneH l per e) line k).length
      · rw [if_pos hb] at he0
        rw [he0] at h1
        cases h1
      · omega
    · simp
def hvOne (l : Lst) (per : Int) (e : Ent) : List AV := [.int .i64 l.periods, .sl 5 none (l.signs.map encSgn), .sl 4 none [encEnt e], .nilS, .nilS, .int .i64 0, .int .i64 0, .int .i64 0, .int .i64 0, .int .i64 0, .int .i64 per]
theorem hvOne_le (l : Lst) (per : Int) (e : Ent) : VsLe (hvOne l per e) (encHou (oneH l per e)) :=
  .cons (VLe.refl _) (.cons (VLe.refl _) (.cons (VLe.refl _) (.cons (VLe.nil (by decide)) (.cons (VLe.nil (by decide)) (.cons (VLe.refl _) (.cons (VLe.refl _) (.cons (VLe.refl _) (.cons (VLe.refl _) (.cons (VLe.refl _) (.cons (VLe.refl _) .nil))))))))))
theorem induceProposedL (l : Lst) (per : Int) (lines : List (List Int)) (hl : LstB l) (hll : lines.length ≤ 1048576) (hlx : ∀ x ∈ lines, x.length ≤ 1048576) :
    QCall Tryz.prog 10 [.agg (encLst l), .int .i64 per, .sl 1 none (lines.map encIs)] [] (.bool true) := by
  have h1 := ProposeW l per lines hl.fit hll hlx
  refine QCall.of ?_
  refine fcalls (F := Tryz.f10) c10 rfl rfl rfl mixed rfl fun X => ?_
  conv => whnf
  repeat (refine QCall.k0 (soundedW l hl) ?_; conv => whnf)
  refine ⟨fun hq => ?_, fun hq => ?_⟩
  · conv => whnf
    repeat (refine QCall.k0 (worksI) ?_; conv => whnf)
    exact VLe.refl _
  conv => whnf
  skip
  refine sloop rfl mixed [1, 2, 3, 7] [] (fun m r h => ∃ (i : Nat), r = [(1, [], .int .i64 per), (2, [], .sl 1 none (lines.map encIs)), (3, [], .iptr (encLst l)), (7, [], .int .i64 i)] ∧ h = [] ∧ m = lines.length - i ∧ i ≤ lines.length) ?_ ?_
  · conv => whnf
    exact ⟨_, 0, rfl, rfl, rfl, by omega⟩
  · rintro m r h ⟨i, rfl, rfl, rfl, hi⟩
    conv => whnf
    skip
    refine ⟨fun hi2 => ?_, fun hi2 => ?_⟩ <;> simp at hi2
    · obtain ⟨x, hx⟩ := get_lt hi2
      conv => whnf
      repeat (refine ix (by assumption) ?_; conv => whnf)
      refine ⟨fun hq2 => ?_, fun hq2 => ?_⟩
      · conv => whnf
        repeat (refine QCall.k0 (worksI) ?_; conv => whnf)
        exact VLe.refl _
      · conv => whnf
        repeat (refine ⟨gP_of ⟨by omega, by omega⟩, ?_⟩; conv => whnf)
        exact ⟨_, by omega, i + 1, rfl, rfl, rfl, by omega⟩
    · by_cases he : propE l per lines ≠ 0
      · conv => whnf
        repeat (refine QCall.k0 (h1) ?_; conv => whnf)
        refine cT (by simpa using he) ?_
        conv => whnf
        repeat (refine QCall.k0 (worksI) ?_; conv => whnf)
        exact VLe.refl _
      have he : propE l per lines = 0 := by omega
      have hone : ∀ e ∈ propR l per lines, OneOK l per lines e := fun e hm => one_ok hl.fit he hm
      rw [he] at h1
      obtain ⟨R, hR⟩ : ∃ R, R = propR l per lines := ⟨_, rfl⟩
      rw [← hR] at h1 hone
      conv => whnf
      repeat (refine QCall.k0 (h1) ?_; conv => whnf)
      refine cF (by simp) ?_
      conv => whnf
      skip
      refine sloop rfl mixed [1, 2, 3, 8, 10] [] (fun m r h => ∃ (i : Nat) (hp : Heap), r = [(1, [], .int .i64 per), (2, [], .sl 1 none (lines.map encIs)), (3, [], .iptr (encLst l)), (8, [], .sl 4 none (R.map encEnt)), (10, [], .int .i64 i)] ∧ h = hp ∧ m = R.length - i ∧ i ≤ R.length) ?_ ?_
      · conv => whnf
        exact ⟨_, 0, _, rfl, rfl, rfl, by omega⟩
      · rintro m r hA ⟨i, hp, rfl, rfl, rfl, hi⟩
        conv => whnf
        skip
        refine ⟨fun hi2 => ?_, fun hi2 => ?_⟩
        · have hi2 : (decide ((i : Int) < ((R.map encEnt).length : Int)) && decide ((i : Int) < 12)) = true := hi2
          rw [List.length_map, Bool.and_eq_true, decide_eq_true_eq, decide_eq_true_eq] at hi2
          obtain ⟨hi2, hi12⟩ := hi2
          obtain ⟨e, hei⟩ := get_lt (l := R) (i := i) (by omega)
          have ho := hone e (List.mem_of_getElem? hei)
          conv => whnf
          repeat ((first | refine ix (by assumption) ?_ | refine ⟨_, _, Rem.here _, ?_⟩ | refine ⟨_, _, .here _, leOK, ?_⟩ | refine And.intro (by show drawOK (opsAt Tryz.f10 _) _ = true; decide +kernel) ?_
                         | intro (nb : Nat)); conv => whnf)
          have hall := ho.all
          obtain ⟨H, hH⟩ : ∃ H, H = oneH l per e := ⟨_, rfl⟩
          have hW : ∀ (line : List Int) (a : Int), line.length ≤ 1048576 → QCall Tryz.prog 38 [.agg (hvOne l per e), .sl 1 none (ints line), .int .i64 a] [] (.tup [.sl 7 none ((wordsLs H line a).map encEdg), .int .i64 (wordsE H line a)]) := fun line a hll => by
            rw [hH]
            exact QCall.args (wordsX (oneH l per e) line a ho.fit hll) (.cons (VLe.agg (hvOne_le l per e)) (.cons (VLe.refl _) (.cons (VLe.refl _) .nil)))
          have herr := ho.err
          have hfew := ho.few
          have hmany := ho.many
          rw [← hH] at hall herr hfew hmany
          unfold hvOne at hW
          refine sloop rfl mixed [1, 2, 3, 8, 10, 11, 12, 13] [] (fun m r h => ∃ (k : Nat) (b : Bool), r = [(1, [], .int .i64 per), (2, [], .sl 1 none (lines.map encIs)), (3, [], .iptr (encLst l)), (8, [], .sl 4 none (R.map encEnt)), (10, [], .int .i64 i), (11, [], .iptr [.int .i64 l.periods, .sl 5 none (l.signs.map encSgn), .sl 4 none [encEnt e], .nilS, .nilS, .int .i64 0, .int .i64 0, .int .i64 0, .int .i64 0, .int .i64 0, .int .i64 per]), (12, [], .bool b), (13, [], .int .i64 k)] ∧ h = hA ∧ m = lines.length - k ∧ k ≤ lines.length ∧ (b || (lines.drop k).any (fndY H)) = true) ?_ ?_
          · conv => whnf
            exact ⟨_, 0, false, rfl, rfl, rfl, by omega, hall⟩
          · rintro m r hB ⟨k, b, rfl, rfl, rfl, hk, hfo⟩
            conv => whnf
            skip
            refine ⟨fun hk2 => ?_, fun hk2 => ?_⟩ <;> simp at hk2
            · obtain ⟨x, hx⟩ := get_lt hk2
              have hxm := List.mem_of_getElem? hx
              have hxl := hlx x hxm
              rw [drop_cons hx, List.any_cons] at hfo
              obtain ⟨Z, hZ⟩ : ∃ Z, Z = (lines.drop (k + 1)).any (fndY H) := ⟨_, rfl⟩
              rw [← hZ, fndY] at hfo
              conv => whnf
              skip
              refine sloop rfl mixed [1, 2, 3, 8, 10, 11, 12, 13, 14] [] (fun m r h => ∃ (a : Nat) (b : Bool), r = [(1, [], .int .i64 per), (2, [], .sl 1 none (lines.map encIs)), (3, [], .iptr (encLst l)), (8, [], .sl 4 none (R.map encEnt)), (10, [], .int .i64 i), (11, [], .iptr [.int .i64 l.periods, .sl 5 none (l.signs.map encSgn), .sl 4 none [encEnt e], .nilS, .nilS, .int .i64 0, .int .i64 0, .int .i64 0, .int .i64 0, .int .i64 0, .int .i64 per]), (12, [], .bool b), (13, [], .int .i64 k), (14, [], .int .i64 a)] ∧ h = hB ∧ m = x.length - a ∧ a ≤ x.length ∧ (b || (((List.range x.length).drop a).any (fndX H x) || Z)) = true) ?_ ?_
              · conv => whnf
                exact ⟨_, 0, b, rfl, rfl, rfl, by omega, hfo⟩
              · rintro m r hC ⟨a, b, rfl, rfl, rfl, ha, hfo2⟩
                conv => whnf
                repeat (refine ix (by assumption) ?_; conv => whnf)
                refine ⟨fun ha2 => ?_, fun ha2 => ?_⟩ <;> simp [ints_length] at ha2
                · have hE := herr x hxm a ha2
                  have hF := hfew x hxm a ha2
                  have hWn := hmany x hxm a ha2
                  have hWw := hW x a hxl
                  rw [drop_cons (range_get ha2), List.any_cons, fndX] at hfo2
                  obtain ⟨E, hEe⟩ : ∃ E, E = wordsE H x a := ⟨_, rfl⟩
                  obtain ⟨WL, hWL⟩ : ∃ WL, WL = wordsLs H x a := ⟨_, rfl⟩
                  obtain ⟨Y, hY⟩ : ∃ Y, Y = (((List.range x.length).drop (a + 1)).any (fndX H x) || Z) := ⟨_, rfl⟩
                  rw [Bool.or_assoc, ← hY] at hfo2
                  rw [← hEe] at hE hWw hfo2
                  rw [← hWL] at hF hWw hfo2 hWn
                  conv => whnf
                  repeat ((first | refine ix (by assumption) ?_ | refine gcall (hWw) ?_ | refine And.intro (by show drawOK (opsAt Tryz.f10 _) _ = true; decide +kernel) ?_); conv => whnf)
                  refine cF (by rcases hE with h | h <;> rw [h] <;> rfl) ?_
                  conv => whnf
                  skip
                  refine sloop rfl mixed [1, 2, 3, 8, 10, 11, 12, 13, 14, 15, 17] [] (fun m r h => ∃ (j : Nat) (b : Bool), r = [(1, [], .int .i64 per), (2, [], .sl 1 none (lines.map encIs)), (3, [], .iptr (encLst l)), (8, [], .sl 4 none (R.map encEnt)), (10, [], .int .i64 i), (11, [], .iptr [.int .i64 l.periods, .sl 5 none (l.signs.map encSgn), .sl 4 none [encEnt e], .nilS, .nilS, .int .i64 0, .int .i64 0, .int .i64 0, .int .i64 0, .int .i64 0, .int .i64 per]), (12, [], .bool b), (13, [], .int .i64 k), (14, [], .int .i64 a), (15, [], .sl 7 none (WL.map encEdg)), (17, [], .int .i64 j)] ∧ h = hC ∧ m = WL.length - j ∧ j ≤ WL.length ∧ (b || ((WL.drop j).any (fun x => strW x.word) || Y)) = true) ?_ ?_
                  · conv => whnf
                    exact ⟨_, 0, _, rfl, rfl, rfl, by omega, by rw [← hfo2, Bool.or_assoc, Bool.or_assoc]; rfl⟩
                  · rintro m r hD ⟨j, b, rfl, rfl, rfl, hj, hfo3⟩
                    conv => whnf
                    skip
                    refine ⟨fun hj2 => ?_, fun hj2 => ?_⟩ <;> simp at hj2
                    · obtain ⟨y, hy⟩ := get_lt hj2
                      have hst := strWalk y.word (hF y (List.mem_of_getElem? hy))
                      rw [drop_cons hy, List.any_cons] at hfo3
                      conv => whnf
                      repeat ((first | refine ⟨gP_of ⟨by omega, by omega⟩, ?_⟩ | refine ix (by assumption) ?_ | refine gcall (hst) ?_); conv => whnf)
                      exact ⟨_, by omega, j + 1, _, rfl, rfl, rfl, by omega, by rw [← hfo3, Bool.or_assoc, Bool.or_assoc]⟩
                    · rw [drop_nil hj2] at hfo3
                      conv => whnf
                      repeat (refine ⟨gP_of ⟨by omega, by omega⟩, ?_⟩; conv => whnf)
                      exact ⟨_, by omega, a + 1, b, rfl, rfl, rfl, by omega, by rw [← hY]; exact hfo3⟩
                · rw [drop_nil (by rw [List.length_range]; omega)] at hfo2
                  conv => whnf
                  repeat (refine ⟨gP_of ⟨by omega, by omega⟩, ?_⟩; conv => whnf)
                  exact ⟨_, by omega, k + 1, b, rfl, rfl, rfl, by omega, by rw [← hZ]; exact hfo2⟩
            · rw [drop_nil hk2] at hfo
              have hb : b = true := by simpa using hfo
              subst hb
              refine cF rfl ?_
              conv => whnf
              repeat (refine ⟨gP_of ⟨by omega, by omega⟩, ?_⟩; conv => whnf)
              exact ⟨_, by omega, i + 1, _, rfl, rfl, rfl, by omega⟩
        · conv => whnf
          repeat (refine QCall.k0 (worksI) ?_; conv => whnf)
          exact VLe.refl _
end Go.Abs.Wall.Lst

