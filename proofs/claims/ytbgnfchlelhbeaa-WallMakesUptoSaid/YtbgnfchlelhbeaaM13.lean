/- What is proved: small laws for the walks of this seat, and contracts of its functions. No condition but those each theorem names. -/
import Derived.Test.YtbgnfchlelhbeaaM12
import Derived.Test.YtbgnfchlelhbeaaM10
import Derived.Test.YtbgnfchlelhbeaaM9
set_option maxRecDepth 100000
set_option linter.unusedVariables false
set_option linter.unusedSimpArgs false
namespace Go.Abs.Wall
open Go Go.Abs Go.Proofs
/-! ### the specification's search: the lines -/
def LV (out : List (List Int)) (v : AV) (T : Heap) : Prop := (out = [] ∧ v = .nilS ∧ T = []) ∨ ∃ q, v = .sl 1 (some q) (out.map encL) ∧ T = [(q, .tok)]
/-- fewer objects, in another order -/
def SubP (a b : Heap) : Prop := ∃ l, a.Perm l ∧ l.Sublist b
theorem SubP.refl (a : Heap) : SubP a a := ⟨a, .refl _, .refl _⟩
theorem SubP.of {a b : Heap} (h : a.Sublist b) : SubP a b := ⟨a, .refl _, h⟩
theorem SubP.nodup {a b : Heap} (h : SubP a b) (hn : (keys b).Nodup) : (keys a).Nodup := by
  obtain ⟨l, hl, hs⟩ := h
  exact (List.Perm.map (fun x : Nat × Ob => x.1) hl).nodup_iff.2 ((hs.map (fun x : Nat × Ob => x.1)).nodup hn)
theorem SubP.mem {a b : Heap} (h : SubP a b) (k : Nat) (o : Ob) (hm : (k, o) ∈ a) : (k, o) ∈ b := by
  obtain ⟨l, hl, hs⟩ := h
  exact hs.subset (hl.mem_iff.1 hm)
/-- one object to the end -/
theorem SubP.last (x : Nat × Ob) (A B : Heap) (h : SubP A B) : SubP (A ++ [x]) (x :: B) := by
  obtain ⟨l, hl, hs⟩ := h
  exact ⟨x :: l, (List.perm_append_comm (l₁ := A) (l₂ := [x])).trans (.cons _ hl), hs.cons_cons _⟩
theorem SubP.skip {A B : Heap} (x : Nat × Ob) (h : SubP A B) : SubP A (x :: B) := by
  obtain ⟨l, hl, hs⟩ := h
  exact ⟨l, hl, hs.cons _⟩
theorem Upd.app {b b' : Nat} {o o' : Ob} {h h' : Heap} (A : Heap) (hu : Upd b o b' o' h h') : Upd b o b' o' (A ++ h) (A ++ h') := by
  induction A with
  | nil => exact hu
  | cons x A ih => exact .there ih
theorem ACalls.postP {P : Program} {f : FuncId} {args : List AV} {h : Heap} {R R' : AV → Heap → Prop} (hf : ACalls P f args h R) (hp : ∀ v h1, R v h1 → ∃ v' h', R' v' h' ∧ VLe v v' ∧ SubP h' h1) : ACalls P f args h R' :=
  hf.post fun v h1 hR => by
    obtain ⟨v', h', a, b, c⟩ := hp v h1 hR
    exact ⟨v', h', a, b, c.mem, c.nodup⟩
theorem ACalls.subP {P : Program} {f : FuncId} {args : List AV} {h h' : Heap} {R : AV → Heap → Prop} (hf : ACalls P f args h R) (hs : SubP h h') : ACalls P f args h' R := hf.pre hs.mem hs.nodup
theorem Turn.subP {r r' : Regs} {h h' : Heap} (hr : RLe r r') (hs : SubP h' h) : Turn r h r' h' := (Turn.weak hr).trans (Turn.sub hs.mem hs.nodup)
theorem pv_bd {n : Int} {cells : List Cel} {M : Int} (e : CE n cells M) {p : Pos} (h : PV_ cells p) : p.1.toNat ≤ cells.length ∧ p.2.toNat ≤ 100 := by
  rcases h with rfl | ⟨c, h0, h1, h2, h3⟩
  · simp
  · have h4 := (List.getElem?_eq_some_iff.1 h1).1
    have h5 := e.gap c (List.mem_of_getElem? h1)
    exact ⟨by omega, by omega⟩
def c92 : Cfg := ⟨[0, 1, 2, 3, 4, 5, 6, 7, 16, 17, 18, 19, 20, 21, 25, 31, 51, 54, 57, 75, 87], [], [], [], [(8, [0, 1, 2, 3, 4, 5, 6, 7, 8, 9, 10, 11, 12, 13, 14, 15], [])], [46, 104]⟩
theorem linesS {n : Int} {cells : List Cel} {par : List Int} {b km : Nat} {F : Nat} {ch most N : Int} (e : CE n cells N) (hc : CelsOK cells) (hpl : par.length ≤ 60) (hn0 : 0 ≤ n) (hn : n ≤ 1048576) (hF : 1000 ≤ F) (hF2 : F ≤ 19900) (hmost : most ≤ 1000) (hch : 0 ≤ ch ∧ ch ≤ 1000) :
    ∀ (f u : Nat) (hfu : u < f) (pre : List Int) (S : List Pos) (row : List Int) (out out' : List (List Int)) (ov : AV) (T : Heap) (M : Mm) (ρ B : Int) (K : AV → Heap → Prop),
    linesM n F cells par ch most u pre S row out = some out' → u ≤ 100 → pre.length + u ≤ 200 → SI cells N ρ S → RowG par B row → 0 ≤ B ∧ B + u ≤ 1000 → (out.length : Int) < most → LV out ov T → MemoOK cells par M →
    (∀ ov' T' M', LV out' ov' T' → MemoOK cells par M' → K ov' (wk n cells par b km M' ++ T')) →
    ACalls Try.prog 92 [.optr b 0, .sl 1 none (ints pre), .sl 2 none (S.map encPos), .sl 1 none (ints row), .int .i64 u, .int .i64 ch, .int .i64 most, ov] (wk n cells par b km M ++ T) K := by
  intro f
  induction f with
  | zero => intro u hfu; exact absurd hfu (by omega)
  | succ f ih =>
  intro u hfu
  have hcl := hc.len
  have hfar := far_eq
  intro pre S row out out' ov T M ρ B K h hr hpre hS hg hB ho hov hM hK
  suffices hh : ACalls Try.prog 92 [.optr b 0, .sl 1 none (ints pre), .sl 2 none (S.map encPos), .sl 1 none (ints row), .int .i64 u, .int .i64 ch, .int .i64 most, ov] (wk n cells par b km M ++ T) (fun v h' => ∃ ov' T' M', LV out' ov' T' ∧ MemoOK cells par M' ∧ VLe v ov' ∧ SubP (wk n cells par b km M' ++ T') h') by
    refine ACalls.postP hh ?_
    rintro v h' ⟨ov', T', M', h1, h2, h3, h4⟩
    exact ⟨_, _, hK _ _ _ h1 h2, h3, h4⟩
  have hrl := hg.len
  have hSl := hS.len
  have er := ints_length row
  refine fcalls (F := Try.f92) c92 rfl rfl rfl mixed rfl fun X => ?_
  conv => whnf
  refine sloop rfl mixed [0, 1, 2, 3, 4, 5, 6, 7, 17, 18] [] (fun m r h => ∃ (i : Nat) (bb : Int) (M : Mm), r = [(0, [], .optr b 0), (1, [], .sl 1 none (ints pre)), (2, [], .sl 2 none (S.map encPos)), (3, [], .sl 1 none (ints row)), (4, [], .int .i64 u), (5, [], .int .i64 ch), (6, [], .int .i64 most), (7, [], ov), (17, [], .int .i64 bb), (18, [], .int .i64 i)] ∧ h = wk n cells par b km M ++ T ∧ m = S.length - i ∧ i ≤ S.length ∧ 0 ≤ bb ∧ bb ≤ far ∧ MemoOK cells par M ∧ bestS cells par row u S far = bestS cells par row u (S.drop i) bb) ?_ ?_
  · conv => whnf
    exact ⟨_, 0, far, M, rfl, rfl, rfl, by omega, by omega, by omega, hM, rfl⟩
  · rintro m rr hh ⟨i, bb, M, rfl, rfl, rfl, hi, hb0, hb1, hM, hbe⟩
    conv => whnf
    refine ⟨fun hf => ?_, fun hf => ?_⟩ <;> simp at hf
    · obtain ⟨p, hp⟩ := get_lt hf
      rw [drop_cons hp, bestS] at hbe
      have hpv := hS.pv p (List.mem_of_getElem? hp)
      have hpb := pv_bd e hpv
      have hpe := spot_eq hpv
      conv => whnf
      skip
      refine sloop rfl mixed [0, 1, 2, 3, 4, 5, 6, 7, 17, 18, 19] [] (fun m r h => ∃ (j : Nat) (bc : Int) (M : Mm), r = [(0, [], .optr b 0), (1, [], .sl 1 none (ints pre)), (2, [], .sl 2 none (S.map encPos)), (3, [], .sl 1 none (ints row)), (4, [], .int .i64 u), (5, [], .int .i64 ch), (6, [], .int .i64 most), (7, [], ov), (17, [], .int .i64 bc), (18, [], .int .i64 i), (19, [], .int .i64 j)] ∧ h = wk n cells par b km M ++ T ∧ m = row.length - j ∧ j ≤ row.length ∧ 0 ≤ bc ∧ bc ≤ far ∧ MemoOK cells par M ∧ bestJ cells par p u row 0 bb = bestJ cells par p u (row.drop j) j bc) ?_ ?_
      · conv => whnf
        exact ⟨_, 0, bb, M, rfl, rfl, rfl, by omega, hb0, hb1, hM, rfl⟩
      · rintro m2 rr2 hh2 ⟨j, bc, M, rfl, rfl, rfl, hj, hc0, hc1, hM, hje⟩
        conv => whnf
        refine ⟨fun hf2 => ?_, fun hf2 => ?_⟩ <;> simp at hf2
        · obtain ⟨v, hv⟩ := get_lt hf2
          rw [drop_cons hv, bestJ] at hje
          have hvb := hg.bd v (List.mem_of_getElem? hv)
          have hq := bR_bd cells par hpl p.1.toNat p.2.toNat j u (by omega)
          conv => whnf
          repeat ((first | refine ix (by assumption) ?_ | refine And.intro (by show drawOK (opsAt Try.f92 _) _ = true; decide +kernel) ?_); conv => whnf)
          have hbd := fun K h => boundR n cells par b km hc hpl 400 p.1.toNat p.2.toNat j u M K (by omega) hpb.1 hpb.2 (by omega) (by omega) hM h
          rw [← hpe] at hbd
          refine ACalls.fr (hbd (fun v h' => ∃ M', MemoOK cells par M' ∧ v = .int .i64 (bR cells par p.1.toNat p.2.toNat j u) ∧ h' = wk n cells par b km M') fun M' hM' => ⟨M', hM', rfl, rfl⟩) ?_
          rintro v' h' ⟨M', hM', rfl, rfl⟩
          conv => whnf
          repeat (refine ⟨gP_of ⟨by omega, by omega⟩, ?_⟩; conv => whnf)
          exact ⟨_, by omega, j + 1, _, M', rfl, rfl, rfl, by omega, by omega, by omega, hM', hje⟩
        · rw [drop_nil (by omega), bestJ] at hje
          conv => whnf
          repeat (refine ⟨gP_of ⟨by omega, by omega⟩, ?_⟩; conv => whnf)
          refine ⟨_, by omega, i + 1, bc, M, rfl, rfl, rfl, by omega, hc0, hc1, hM, by rw [hbe, hje]⟩
    · rw [drop_nil (by omega), bestS] at hbe
      conv => whnf
      skip
      cases u with
      | zero =>
        rw [linesM] at h
        refine ⟨fun hd => ?_, fun hd => ?_⟩ <;> simp only [decide_eq_true_eq, decide_eq_false_iff_not] at hd
        · rw [if_pos (by omega)] at h
          cases h
          conv => whnf
          skip
          exact ⟨_, _, _, hov, hM, VLe.refl _, SubP.refl _⟩
        · rw [if_neg (by omega)] at h
          conv => whnf
          skip
          refine cT rfl ?_
          conv => whnf
          skip
          refine ⟨fun hd2 => ?_, fun hd2 => ?_⟩ <;> simp only [decide_eq_true_eq, decide_eq_false_iff_not] at hd2
          · rw [if_pos (by omega)] at h
            cases h
            rcases hov with ⟨rfl, rfl, rfl⟩ | ⟨q, rfl, rfl⟩
            · conv => whnf
              repeat ((first | (refine ⟨(by rw [ints_length]; unfold AMAX; omega), fun q1 => ?_⟩) | (refine ⟨(by show 1 ≤ 4294967296; omega), fun q' => ?_⟩)); conv => whnf)
              exact ⟨_, _, _, .inr ⟨q', rfl, rfl⟩, hM, VLe.els (.cons (.cons VLe.sl .nil) .nil), .last _ _ _ (.skip _ (by rw [List.append_nil]; exact .refl _))⟩
            · conv => whnf
              repeat ((first | (refine ⟨(by rw [ints_length]; unfold AMAX; omega), fun q1 => ?_⟩) | (refine ⟨(by rw [List.length_append, List.length_map]; unfold AMAX; show _ + 1 ≤ 4294967296; omega), fun q' => ⟨_, .there (Upd.app _ (.here _)), ?_⟩⟩)); conv => whnf)
              exact ⟨_, _, _, .inr ⟨q', rfl, rfl⟩, hM, VLe.els (by rw [List.map_append]; exact VssLe.snoc (.cons VLe.sl .nil)), .skip _ (.refl _)⟩
          · rw [if_neg (by omega)] at h
            cases h
            conv => whnf
            skip
            exact ⟨_, _, _, hov, hM, VLe.refl _, SubP.refl _⟩
      | succ u =>
        rw [linesM] at h
        refine ⟨fun hd => ?_, fun hd => ?_⟩ <;> simp only [decide_eq_true_eq, decide_eq_false_iff_not] at hd
        · rw [if_pos (by omega)] at h
          cases h
          conv => whnf
          skip
          exact ⟨_, _, _, hov, hM, VLe.refl _, SubP.refl _⟩
        · rw [if_neg (by omega)] at h
          conv => whnf
          skip
          refine cF (by simp; omega) ?_
          conv => whnf
          skip
          refine sloop rfl mixed [0, 1, 2, 3, 4, 5, 6, 7, 20] [] (fun m r h => ∃ (g : Nat) (o : List (List Int)) (ov : AV) (T : Heap) (M : Mm), r = [(0, [], .optr b 0), (1, [], .sl 1 none (ints pre)), (2, [], .sl 2 none (S.map encPos)), (3, [], .sl 1 none (ints row)), (4, [], .int .i64 (u + 1 : Nat)), (5, [], .int .i64 ch), (6, [], .int .i64 most), (7, [], ov), (20, [], .int .i64 g)] ∧ h = wk n cells par b km M ++ T ∧ m = n.toNat - g ∧ g ≤ n ∧ LV o ov T ∧ MemoOK cells par M ∧ lnGo (linesM n F cells par ch most u) F cells par S row pre most ((upto n).drop g) o = some out') ?_ ?_
          · conv => whnf
            exact ⟨_, 0, out, ov, T, M, rfl, rfl, rfl, by omega, hov, hM, h⟩
          · rintro m rr hh ⟨g, o, ov, T, M, rfl, rfl, rfl, hg0, hov, hM, hx⟩
            rcases id hov with ⟨ho0, rfl, rfl⟩ | ⟨q, rfl, rfl⟩
            · conv => whnf
              repeat ((refine ⟨_, _, List.mem_append_left _ (.head _), rfl, ?_⟩); conv => whnf)
              refine ⟨fun hf2 => ?_, fun hf2 => ?_⟩
              · have hf2 : (g : Int) < n ∧ (o.length : Int) < most := by
                  simp only [Bool.and_eq_true, decide_eq_true_eq, List.length_map] at hf2
                  first | exact hf2 | (rw [ho0]; exact hf2)
                obtain ⟨hgn, hol⟩ := hf2
                rw [drop_cons (upto_get hgn), lnGo, if_neg (by omega)] at hx
                obtain ⟨S2, g1, g2, g3, g4⟩ := adv_spec e hF hF2 hS (g : Int)
                rw [g1] at hx
                simp only at hx
                conv => whnf
                repeat ((first | (refine ⟨_, _, List.mem_append_left _ (.head _), rfl, ?_⟩) | refine QCall.k0 (advance cells hc F S S2 (g : Int) (by omega) g1) ?_); conv => whnf)
                by_cases hS2 : S2 = []
                · rw [if_pos hS2] at hx
                  refine cF (by rw [hS2]; rfl) ?_
                  conv => whnf
                  repeat (refine ⟨gP_of ⟨by omega, by omega⟩, ?_⟩; conv => whnf)
                  exact ⟨_, by omega, g + 1, o, _, _, M, rfl, rfl, rfl, by omega, hov, hM, hx⟩
                · rw [if_neg hS2] at hx
                  refine cT (by cases S2 with | nil => exact absurd rfl hS2 | cons _ _ => simp) ?_
                  split at hx
                  · cases hx
                  rename_i o2 hrec
                  have hrow : QCall Try.prog 120 [.optr b 0, .sl 1 none (ints row), .int .i64 g] (wk n cells par b km M) (.sl 1 none (ints (extR par row g))) := rowR n cells par b km M row g B hg (by omega) hpl
                  conv => whnf
                  repeat ((first | refine ⟨gP_of ⟨by omega, by omega⟩, ?_⟩ | (refine ⟨(by rw [ints_length]; unfold AMAX; omega), fun q1 => ?_⟩) | (refine ⟨(by rw [List.length_append, ints_length]; unfold AMAX; show pre.length + 1 ≤ 4294967296; omega), fun q2 => ⟨_, .here _, ?_⟩⟩)
                                 | (refine QCall.k (QCall.more (QCall.frQ hrow _)) ?_)); conv => whnf)
                  rw [show ints pre ++ [[AV.int .i64 (g : Int)]] = ints (pre ++ [(g : Int)]) from by simp [ints], show (((u + 1 : Nat) : Int) - 1) = (u : Int) from by omega]
                  refine ACalls.tok (ih u (by omega) (pre ++ [(g : Int)]) S2 (extR par row g) o o2 _ _ M (ρ + 1) (B + 1) _ hrec (by omega) (by simp; omega) g2 (extM_spec g (by omega) hg).2 (by omega) hol hov hM fun ov' T' M' hov' hM' => ?_) (.cons (VLe.refl _) (.cons VLe.sl (VsLe.refl _)))
                  conv => whnf
                  repeat (refine ⟨gP_of ⟨by omega, by omega⟩, ?_⟩; conv => whnf)
                  exact ⟨_, by omega, g + 1, o2, ov', T', M', rfl, rfl, rfl, by omega, hov', hM', hx⟩
              · have hf2 : n ≤ g ∨ most ≤ o.length := by
                  simp only [Bool.and_eq_false_iff, decide_eq_false_iff_not, List.length_map] at hf2
                  first | omega | (rw [ho0]; omega)
                have hxo : o = out' := by
                  by_cases hgn : (g : Int) < n
                  · rw [drop_cons (upto_get hgn), lnGo, if_pos (by omega)] at hx
                    exact Option.some.inj hx
                  · rw [drop_nil (by rw [upto_len]; omega), lnGo] at hx
                    exact Option.some.inj hx
                subst hxo
                conv => whnf
                skip
                exact ⟨_, _, _, hov, hM, VLe.refl _, SubP.refl _⟩
            · conv => whnf
              repeat ((refine ⟨_, _, List.mem_append_left _ (.head _), rfl, ?_⟩); conv => whnf)
              refine ⟨fun hf2 => ?_, fun hf2 => ?_⟩
              · have hf2 : (g : Int) < n ∧ (o.length : Int) < most := by
                  simp only [Bool.and_eq_true, decide_eq_true_eq, List.length_map] at hf2
                  first | exact hf2 | (rw [ho0]; exact hf2)
                obtain ⟨hgn, hol⟩ := hf2
                rw [drop_cons (upto_get hgn), lnGo, if_neg (by omega)] at hx
                obtain ⟨S2, g1, g2, g3, g4⟩ := adv_spec e hF hF2 hS (g : Int)
                rw [g1] at hx
                simp only at hx
                conv => whnf
                repeat ((first | (refine ⟨_, _, List.mem_append_left _ (.head _), rfl, ?_⟩) | refine QCall.k0 (advance cells hc F S S2 (g : Int) (by omega) g1) ?_); conv => whnf)
                by_cases hS2 : S2 = []
                · rw [if_pos hS2] at hx
                  refine cF (by rw [hS2]; rfl) ?_
                  conv => whnf
                  repeat (refine ⟨gP_of ⟨by omega, by omega⟩, ?_⟩; conv => whnf)
                  exact ⟨_, by omega, g + 1, o, _, _, M, rfl, rfl, rfl, by omega, hov, hM, hx⟩
                · rw [if_neg hS2] at hx
                  refine cT (by cases S2 with | nil => exact absurd rfl hS2 | cons _ _ => simp) ?_
                  split at hx
                  · cases hx
                  rename_i o2 hrec
                  have hrow : QCall Try.prog 120 [.optr b 0, .sl 1 none (ints row), .int .i64 g] (wk n cells par b km M) (.sl 1 none (ints (extR par row g))) := rowR n cells par b km M row g B hg (by omega) hpl
                  conv => whnf
                  repeat ((first | refine ⟨gP_of ⟨by omega, by omega⟩, ?_⟩ | (refine ⟨(by rw [ints_length]; unfold AMAX; omega), fun q1 => ?_⟩) | (refine ⟨(by rw [List.length_append, ints_length]; unfold AMAX; show pre.length + 1 ≤ 4294967296; omega), fun q2 => ⟨_, .here _, ?_⟩⟩)
                                 | (refine QCall.k (QCall.more (QCall.frQ hrow _)) ?_)); conv => whnf)
                  rw [show ints pre ++ [[AV.int .i64 (g : Int)]] = ints (pre ++ [(g : Int)]) from by simp [ints], show (((u + 1 : Nat) : Int) - 1) = (u : Int) from by omega]
                  refine ACalls.tok (ih u (by omega) (pre ++ [(g : Int)]) S2 (extR par row g) o o2 _ _ M (ρ + 1) (B + 1) _ hrec (by omega) (by simp; omega) g2 (extM_spec g (by omega) hg).2 (by omega) hol hov hM fun ov' T' M' hov' hM' => ?_) (.cons (VLe.refl _) (.cons VLe.sl (VsLe.refl _)))
                  conv => whnf
                  repeat (refine ⟨gP_of ⟨by omega, by omega⟩, ?_⟩; conv => whnf)
                  exact ⟨_, by omega, g + 1, o2, ov', T', M', rfl, rfl, rfl, by omega, hov', hM', hx⟩
              · have hf2 : n ≤ g ∨ most ≤ o.length := by
                  simp only [Bool.and_eq_false_iff, decide_eq_false_iff_not, List.length_map] at hf2
                  first | omega | (rw [ho0]; omega)
                have hxo : o = out' := by
                  by_cases hgn : (g : Int) < n
                  · rw [drop_cons (upto_get hgn), lnGo, if_pos (by omega)] at hx
                    exact Option.some.inj hx
                  · rw [drop_nil (by rw [upto_len]; omega), lnGo] at hx
                    exact Option.some.inj hx
                subst hxo
                conv => whnf
                skip
                exact ⟨_, _, _, hov, hM, VLe.refl _, SubP.refl _⟩
end Go.Abs.Wall
set_option maxRecDepth 100000
set_option linter.unusedVariables false
namespace Go.Abs.Wall
open Go Go.Abs Go.Proofs
/-! ### First of the specification -/
def c59 : Cfg := ⟨[0, 1, 2, 3, 8, 9, 10, 11, 12, 13, 14, 15, 16, 17, 18, 19, 20, 31, 44, 66, 77, 93], [27, 53], [20], [], [], [54, 89]⟩
set_option maxHeartbeats 2000000 in
theorem firstR {n : Int} {cells : List Cel} {par : List Int} {N : Int} {F : Nat} {most : Int} {R : List Pos} {out : List Rst} {Tn : Nat} (e : CE n cells N) (hr : right n cells = true) (hc : CelsOK cells) (hpl : par.length ≤ 60) (hn0 : 0 ≤ n) (hn : n ≤ 1048576)
    (hF : 1000 ≤ F) (hF2 : F ≤ 19900) (hmost : most ≤ 1000) (hT : (Tn : Int) = N + 1) (hR : closeM cells F 0 [(0, 0)] = some R) (h0 : S0OK cells N R)
    (h : frOut n F cells par most R Tn (List.range (N.toNat + par.length + 1)) [] = some out) :
    QCall Try.prog 59 [.int .i64 n, .sl 3 none (cells.map encCel), .sl 1 none (ints par), .int .i64 most] [] (.sl 4 none (out.map encRst)) := by
  have hN0 : 0 ≤ N := by rw [← e.tot]; exact sum_nn e.mx
  have hsm := e.small
  have hcl := hc.len
  have eP := ints_length par
  refine QCall.of ?_
  refine fcalls (F := Try.f59) c59 rfl rfl rfl mixed rfl fun X => ?_
  conv => whnf
  intro km
  conv => whnf
  intro b
  conv => whnf
  refine sloop rfl mixed [1, 2, 3, 9, 10, 11] [] (fun m r h => ∃ (i : Nat) (s : Int), r = [(1, [], .sl 3 none (cells.map encCel)), (2, [], .sl 1 none (ints par)), (3, [], .int .i64 most), (9, [], .optr b 0), (10, [], .int .i64 s), (11, [], .int .i64 i)] ∧ h = wk n cells par b km [] ∧ m = cells.length - i ∧ i ≤ cells.length ∧ 0 ≤ s ∧ s + ((cells.drop i).map (·.mx)).sum = N) ?_ ?_
  · conv => whnf
    exact ⟨_, 0, 0, rfl, rfl, rfl, by omega, by omega, by rw [List.drop_zero, e.tot]; omega⟩
  · rintro m rr hh ⟨i, s, rfl, rfl, rfl, hi, hs0, hs⟩
    conv => whnf
    refine ⟨fun hf => ?_, fun hf => ?_⟩ <;> simp at hf
    · obtain ⟨c, hx⟩ := get_lt hf
      have hcm := e.mx c (List.mem_of_getElem? hx)
      have hcg := e.gap c (List.mem_of_getElem? hx)
      have hrest : 0 ≤ ((cells.drop (i + 1)).map (·.mx)).sum := sum_nn fun d hd => e.mx d (List.mem_of_mem_drop hd)
      rw [drop_cons hx, List.map_cons, List.sum_cons] at hs
      conv => whnf
      repeat ((first | refine ⟨gP_of ⟨by omega, by omega⟩, ?_⟩ | refine ix (by assumption) ?_); conv => whnf)
      exact ⟨_, by omega, i + 1, s + c.mx, rfl, rfl, rfl, by omega, by omega, by omega⟩
    · rw [drop_nil (by omega)] at hs
      have hsN : s = N := by simpa using hs
      subst hsN
      conv => whnf
      skip
      refine sloop rfl mixed [1, 2, 3, 9, 10, 12, 13] [(12, 1)] (fun m r h => ∃ (j : Nat) (q : Nat), r = [(1, [], .sl 3 none (cells.map encCel)), (2, [], .sl 1 none (ints par)), (3, [], .int .i64 most), (9, [], .optr b 0), (10, [], .int .i64 s), (12, [], .sl 1 (some q) (ints (upto j))), (13, [], .int .i64 j)] ∧ h = [(q, .tok)] ++ wk n cells par b km [] ∧ m = par.length + 1 - j ∧ j ≤ par.length + 1) ?_ ?_
      · conv => whnf
        refine ⟨by decide, fun q => ?_⟩
        conv => whnf
        exact ⟨_, 0, q, rfl, rfl, rfl, by omega⟩
      · rintro m rr hh ⟨j, q, rfl, rfl, rfl, hj⟩
        conv => whnf
        refine ⟨fun hf => ?_, fun hf => ?_⟩ <;> simp at hf
        · conv => whnf
          repeat ((first | refine ⟨gP_of ⟨by omega, by omega⟩, ?_⟩ | (refine ⟨(by rw [List.length_append, ints_length, upto_len]; show _ + 1 ≤ 4294967296; omega), fun q' => ⟨_, .here _, ?_⟩⟩)); conv => whnf)
          exact ⟨_, by omega, j + 1, q', by rw [upto_succ]; simp [ints], rfl, rfl, by omega⟩
        · have hjm : j = par.length + 1 := by omega
          subst hjm
          conv => whnf
          repeat (intro (nb : Nat); conv => whnf)
          show ACalls Try.prog 54 [.sl 3 none (cells.map encCel), .sl 2 (some nb) (([(0, 0)] : List Pos).map encPos)] ([(nb, Ob.tok)] ++ ([(q, .tok)] ++ wk n cells par b km [])) _
          refine ACalls.fr (closeSpots cells (by omega) F [(0, 0)] R nb (by simp; omega) hR) ?_
          rintro v h' ⟨q2, rfl, rfl⟩
          conv => whnf
          refine tloop rfl mixed [1, 2, 3, 9, 10, 12, 14, 15, 16] [(15, 4)] (fun m r h => ∃ (c : Nat) (q : Nat) (o : List Rst) (M : Mm), r = [(1, [], .sl 3 none (cells.map encCel)), (2, [], .sl 1 none (ints par)), (3, [], .int .i64 most), (9, [], .optr b 0), (10, [], .int .i64 s), (12, [], .sl 1 none (ints (upto ((par.length : Int) + 1)))), (14, [], .sl 2 none (R.map encPos)), (15, [], .sl 4 (some q) (o.map encRst)), (16, [], .int .i64 c)] ∧ h = wk n cells par b km M ++ [(q, .tok)] ∧ m = s.toNat + par.length + 1 - c ∧ c ≤ s.toNat + par.length + 1 ∧ MemoOK cells par M ∧ frOut n F cells par most R Tn ((List.range (s.toNat + par.length + 1)).drop c) o = some out) ?_ ?_
          · conv => whnf
            refine ⟨by decide, fun q3 => ?_⟩
            conv => whnf
            rw [show ((par.length + 1 : Nat) : Int) = (par.length : Int) + 1 from rfl]
            exact ⟨_, _, Turn.subP (.cons (VLe.refl _) (.cons (VLe.refl _) (.cons (VLe.refl _) (.cons (VLe.refl _) (.cons (VLe.refl _) (.cons VLe.sl (.cons VLe.sl (RLe.refl _)))))))) (.last _ _ _ (.skip _ (.skip _ (.refl _)))), _, 0, q3, [], [], rfl, rfl, rfl, by omega, (fun k v hk => by cases hk), by rw [List.drop_zero]; exact h⟩
          · rintro m rr hh ⟨c, q, o, M, rfl, rfl, rfl, hcc, hM, hx⟩
            have eo : (o.map encRst).length = o.length := by simp
            conv => whnf
            repeat (refine ⟨gP_of ⟨by omega, by omega⟩, ?_⟩; conv => whnf)
            refine ⟨fun hf2 => ?_, fun hf2 => ?_⟩
            · simp only [Bool.and_eq_true, decide_eq_true_eq] at hf2
              obtain ⟨k1, k2⟩ := hf2
              rw [drop_cons (show (List.range (s.toNat + par.length + 1))[c]? = some c from List.getElem?_range (by omega)), frOut, if_neg (by omega)] at hx
              split at hx
              · cases hx
              rename_i o2 hin
              conv => whnf
              skip
              refine tloop rfl mixed [1, 2, 3, 9, 10, 12, 14, 15, 16, 17] [] (fun m r h => ∃ (d : Nat) (q : Nat) (o : List Rst) (M : Mm), r = [(1, [], .sl 3 none (cells.map encCel)), (2, [], .sl 1 none (ints par)), (3, [], .int .i64 most), (9, [], .optr b 0), (10, [], .int .i64 s), (12, [], .sl 1 none (ints (upto ((par.length : Int) + 1)))), (14, [], .sl 2 none (R.map encPos)), (15, [], .sl 4 (some q) (o.map encRst)), (16, [], .int .i64 c), (17, [], .int .i64 d)] ∧ h = wk n cells par b km M ++ [(q, .tok)] ∧ m = Tn - d ∧ d ≤ Tn ∧ MemoOK cells par M ∧ frIn n F cells par most R c ((List.range Tn).drop d) o = some o2) ?_ ?_
              · conv => whnf
                exact ⟨_, _, Turn.refl _ _, _, 0, q, o, M, rfl, rfl, rfl, by omega, hM, by rw [List.drop_zero]; exact hin⟩
              · rintro m2 rr2 hh2 ⟨d, q, o, M, rfl, rfl, rfl, hrT, hM, hy⟩
                have eo : (o.map encRst).length = o.length := by simp
                conv => whnf
                skip
                refine ⟨fun hf3 => ?_, fun hf3 => ?_⟩
                · simp only [Bool.and_eq_true, decide_eq_true_eq] at hf3
                  obtain ⟨k3, k4⟩ := hf3
                  rw [drop_cons (show (List.range Tn)[d]? = some d from List.getElem?_range (by omega)), frIn, if_neg (by omega)] at hy
                  split at hy
                  · cases hy
                  rename_i ls hls
                  have hsp := linesM_spec e hF hF2 hpl (ch := c) (most := most - o.length) (by omega) d [] R (upto ((par.length : Int) + 1)) [] (most - o.length).toNat 0 par.length h0.si (row0_G par) (row0_lip par) (by omega) (by simp; omega) (by omega)
                  rw [LwR_start h0, hls] at hsp
                  have hlw : ∀ w ∈ ls, w.length ≤ 60 ∧ divide cells w ≠ none := by
                    intro w hw
                    have hsp := Option.some.inj hsp
                    rw [hsp, List.nil_append, show (fun x : List Int => ([] : List Int) ++ x) = fun x => x from rfl, List.map_id'] at hw
                    have hw := List.mem_of_mem_take hw
                    unfold linesR at hw
                    obtain ⟨w1, w2⟩ := List.mem_filter.1 hw
                    simp only [Bool.and_eq_true] at w2
                    refine ⟨by rw [words_len w w1]; omega, ?_⟩
                    unfold divide
                    rw [fit_acc hr, if_pos w2.1]
                    simp
                  conv => whnf
                  repeat (refine ⟨gP_of ⟨by omega, by omega⟩, ?_⟩; conv => whnf)
                  have hcall := fun K hK => linesS e hc hpl hn0 hn hF hF2 (by omega) (by omega) (b := b) (km := km) 200 d (by omega) [] R (upto ((par.length : Int) + 1)) [] ls .nilS [] M 0 par.length K hls (by omega) (by simp; omega) h0.si (row0_G par) (by omega) (by simp; omega) (.inl ⟨rfl, rfl, rfl⟩) hM hK
                  simp only [List.append_nil] at hcall
                  rw [eo]
                  refine ACalls.args (ACalls.fr (T := [(q, Ob.tok)]) (hcall (fun v h' => ∃ ov' T' M', LV ls ov' T' ∧ MemoOK cells par M' ∧ v = ov' ∧ h' = wk n cells par b km M' ++ T') fun ov' T' M' h1 h2 => ⟨ov', T', M', h1, h2, rfl, rfl⟩) ?_) (.cons (VLe.refl _) (.cons (VLe.nil (by decide)) (VsLe.refl _)))
                  rintro v h' ⟨lv, T2, M2, hlv, hM2, rfl, rfl⟩
                  conv => whnf
                  skip
                  refine tloop rfl mixed [1, 2, 3, 9, 10, 12, 14, 15, 16, 17, 18, 19] [] (fun m r h => ∃ (g : Nat) (q : Nat) (o3 : List Rst), r = [(1, [], .sl 3 none (cells.map encCel)), (2, [], .sl 1 none (ints par)), (3, [], .int .i64 most), (9, [], .optr b 0), (10, [], .int .i64 s), (12, [], .sl 1 none (ints (upto ((par.length : Int) + 1)))), (14, [], .sl 2 none (R.map encPos)), (15, [], .sl 4 (some q) (o3.map encRst)), (16, [], .int .i64 c), (17, [], .int .i64 d), (18, [], .sl 1 none (ls.map encL)), (19, [], .int .i64 g)] ∧ h = wk n cells par b km M2 ++ [(q, .tok)] ∧ m = ls.length - g ∧ g ≤ ls.length ∧ o3 = o ++ (ls.take g).map (restored cells par)) ?_ ?_
                  · conv => whnf
                    refine ⟨_, _, Turn.subP (.cons (VLe.refl _) (.cons (VLe.refl _) (.cons (VLe.refl _) (.cons (VLe.refl _) (.cons (VLe.refl _) (.cons (VLe.refl _) (.cons (VLe.refl _) (.cons (VLe.refl _) (.cons (VLe.refl _) (.cons (VLe.refl _) (.cons (y := .sl 1 none (ls.map encL)) ?_ (RLe.refl _)))))))))))) ?_, _, 0, q, o, rfl, rfl, rfl, by omega, by simp⟩
                    · rcases hlv with ⟨rfl, rfl, rfl⟩ | ⟨q5, rfl, rfl⟩
                      · exact VLe.nil (by decide)
                      · exact VLe.sl
                    · exact .of ((List.sublist_append_left _ _).append (.refl _))
                  · rintro m4 rr4 hh4 ⟨g, q, o3, rfl, rfl, rfl, hg, ho3⟩
                    conv => whnf
                    refine ⟨fun hf4 => ?_, fun hf4 => ?_⟩ <;> simp at hf4
                    · obtain ⟨w, hw⟩ := get_lt hf4
                      obtain ⟨w1, w2⟩ := hlw w (List.mem_of_getElem? hw)
                      have hwh := wholeR cells par w hc hpl w1
                      rw [if_neg w2, decide_eq_true w2] at hwh
                      have hll := congrArg List.length (Option.some.inj hsp)
                      simp only [List.nil_append, List.length_map, List.length_take] at hll
                      have hol : o3.length ≤ 2000000 := by
                        rw [ho3, List.length_append, List.length_map, List.length_take]
                        omega
                      conv => whnf
                      repeat ((first | refine ⟨gP_of ⟨by omega, by omega⟩, ?_⟩ | refine ix (by assumption) ?_ | (refine QCall.k0 hwh ?_) | (refine ⟨(by rw [List.length_append, List.length_map]; unfold AMAX; show _ + 1 ≤ 4294967296; omega), fun q' => ⟨_, Upd.app _ (.here _), ?_⟩⟩)
                                     | refine ⟨_, _, Rem.here _, ⟨Nat.le_of_ble_eq_true rfl, rfl⟩, ?_⟩ | intro (nb : Nat)); conv => whnf)
                      exact ⟨_, _, Turn.refl _ _, _, by omega, g + 1, q', o3 ++ [restored cells par w], by rw [List.map_append]; rfl, rfl, rfl, by omega, by rw [ho3, List.take_add_one, hw]; simp⟩
                    · rw [List.take_of_length_le (by omega)] at ho3
                      conv => whnf
                      repeat (refine ⟨gP_of ⟨by omega, by omega⟩, ?_⟩; conv => whnf)
                      rw [← ho3] at hy
                      exact ⟨_, _, Turn.refl _ _, _, by omega, d + 1, q, o3, M2, rfl, rfl, rfl, by omega, hM2, hy⟩
                · have hf3 : Tn ≤ d ∨ most ≤ o.length := by
                    simp only [Bool.and_eq_false_iff, decide_eq_false_iff_not] at hf3
                    omega
                  have hoo : o = o2 := by
                    by_cases hd : d < Tn
                    · rw [drop_cons (show (List.range Tn)[d]? = some d from List.getElem?_range hd), frIn, if_pos (by omega)] at hy
                      exact Option.some.inj hy
                    · rw [drop_nil (by simp; omega), frIn] at hy
                      exact Option.some.inj hy
                  subst hoo
                  conv => whnf
                  repeat (refine ⟨gP_of ⟨by omega, by omega⟩, ?_⟩; conv => whnf)
                  exact ⟨_, _, Turn.refl _ _, _, by omega, c + 1, q, o, M, rfl, rfl, rfl, by omega, hM, hx⟩
            · have hf2 : s.toNat + par.length + 1 ≤ c ∨ most ≤ o.length := by
                simp only [Bool.and_eq_false_iff, decide_eq_false_iff_not] at hf2
                omega
              have hoo : o = out := by
                by_cases hd : c < s.toNat + par.length + 1
                · rw [drop_cons (show (List.range (s.toNat + par.length + 1))[c]? = some c from List.getElem?_range hd), frOut, if_pos (by omega)] at hx
                  exact Option.some.inj hx
                · rw [drop_nil (by simp; omega), frOut] at hx
                  exact Option.some.inj hx
              subst hoo
              conv => whnf
              skip
              exact VLe.sl
end Go.Abs.Wall
set_option maxRecDepth 100000
set_option linter.unusedVariables false
namespace Go.Abs.Wall
open Go Go.Abs Go.Proofs Go.Proofs.Ytbgnfchlelhbeaa.Br
/-! ### List and Restore of the specification -/
theorem start_spec {n : Int} {cells : List Cel} {M : Int} (e : CE n cells M) {F : Nat} (hF : 1000 ≤ F) (hF2 : F ≤ 19900) : ∃ R, closeM cells F 0 [(0, 0)] = some R ∧ S0OK cells M R := by
  have hP0 : PV_ cells (0, 0) := by
    cases hc : cells with
    | nil => exact .inl rfl
    | cons c cs => exact .inr ⟨c, by simp, by simp, by simp, e.mx c (by rw [hc]; simp)⟩
  have hph := phRs_le cells [((0 : Int), (0 : Int))]
  have hcl := e.cl
  obtain ⟨R, h1, h2, h3⟩ := closeM_spec e.mx F 0 [(0, 0)] (fun p hp => by simp at hp; subst hp; exact hP0) (by simp) (by
    rw [List.drop_zero]; simp only [List.length_singleton, Nat.one_mul] at hph; omega) (fun j hj => by omega)
  simp only [List.length_singleton] at h3
  have hsi : SI cells M 0 R := by
    refine ⟨h2.pv, h2.nodup, h2.cl, fun p hp => ?_, by omega⟩
    have key : ∀ (k : Nat) (p : Pos), p ∈ R → p.1.toNat ≤ k → mu cells p + 0 ≤ M := by
      intro k
      induction k with
      | zero =>
        intro p hp hk
        rcases h2.gen p hp with g | ⟨q, hq, c, g0, g1, g2, rfl⟩
        · simp at g; subst g; rw [mu_top, e.tot]; omega
        · simp only at hk; omega
      | succ k ih =>
        intro p hp hk
        rcases h2.gen p hp with g | ⟨q, hq, c, g0, g1, g2, rfl⟩
        · simp at g; subst g; rw [mu_top, e.tot]; omega
        · have i1 := ih q hq (by simp only at hk; omega)
          have hqc : q.2 ≤ c.mx := by
            rcases h2.pv q hq with rfl | ⟨d, _, d1, _, d3⟩
            · have := (List.getElem?_eq_some_iff.1 g1).1; simp at this
            · rw [g1] at d1; cases d1; exact d3
          have := mu_next g0 g1 hqc
          omega
    exact key _ p hp (Nat.le_refl _)
  exact ⟨R, h1, hsi, fun w => by rw [h2.closes.acc w]; unfold AccL accP; simp⟩
/-- the specification's First gives the first lines -/
theorem firstRW (F : Nat) (hF : 1000 ≤ F) (hF2 : F ≤ 19900) {l : Lst} {cells : List Cel} {line par : List Int} {most : Int} (hc : CelsOK cells) (hl : l.signs.length ≤ 1048576) (hh : heavy l cells line = false) (hr : right l.signs.length cells = true) (hpl : par.length ≤ 60) (hm : 0 ≤ most) (hmost : most ≤ 1000) :
    QCall Try.prog 59 [.int .i64 l.signs.length, .sl 3 none (cells.map encCel), .sl 1 none (ints par), .int .i64 most] [] (.sl 4 none ((((allLines l.signs.length cells par).take most.toNat).map (restored cells par)).map encRst)) := by
  have e := light hh hr
  obtain ⟨R, h1, h2⟩ := start_spec e hF hF2
  have hN0 : 0 ≤ (cells.map (·.mx)).sum := sum_nn e.mx
  exact firstR e hr hc hpl (by omega) (by omega) hF hF2 hmost (Tn := ((cells.map (·.mx)).sum + 1).toNat) (by omega) h1 h2 (refFirst_spec e hr hF hF2 hpl h2 hm (by omega))
end Go.Abs.Wall
set_option maxRecDepth 100000
set_option linter.unusedVariables false
namespace Go.Abs.Wall
open Go Go.Abs Go.Proofs Go.Proofs.Ytbgnfchlelhbeaa.Br
/-! ### Choose -/
def rst0 : Rst := ⟨[], [], [], 0⟩
def rstZ : List AV := [.nilS, .nilS, .nilS, .int .i64 0]
/-- the best one so far, and how it lies there -/
def BST (r : Rst) (v : List AV) : Prop := (r = rst0 ∧ v = rstZ) ∨ v = encRst r
theorem BST.le {r : Rst} {v : List AV} (h : BST r v) : VsLe v (encRst r) := by
  have hN := VLe.nil (k := 1) (by decide)
  rcases h with ⟨rfl, rfl⟩ | rfl
  · exact .cons hN (.cons hN (.cons hN (VsLe.refl _)))
  · exact VsLe.refl _
end Go.Abs.Wall

