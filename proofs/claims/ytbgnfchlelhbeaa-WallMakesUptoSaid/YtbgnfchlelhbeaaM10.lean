/- What is proved: small laws for the walks of this seat, and contracts of its functions. No condition but those each theorem names. -/
import Derived.Test.YtbgnfchlelhbeaaM6
import Derived.Test.YtbgnfchlelhbeaaM8
set_option maxRecDepth 100000
set_option linter.unusedVariables false
namespace Go.Abs.Wall
open Go Go.Abs Go.Proofs
/-! ### the specification's search: spots -/
def c0_ : Cel := ⟨0, 0, []⟩
def closeM (cells : List Cel) : Nat → Nat → List Pos → Option (List Pos)
  | 0, i, l => if l.length ≤ i then some l else none
  | f + 1, i, l => match l[i]? with
    | none => some l
    | some s => if s.1 < 0 ∨ (cells.length : Int) < s.1 then none else
      if s.1 = cells.length ∨ s.2 < (cells.getD s.1.toNat c0_).mn then closeM cells f (i + 1) l else closeM cells f (i + 1) (if (s.1 + 1, 0) ∈ l then l else l ++ [(s.1 + 1, 0)])
theorem closeM_nil {cells : List Cel} : ∀ {f : Nat}, closeM cells f 0 [] = some []
  | 0 => rfl
  | f + 1 => rfl
theorem closeM_end {cells : List Cel} {l R : List Pos} {i : Nat} : ∀ {f : Nat}, l.length ≤ i → closeM cells f i l = some R → R = l
  | 0, hi, h => by rw [closeM, if_pos hi] at h; exact (Option.some.inj h).symm
  | f + 1, hi, h => by rw [closeM, List.getElem?_eq_none hi] at h; exact (Option.some.inj h).symm
theorem plain101 : plainT Try.prog 101 = true := by decide +kernel
def c54 : Cfg := ⟨[0, 1, 4, 5, 6, 7, 8, 9, 13, 35, 43, 56], [], [6, 7], [], [(5, [0, 1, 2, 3, 4, 5, 6, 7, 8, 9, 10, 11, 12, 13, 14, 15], []), (11, [0, 1, 2, 3, 4, 5, 6, 7, 8, 9], [])], []⟩
def c56 : Cfg := ⟨[0, 1, 2, 6, 7, 8, 9, 13, 45], [], [9], [], [(6, [0, 1, 2, 3, 4, 5, 6, 7, 8, 9, 10, 11, 12, 13, 14, 15, 16, 17, 18, 19, 20, 21, 22, 23, 24, 25], [])], []⟩
theorem closeSpots (cells : List Cel) (hc : cells.length ≤ 1048576) (F : Nat) (l0 R : List Pos) (q0 : Nat) (hl : l0.length + F ≤ 1048576) (hR : closeM cells F 0 l0 = some R) :
    ACalls Try.prog 54 [.sl 3 none (cells.map encCel), .sl 2 (some q0) (l0.map encPos)] [(q0, .tok)] (fun v h' => ∃ q, v = .sl 2 (some q) (R.map encPos) ∧ h' = [(q, .tok)]) := by
  refine fcalls (F := Try.f54) c54 rfl rfl rfl mixed rfl fun X => ?_
  conv => whnf
  refine sloop rfl mixed [0, 1, 5] [] (fun m r h => ∃ (f i q : Nat) (l : List Pos), r = [(0, [], .sl 3 none (cells.map encCel)), (1, [], .sl 2 (some q) (l.map encPos)), (5, [], .int .i64 i)] ∧ h = [(q, .tok)] ∧ m = f ∧ i ≤ l.length ∧ l.length + f ≤ 1048576 ∧ closeM cells f i l = some R) ?_ ?_
  · conv => whnf
    exact ⟨_, F, 0, q0, l0, rfl, rfl, rfl, by omega, by omega, hR⟩
  · rintro f r h ⟨_, i, q, l, rfl, rfl, rfl, hi, hlf, he⟩
    conv => whnf
    refine ⟨fun hf => ?_, fun hf => ?_⟩ <;> simp at hf
    · obtain ⟨s, hs⟩ := get_lt hf
      cases f with
      | zero => rw [closeM, if_neg (by omega)] at he; cases he
      | succ f =>
      rw [closeM, hs] at he
      simp only at he
      split at he
      · cases he
      rename_i hb
      have hcl : (cells.map encCel).length = cells.length := by simp
      conv => whnf
      repeat ((first | refine ix (by assumption) ?_ | (refine ixg c0_ ?_ ?_; (focus (conv => whnf; skip)); (focus (intro g1; have g1 := of_decide_eq_false g1; show 0 ≤ _ ∧ _ < _; omega)))
                     | refine ⟨_, _, Rem.here _, ⟨Nat.le_of_ble_eq_true rfl, rfl⟩, ?_⟩ | refine And.intro (by show drawOK (opsAt Try.f54 _) _ = true; decide +kernel) ?_ | intro (nb : Nat)); conv => whnf)
      refine ⟨fun hd => ?_, fun hd => ?_⟩
      · rw [if_pos (by simpa [-List.getD_eq_getElem?_getD] using hd)] at he
        conv => whnf
        repeat (refine ⟨gP_of ⟨by omega, by omega⟩, ?_⟩; conv => whnf)
        exact ⟨f, by omega, f, i + 1, q, l, rfl, rfl, rfl, by omega, by omega, he⟩
      · have hd2 : ¬ (s.1 = cells.length ∨ s.2 < (cells.getD s.1.toNat c0_).mn) := by
          rw [List.length_map] at hd
          intro h
          rcases h with h | h
          · rw [decide_eq_true h] at hd; cases hd
          · rw [decide_eq_true h, Bool.or_true] at hd; cases hd
        rw [if_neg hd2] at he
        conv => whnf
        repeat ((first | refine ⟨gP_of ⟨by omega, by omega⟩, ?_⟩ | refine ⟨_, _, Rem.here _, ⟨Nat.le_of_ble_eq_true rfl, rfl⟩, ?_⟩ | intro (nb : Nat)); conv => whnf)
        refine sloop rfl mixed [0, 1, 5, 7, 8, 9] [] (fun m r h => ∃ (k : Nat), r = [(0, [], .sl 3 none (cells.map encCel)), (1, [], .sl 2 (some q) (l.map encPos)), (5, [], .int .i64 i), (7, [], .iptr (encPos (s.1 + 1, 0))), (8, [], .bool (decide ((s.1 + 1, (0 : Int)) ∈ l.take k))), (9, [], .int .i64 k)] ∧ h = [(q, .tok)] ∧ m = l.length - k ∧ k ≤ l.length) ?_ ?_
        · conv => whnf
          exact ⟨_, 0, by simp; rfl, rfl, rfl, by omega⟩
        · rintro m rr hh ⟨k, rfl, rfl, rfl, hk⟩
          conv => whnf
          refine ⟨fun hf1 => ?_, fun hf1 => ?_⟩ <;> simp at hf1
          · obtain ⟨y, hy⟩ := get_lt hf1
            have hyk : (decide ((s.1 + 1, (0 : Int)) ∈ l.take k) || (decide (y.1 = s.1 + 1) && (decide (y.2 = 0) && true))) = decide ((s.1 + 1, (0 : Int)) ∈ l.take (k + 1)) := by
              rw [List.take_add_one, hy, Bool.eq_iff_iff]
              simp only [Bool.or_eq_true, Bool.and_eq_true, decide_eq_true_eq, List.mem_append, Option.toList, List.mem_singleton, Prod.ext_iff, and_true]
              exact ⟨fun h => h.elim .inl (fun h => .inr ⟨h.1.symm, h.2.symm⟩), fun h => h.elim .inl (fun h => .inr ⟨h.1.symm, h.2.symm⟩)⟩
            conv => whnf
            repeat ((first | refine ⟨gP_of ⟨by omega, by omega⟩, ?_⟩ | refine ix (by assumption) ?_ | (refine ⟨plain101, ?_⟩) | refine And.intro (by show drawOK (opsAt Try.f54 _) _ = true; decide +kernel) ?_); conv => whnf)
            exact ⟨_, by omega, k + 1, by rw [← hyk]; rfl, rfl, rfl, by omega⟩
          · have hkl : l.take k = l := List.take_of_length_le (by omega)
            rw [hkl]
            conv => whnf
            refine ⟨fun hm => ?_, fun hm => ?_⟩
            · have hm : ¬ (s.1 + 1, (0 : Int)) ∈ l := by simpa using hm
              rw [if_neg hm] at he
              conv => whnf
              repeat ((first | refine ⟨gP_of ⟨by omega, by omega⟩, ?_⟩ | (refine ⟨(by rw [List.length_append, List.length_map]; show _ + 1 ≤ 4294967296; omega), fun q' => ⟨_, .here _, ?_⟩⟩)); conv => whnf)
              exact ⟨f, by omega, f, i + 1, q', l ++ [(s.1 + 1, 0)], by simp [encPos], rfl, rfl, by simp; omega, by simp; omega, he⟩
            · have hm : (s.1 + 1, (0 : Int)) ∈ l := by simpa using hm
              rw [if_pos hm] at he
              conv => whnf
              repeat (refine ⟨gP_of ⟨by omega, by omega⟩, ?_⟩; conv => whnf)
              exact ⟨f, by omega, f, i + 1, q, l, rfl, rfl, rfl, by omega, by omega, he⟩
    · rw [closeM_end hf he]
      conv => whnf
      exact ⟨q, rfl, rfl⟩
theorem closeNil (cells : List Cel) : ACalls Try.prog 54 [.sl 3 none (cells.map encCel), .nilS] [] (fun v h' => v = .nilS ∧ h' = []) := by
  refine fcalls (F := Try.f54) c54 rfl rfl rfl mixed rfl fun X => ?_
  conv => whnf
  refine sloop rfl mixed [0, 1, 5] [] (fun m r h => r = [(0, [], .sl 3 none (cells.map encCel)), (1, [], .nilS), (5, [], .int .i64 0)] ∧ h = [] ∧ m = 0 ∧ True) ?_ ?_
  · conv => whnf
    exact ⟨_, rfl, rfl, rfl, trivial⟩
  · rintro m r h ⟨rfl, rfl, rfl, _⟩
    conv => whnf
    refine cF rfl ?_
    conv => whnf
    exact ⟨rfl, rfl⟩
def stepR (cells : List Cel) (sign : Int) : List Pos → Option (List Pos)
  | [] => some []
  | s :: l => if s.1 < 0 ∨ (cells.length : Int) < s.1 ∨ s.2 < 0 ∨ 1048576 < s.2 then none else
    if s.1 = cells.length ∨ s.2 = (cells.getD s.1.toNat c0_).mx ∨ allows (cells.getD s.1.toNat c0_) sign = false then stepR cells sign l else (stepR cells sign l).map ((s.1, s.2 + 1) :: ·)
def advM (F : Nat) (cells : List Cel) (l : List Pos) (sign : Int) : Option (List Pos) := match stepR cells sign l with
  | none => none
  | some o => closeM cells F 0 o
theorem stepR_len {cells : List Cel} {sign : Int} : ∀ {l o : List Pos}, stepR cells sign l = some o → o.length ≤ l.length
  | [], o, h => by cases h; simp
  | s :: l, o, h => by
    rw [stepR] at h
    split at h
    · cases h
    · split at h
      · have := stepR_len h; simp only [List.length_cons]; omega
      · cases hs : stepR cells sign l with
        | none => rw [hs] at h; cases h
        | some o' => rw [hs] at h; cases h; have := stepR_len hs; simp only [List.length_cons]; omega
/-- a list of spots that grows: nil, or with its token -/
def SV (l : List Pos) (v : AV) (T : Heap) : Prop := (l = [] ∧ v = .nilS ∧ T = []) ∨ ∃ q, v = .sl 2 (some q) (l.map encPos) ∧ T = [(q, .tok)]
theorem advance (cells : List Cel) (hc : CelsOK cells) (F : Nat) (l R : List Pos) (sign : Int) (hl : l.length + F ≤ 1048576) (hR : advM F cells l sign = some R) :
    QCall Try.prog 56 [.sl 3 none (cells.map encCel), .sl 2 none (l.map encPos), .int .i64 sign] [] (.sl 2 none (R.map encPos)) := by
  unfold advM at hR
  split at hR
  · cases hR
  rename_i o ho
  have hol := stepR_len ho
  have hcl := hc.len
  refine QCall.of ?_
  refine fcalls (F := Try.f56) c56 rfl rfl rfl mixed rfl fun X => ?_
  conv => whnf
  refine sloop rfl mixed [0, 1, 2, 7, 8] [] (fun m r h => ∃ (i : Nat) (a : List Pos) (v : AV) (T : Heap), r = [(0, [], .sl 3 none (cells.map encCel)), (1, [], .sl 2 none (l.map encPos)), (2, [], .int .i64 sign), (7, [], v), (8, [], .int .i64 i)] ∧ h = T ∧ m = l.length - i ∧ i ≤ l.length ∧ a.length ≤ i ∧ SV a v T ∧ (stepR cells sign (l.drop i)).map (a ++ ·) = some o) ?_ ?_
  · conv => whnf
    exact ⟨_, 0, [], .nilS, [], rfl, rfl, rfl, by omega, by simp, .inl ⟨rfl, rfl, rfl⟩, by simp [ho]⟩
  · rintro m r h ⟨i, a, v, T, rfl, rfl, rfl, hi, hal, hv, hs⟩
    conv => whnf
    refine ⟨fun hf => ?_, fun hf => ?_⟩ <;> simp at hf
    · obtain ⟨s, hx⟩ := get_lt hf
      rw [drop_cons hx, stepR] at hs
      split at hs
      · cases hs
      rename_i hb
      have hsg : (cells.getD s.1.toNat c0_).signs.length ≤ LMAX := by
        have := getD_signs hc s.1.toNat; exact this
      conv => whnf
      repeat ((first | refine ix (by assumption) ?_ | (refine ixg c0_ ?_ ?_; (focus (conv => whnf; skip)); (focus (first | (intro g1; have g1 := of_decide_eq_false g1; rw [List.length_map] at g1; show 0 ≤ _ ∧ _ < _; omega) | (intro g1; have g1 := (Bool.or_eq_false_iff.1 g1).1; have g1 := of_decide_eq_false g1; rw [List.length_map] at g1; show 0 ≤ _ ∧ _ < _; omega))))
                     | refine gcall (allowsR (cells.getD s.1.toNat c0_) sign hsg) ?_ | refine ⟨_, _, Rem.here _, ⟨Nat.le_of_ble_eq_true rfl, rfl⟩, ?_⟩ | refine And.intro (by show drawOK (opsAt Try.f56 _) _ = true; decide +kernel) ?_
                     | intro (nb : Nat)); conv => whnf)
      have hcond : (decide (s.1 = ((cells.map encCel).length : Int)) || decide (s.2 = (cells.getD s.1.toNat c0_).mx) || !allows (cells.getD s.1.toNat c0_) sign) = decide (s.1 = cells.length ∨ s.2 = (cells.getD s.1.toNat c0_).mx ∨ allows (cells.getD s.1.toNat c0_) sign = false) := by
        rw [List.length_map, Bool.eq_iff_iff]
        simp only [Bool.or_eq_true, decide_eq_true_eq, Bool.not_eq_true', or_assoc]
      rw [hcond]
      refine ⟨fun hd => ?_, fun hd => ?_⟩
      · rw [if_pos (of_decide_eq_true hd)] at hs
        conv => whnf
        repeat (refine ⟨gP_of ⟨by omega, by omega⟩, ?_⟩; conv => whnf)
        exact ⟨_, by omega, i + 1, a, v, _, rfl, rfl, rfl, by omega, by omega, hv, hs⟩
      · rw [if_neg (of_decide_eq_false hd)] at hs
        have hs2 : (stepR cells sign (l.drop (i + 1))).map ((a ++ [(s.1, s.2 + 1)]) ++ ·) = some o := by
          rw [← hs]
          cases stepR cells sign (l.drop (i + 1)) <;> simp
        rcases hv with ⟨rfl, rfl, rfl⟩ | ⟨q, rfl, rfl⟩
        · conv => whnf
          repeat ((first | refine ⟨gP_of ⟨by omega, by omega⟩, ?_⟩ | (refine ⟨(by show 1 ≤ 4294967296; omega), fun q' => ?_⟩)); conv => whnf)
          exact ⟨_, by omega, i + 1, _, _, _, rfl, rfl, rfl, by omega, by simp, .inr ⟨q', rfl, rfl⟩, hs2⟩
        · conv => whnf
          repeat ((first | refine ⟨gP_of ⟨by omega, by omega⟩, ?_⟩ | (refine ⟨(by rw [List.length_append, List.length_map]; show _ + 1 ≤ 4294967296; omega), fun q' => ⟨_, .here _, ?_⟩⟩)); conv => whnf)
          exact ⟨_, by omega, i + 1, _, _, _, rfl, rfl, rfl, by omega, by simp; omega, .inr ⟨q', by rw [List.map_append]; rfl, rfl⟩, hs2⟩
    · rw [drop_nil hf, stepR] at hs
      have hao : a = o := by simpa using hs
      subst hao
      rcases hv with ⟨rfl, rfl, rfl⟩ | ⟨q, rfl, rfl⟩
      · have hR0 : R = [] := by rw [closeM_nil] at hR; exact (Option.some.inj hR).symm
        subst hR0
        conv => whnf
        refine ACalls.mono ?_ (closeNil cells)
        rintro v h' ⟨rfl, rfl⟩
        conv => whnf
        exact VLe.nil (by decide)
      · conv => whnf
        refine ACalls.mono ?_ (closeSpots cells (by omega) F a R q (by omega) hR)
        rintro v h' ⟨q', rfl, rfl⟩
        conv => whnf
        exact VLe.sl
def sameB (a b : List Pos) : Bool := decide (a.length = b.length) && a.all fun x => decide (x ∈ b)
end Go.Abs.Wall
set_option maxRecDepth 100000
set_option linter.unusedVariables false
namespace Go.Abs.Wall
open Go Go.Abs Go.Proofs
/-! ### Count of the specification -/
abbrev SW := List (List Pos × Int)
end Go.Abs.Wall
set_option maxRecDepth 100000
set_option linter.unusedVariables false
namespace Go.Abs.Wall
open Go Go.Abs Go.Proofs
/-! ### theory: the sets of the specification -/
theorem nodup_sub {α : Type} [DecidableEq α] : ∀ {l m : List α}, l.Nodup → (∀ x ∈ l, x ∈ m) → l.length ≤ m.length
  | [], m, _, _ => Nat.zero_le _
  | x :: l, m, hn, h => by
    have hx : x ∈ m := h x (by simp)
    rw [List.nodup_cons] at hn
    have := nodup_sub (l := l) (m := m.erase x) hn.2 fun y hy => (List.mem_erase_of_ne (fun e => hn.1 (by subst e; exact hy))).2 (h y (by simp [hy]))
    rw [List.length_erase_of_mem hx] at this
    have := List.length_pos_of_mem hx
    simp only [List.length_cons]; omega
/-- the positions that a sign leads to -/
def LPg : List Cel → Int → List Pos
  | [], _ => []
  | c :: cs, i => (List.range c.mx.toNat).map (fun (k : Nat) => (i, (k : Int) + 1)) ++ LPg cs (i + 1)
theorem LPg_len : ∀ (cs : List Cel) (i : Int), (∀ c ∈ cs, 0 ≤ c.mx) → ((LPg cs i).length : Int) = (cs.map (·.mx)).sum
  | [], i, _ => rfl
  | c :: cs, i, h => by
    have h1 := LPg_len cs (i + 1) fun d hd => h d (by simp [hd])
    have h2 := h c (by simp)
    rw [LPg, List.length_append, List.length_map, List.length_range, List.map_cons, List.sum_cons]; omega
theorem mem_LPg : ∀ (cs : List Cel) (i : Int) (j : Nat) (c : Cel) (k : Int), cs[j]? = some c → 1 ≤ k → k ≤ c.mx → (i + j, k) ∈ LPg cs i
  | [], i, j, c, k, h, _, _ => by simp at h
  | d :: cs, i, 0, c, k, h, h1, h2 => by
    rw [List.getElem?_cons_zero] at h
    cases h
    rw [LPg, List.mem_append]
    exact .inl (List.mem_map.2 ⟨(k - 1).toNat, List.mem_range.2 (by omega), by congr 1 <;> omega⟩)
  | d :: cs, i, j + 1, c, k, h, h1, h2 => by
    rw [List.getElem?_cons_succ] at h
    have := mem_LPg cs (i + 1) j c k h h1 h2
    rw [LPg, List.mem_append]
    right
    rw [show i + ((j + 1 : Nat) : Int) = i + 1 + j from by omega]; exact this
theorem LP_of {cells : List Cel} {p : Pos} (hp : PV_ cells p) (h1 : 1 ≤ p.2) : p ∈ LPg cells 0 := by
  rcases hp with rfl | ⟨c, h0, hc, _, h2⟩
  · simp at h1
  · have := mem_LPg cells 0 p.1.toNat c p.2 hc h1 h2
    rw [show (0 : Int) + (p.1.toNat : Int) = p.1 from by omega] at this; exact this
/-- a closed list of spots -/
structure CR (cells : List Cel) (l R : List Pos) : Prop where
  sub : ∀ p ∈ l, p ∈ R
  pv : ∀ p ∈ R, PV_ cells p
  nodup : R.Nodup
  cl : Clsd cells R
  gen : ∀ p ∈ R, p ∈ l ∨ ∃ q ∈ R, ∃ c, 0 ≤ q.1 ∧ cells[q.1.toNat]? = some c ∧ c.mn ≤ q.2 ∧ p = (q.1 + 1, 0)
def phR (cells : List Cel) (p : Pos) : Nat := (cells.length - p.1.toNat) + 1
def phRs (cells : List Cel) (l : List Pos) : Nat := (l.map (phR cells)).sum
theorem phRs_le (cells : List Cel) : ∀ l : List Pos, phRs cells l ≤ l.length * (cells.length + 1)
  | [] => by simp [phRs]
  | p :: l => by
    have := phRs_le cells l
    unfold phRs at this ⊢
    rw [List.map_cons, List.sum_cons, List.length_cons, Nat.succ_mul]
    unfold phR at this ⊢; omega
theorem phRs_app (cells : List Cel) (a b : List Pos) : phRs cells (a ++ b) = phRs cells a + phRs cells b := by unfold phRs; rw [List.map_append, List.sum_append]
theorem closeM_spec {cells : List Cel} (hm : ∀ c ∈ cells, 0 ≤ c.mx) : ∀ (f i : Nat) (l : List Pos), (∀ p ∈ l, PV_ cells p) → l.Nodup → phRs cells (l.drop i) ≤ f →
    (∀ j, j < i → ∀ p, l[j]? = some p → ∀ c, 0 ≤ p.1 → cells[p.1.toNat]? = some c → c.mn ≤ p.2 → (p.1 + 1, (0 : Int)) ∈ l) → ∃ R, closeM cells f i l = some R ∧ CR cells l R ∧ R.length ≤ l.length + f
  | 0, i, l, hv, hn, hf, hp => by
    have hi : l.length ≤ i := by
      cases hd : l.drop i with
      | nil => exact List.drop_eq_nil_iff.1 hd
      | cons p t => rw [hd] at hf; simp [phRs, phR] at hf
    refine ⟨l, by rw [closeM, if_pos hi], ⟨fun p h => h, hv, hn, fun p hpm c h0 h1 h2 => ?_, fun p h => .inl h⟩, Nat.le_refl _⟩
    obtain ⟨j, hj, e⟩ := List.getElem_of_mem hpm
    exact hp j (by omega) p (by rw [List.getElem?_eq_getElem hj, e]) c h0 h1 h2
  | f + 1, i, l, hv, hn, hf, hp => by
    rw [closeM]
    cases hs : l[i]? with
    | none =>
      have hi : l.length ≤ i := List.getElem?_eq_none_iff.1 hs
      refine ⟨l, rfl, ⟨fun p h => h, hv, hn, fun p hpm c h0 h1 h2 => ?_, fun p h => .inl h⟩, by omega⟩
      obtain ⟨j, hj, e⟩ := List.getElem_of_mem hpm
      exact hp j (by omega) p (by rw [List.getElem?_eq_getElem hj, e]) c h0 h1 h2
    | some s =>
      have hsm := List.mem_of_getElem? hs
      have hsv := hv s hsm
      have hil := (List.getElem?_eq_some_iff.1 hs).1
      rw [drop_cons hs] at hf
      have hf : phR cells s + phRs cells (l.drop (i + 1)) ≤ f + 1 := by unfold phRs at hf ⊢; rw [List.map_cons, List.sum_cons] at hf; exact hf
      simp only
      rcases hsv with rfl | ⟨c, h0, hc, h1, h2⟩
      · rw [if_neg (by simp), if_pos (.inl rfl)]
        obtain ⟨R, e, hR, hl⟩ := closeM_spec hm f (i + 1) l hv hn (by unfold phR at hf; omega) (fun j hj p hpj c h0 h1 h2 => by
          by_cases hji : j = i
          · subst hji; rw [hs] at hpj; cases hpj
            have := (List.getElem?_eq_some_iff.1 h1).1; simp at this
          · exact hp j (by omega) p hpj c h0 h1 h2)
        exact ⟨R, e, hR, by omega⟩
      · have hlt := (List.getElem?_eq_some_iff.1 hc).1
        have hgd : cells.getD s.1.toNat c0_ = c := by simp [List.getD, hc]
        rw [if_neg (by omega), hgd]
        by_cases hmn : s.2 < c.mn
        · rw [if_pos (.inr hmn)]
          obtain ⟨R, e, hR, hl⟩ := closeM_spec hm f (i + 1) l hv hn (by unfold phR at hf; omega) (fun j hj p hpj d h0 h1 h2 => by
            by_cases hji : j = i
            · subst hji; rw [hs] at hpj; cases hpj
              rw [hc] at h1; cases h1; omega
            · exact hp j (by omega) p hpj d h0 h1 h2)
          exact ⟨R, e, hR, by omega⟩
        · rw [if_neg (by omega)]
          have hnx : PV_ cells (s.1 + 1, 0) := PV_next hm h0 hc
          by_cases hin : (s.1 + 1, (0 : Int)) ∈ l
          · rw [if_pos hin]
            obtain ⟨R, e, hR, hl⟩ := closeM_spec hm f (i + 1) l hv hn (by unfold phR at hf; omega) (fun j hj p hpj d h0 h1 h2 => by
              by_cases hji : j = i
              · subst hji; rw [hs] at hpj; cases hpj; exact hin
              · exact hp j (by omega) p hpj d h0 h1 h2)
            exact ⟨R, e, hR, by omega⟩
          · rw [if_neg hin]
            obtain ⟨R, e, hR, hl⟩ := closeM_spec hm f (i + 1) (l ++ [(s.1 + 1, 0)]) (fun p hp => by
                rcases List.mem_append.1 hp with h | h
                · exact hv p h
                · simp at h; subst h; exact hnx)
              (by rw [List.nodup_append]; exact ⟨hn, by simp, fun a ha b hb e => by simp at hb; subst hb; subst e; exact hin ha⟩)
              (by rw [List.drop_append_of_le_length (by omega), phRs_app]
                  have : phRs cells [(s.1 + 1, (0 : Int))] = phR cells (s.1 + 1, 0) := by simp [phRs]
                  rw [this]; unfold phR at hf ⊢; simp only; omega) (fun j hj p hpj d g0 g1 g2 => by
              rw [List.mem_append]
              by_cases hji : j = i
              · subst hji; rw [List.getElem?_append_left hil, hs] at hpj; cases hpj; exact .inr (by simp)
              · rw [List.getElem?_append_left (by omega)] at hpj
                exact .inl (hp j (by omega) p hpj d g0 g1 g2))
            refine ⟨R, e, ⟨fun p hp => hR.sub p (by simp [hp]), hR.pv, hR.nodup, hR.cl, fun p hp => ?_⟩, by rw [List.length_append] at hl; simp at hl; omega⟩
            rcases hR.gen p hp with h | h
            · rcases List.mem_append.1 h with h | h
              · exact .inl h
              · simp at h; exact .inr ⟨s, hR.sub s (by simp [hsm]), c, h0, hc, by omega, h⟩
            · exact .inr h
theorem CR.closes {cells : List Cel} {l R : List Pos} (h : CR cells l R) : Closes cells l R := by
  refine ⟨h.sub, h.pv, h.cl, fun p hp w ha => ?_⟩
  have key : ∀ (n : Nat) (p : Pos), p ∈ R → p.1.toNat ≤ n → accP cells p w = true → AccL cells l w = true := by
    intro n
    induction n with
    | zero =>
      intro p hp hn ha
      rcases h.gen p hp with h1 | ⟨q, hq, c, h0, hc, h2, rfl⟩
      · exact AccL_iff.2 ⟨p, h1, ha⟩
      · simp only at hn; omega
    | succ n ih =>
      intro p hp hn ha
      rcases h.gen p hp with h1 | ⟨q, hq, c, h0, hc, h2, rfl⟩
      · exact AccL_iff.2 ⟨p, h1, ha⟩
      · exact ih q hq (by simp only at hn; omega) (accP_eps h0 hc h2 ha)
  exact key _ p hp (Nat.le_refl _) ha
theorem stepR_eq {cells : List Cel} {s : Int} (hg : ∀ c ∈ cells, c.mx ≤ 9) : ∀ {l : List Pos}, (∀ p ∈ l, PV_ cells p) → stepR cells s l = some (stepL cells s l)
  | [], _ => rfl
  | p :: l, h => by
    have ih := stepR_eq hg (l := l) (s := s) fun q hq => h q (by simp [hq])
    rw [stepR, ih]
    unfold stepL
    rw [List.filterMap_cons]
    rcases h p (by simp) with rfl | ⟨c, h0, hc, h1, h2⟩
    · rw [if_neg (by simp), if_pos (.inl rfl), if_neg (by simp)]
    · have hlt := (List.getElem?_eq_some_iff.1 hc).1
      have hgd : cells.getD p.1.toNat c0_ = c := by simp [List.getD, hc]
      have h9 := hg c (List.mem_of_getElem? hc)
      rw [if_neg (by omega), hgd, getD_of hc]
      by_cases hcond : p.2 < c.mx ∧ allows c s = true
      · rw [if_neg (by rintro (h | h | h); omega; omega; rw [hcond.2] at h; cases h), if_pos ⟨by omega, hcond⟩]; rfl
      · rw [if_pos (by
          by_cases ha : allows c s = true
          · exact .inr (.inl (by have : ¬ p.2 < c.mx := fun h => hcond ⟨h, ha⟩; omega))
          · exact .inr (.inr (by simpa using ha))), if_neg (fun h => hcond h.2)]
theorem stepL_nodup {cells : List Cel} {s : Int} {l : List Pos} (h : l.Nodup) : (stepL cells s l).Nodup := by
  unfold stepL
  rw [List.nodup_iff_pairwise_ne] at *
  refine List.Pairwise.filterMap _ (fun a a' hne b hb b' hb' e => ?_) h
  split at hb
  · split at hb'
    · cases hb; subst e
      rw [Option.some.injEq, Prod.mk.injEq] at hb'
      exact hne (Prod.ext (by omega) (by omega))
    · cases hb'
  · cases hb
end Go.Abs.Wall
set_option maxRecDepth 100000
set_option linter.unusedVariables false
namespace Go.Abs.Wall
open Go Go.Abs Go.Proofs
/-! ### theory: the count of the specification -/
/-- a set of the search at depth r: closed, apart, with at most M - r signs to come -/
structure SI (cells : List Cel) (M : Int) (r : Int) (S : List Pos) : Prop where
  pv : ∀ p ∈ S, PV_ cells p
  nodup : S.Nodup
  cl : Clsd cells S
  mu : ∀ p ∈ S, mu cells p + r ≤ M
  len : S.length ≤ 20000
/-- a set that a sign leads to -/
def GenS (cells : List Cel) (S : List Pos) : Prop := ∀ p ∈ S, 1 ≤ p.2 ∨ ∃ q ∈ S, ∃ c, 0 ≤ q.1 ∧ cells[q.1.toNat]? = some c ∧ c.mn ≤ q.2 ∧ p = (q.1 + 1, 0)
theorem GenS.sub {cells : List Cel} {S T : List Pos} (h : GenS cells S) (hc : Clsd cells T) (hl : ∀ p ∈ S, 1 ≤ p.2 → p ∈ T) : ∀ p ∈ S, p ∈ T := by
  intro p hp
  have key : ∀ (n : Nat) (p : Pos), p ∈ S → p.1.toNat ≤ n → p ∈ T := by
    intro n
    induction n with
    | zero =>
      intro p hp hn
      rcases h p hp with h1 | ⟨q, hq, c, h0, hcc, h2, rfl⟩
      · exact hl p hp h1
      · simp only at hn; omega
    | succ n ih =>
      intro p hp hn
      rcases h p hp with h1 | ⟨q, hq, c, h0, hcc, h2, rfl⟩
      · exact hl p hp h1
      · exact hc q (ih q hq (by simp only at hn; omega)) c h0 hcc h2
  exact key _ p hp (Nat.le_refl _)
def codeS (cells : List Cel) (S : List Pos) : List Bool := (LPg cells 0).map fun p => decide (p ∈ S)
theorem code_mem {cells : List Cel} {S T : List Pos} (hv : ∀ p ∈ S, PV_ cells p) (h : codeS cells S = codeS cells T) : ∀ p ∈ S, 1 ≤ p.2 → p ∈ T := by
  intro p hp h1
  have hm := LP_of (hv p hp) h1
  unfold codeS at h
  have := List.map_inj_left.1 h p hm
  simpa [hp] using this
theorem code_same {cells : List Cel} {M r : Int} {S T : List Pos} (hS : SI cells M r S) (hT : SI cells M r T) (gS : GenS cells S) (gT : GenS cells T) (h : codeS cells S = codeS cells T) : sameB S T = true := by
  have h1 := gS.sub hT.cl (code_mem hS.pv h)
  have h2 := gT.sub hS.cl (code_mem hT.pv h.symm)
  have l1 := nodup_sub hS.nodup h1
  have l2 := nodup_sub hT.nodup h2
  unfold sameB
  rw [Bool.and_eq_true, decide_eq_true_eq, List.all_eq_true]
  exact ⟨by omega, fun x hx => by simpa using h1 x hx⟩
def bits : Nat → List (List Bool)
  | 0 => [[]]
  | d + 1 => (bits d).map (true :: ·) ++ (bits d).map (false :: ·)
theorem bits_len : ∀ d, (bits d).length = 2 ^ d
  | 0 => rfl
  | d + 1 => by rw [bits, List.length_append, List.length_map, List.length_map, bits_len d, Nat.pow_succ]; omega
theorem mem_bits : ∀ l : List Bool, l ∈ bits l.length
  | [] => by simp [bits]
  | true :: l => by rw [List.length_cons, bits, List.mem_append]; exact .inl (List.mem_map.2 ⟨l, mem_bits l, rfl⟩)
  | false :: l => by rw [List.length_cons, bits, List.mem_append]; exact .inr (List.mem_map.2 ⟨l, mem_bits l, rfl⟩)
/-- the next depth's sets -/
structure NX (cells : List Cel) (M r : Int) (nx : SW) : Prop where
  si : ∀ x ∈ nx, SI cells M r x.1 ∧ GenS cells x.1 ∧ 0 ≤ x.2 ∧ x.1 ≠ []
  ne : nx.Pairwise fun a b => sameB a.1 b.1 = false
theorem NX.len {cells : List Cel} {M r : Int} {nx : SW} (h : NX cells M r nx) (hl : (LPg cells 0).length ≤ 14) : nx.length ≤ 16384 := by
  have hn : (nx.map fun x => codeS cells x.1).Nodup := by
    rw [List.nodup_iff_pairwise_ne, List.pairwise_map]
    refine h.ne.imp_of_mem fun {a b} ha hb hab e => ?_
    have h1 := h.si a ha; have h2 := h.si b hb
    rw [code_same h1.1 h2.1 h1.2.1 h2.2.1 e] at hab
    cases hab
  have := nodup_sub (m := bits (LPg cells 0).length) hn fun c hc => by
    obtain ⟨x, _, rfl⟩ := List.mem_map.1 hc
    have := mem_bits (codeS cells x.1)
    rwa [show (codeS cells x.1).length = (LPg cells 0).length from by simp [codeS]] at this
  rw [List.length_map, bits_len] at this
  have h2 : 2 ^ (LPg cells 0).length ≤ 2 ^ 14 := Nat.pow_le_pow_right (by decide) hl
  have h3 : 2 ^ 14 = 16384 := by decide
  omega
/-- what the search needs of the cells -/
structure CE (n : Int) (cells : List Cel) (M : Int) : Prop where
  mx : ∀ c ∈ cells, 0 ≤ c.mx
  gap : ∀ c ∈ cells, c.mx ≤ 9
  cl : cells.length ≤ 40
  tot : (cells.map (·.mx)).sum = M
  small : M ≤ 14
theorem CE.lp {n : Int} {cells : List Cel} {M : Int} (e : CE n cells M) : (LPg cells 0).length ≤ 14 := by
  have := LPg_len cells 0 e.mx; have := e.tot; have := e.small; omega
theorem stepL_len {cells : List Cel} {s : Int} {l : List Pos} (h1 : (LPg cells 0).length ≤ 14) (hv : ∀ p ∈ l, PV_ cells p) (hn : l.Nodup) : (stepL cells s l).length ≤ 14 := by
  have := nodup_sub (stepL_nodup (s := s) (cells := cells) hn) fun p hp => LP_of (stepL_PV hv p hp).1 (stepL_PV hv p hp).2
  omega
theorem adv_spec {n : Int} {cells : List Cel} {M r : Int} (e : CE n cells M) {F : Nat} (hF : 1000 ≤ F) (hF2 : F ≤ 19900) {S : List Pos} (hS : SI cells M r S) (s : Int) :
    ∃ R, advM F cells S s = some R ∧ SI cells M (r + 1) R ∧ GenS cells R ∧ ∀ w, AccL cells R w = AccL cells (stepL cells s S) w := by
  have hst := stepL_PV (s := s) hS.pv
  have hln := stepL_len (s := s) e.lp hS.pv hS.nodup
  have hph := phRs_le cells (stepL cells s S)
  obtain ⟨R, h1, h2, h3⟩ := closeM_spec e.mx F 0 (stepL cells s S) (fun p hp => (hst p hp).1) (stepL_nodup hS.nodup) (by
    rw [List.drop_zero]
    have : (stepL cells s S).length * (cells.length + 1) ≤ 14 * 41 := Nat.mul_le_mul hln (by have := e.cl; omega)
    omega) (fun j hj => by omega)
  refine ⟨R, by unfold advM; rw [stepR_eq e.gap hS.pv]; exact h1, ⟨h2.pv, h2.nodup, h2.cl, fun p hp => ?_, by omega⟩, fun p hp => ?_, h2.closes.acc⟩
  · have key : ∀ (k : Nat) (p : Pos), p ∈ R → p.1.toNat ≤ k → mu cells p + (r + 1) ≤ M := by
      have hbase : ∀ p ∈ stepL cells s S, mu cells p + (r + 1) ≤ M := by
        intro p hp
        obtain ⟨q, hq, he⟩ := List.mem_filterMap.1 hp
        split at he
        · cases he
          have := hS.mu q hq
          unfold mu at this ⊢
          simp only; omega
        · cases he
      intro k
      induction k with
      | zero =>
        intro p hp hk
        rcases h2.gen p hp with g | ⟨q, hq, c, g0, g1, g2, rfl⟩
        · exact hbase p g
        · simp only at hk; omega
      | succ k ih =>
        intro p hp hk
        rcases h2.gen p hp with g | ⟨q, hq, c, g0, g1, g2, rfl⟩
        · exact hbase p g
        · have i1 := ih q hq (by simp only at hk; omega)
          have hqc : q.2 ≤ c.mx := by
            rcases h2.pv q hq with rfl | ⟨d, _, d1, _, d3⟩
            · have := (List.getElem?_eq_some_iff.1 g1).1; simp at this
            · rw [g1] at d1; cases d1; exact d3
          have := mu_next g0 g1 hqc
          omega
    exact key _ p hp (Nat.le_refl _)
  · rcases h2.gen p hp with g | g
    · exact .inl (hst p g).2
    · exact .inr g
def sums (n : Int) (cells : List Cel) (S : List Pos) (R : Nat) (gs : List Int) : Int := (gs.map fun g => tot n (AccL cells (stepL cells g S)) R).sum
theorem mu_top {cells : List Cel} : mu cells (0, 0) = (cells.map (·.mx)).sum := by unfold mu; simp
end Go.Abs.Wall
set_option maxRecDepth 100000
set_option linter.unusedVariables false
namespace Go.Abs.Wall
open Go Go.Abs Go.Proofs Go.Proofs.Ytbgnfchlelhbeaa.Br
/-! ### Counts -/
theorem heavySum_eq : ∀ (cs : List Cel) (s : Int), (∀ c ∈ cs, 0 ≤ c.mx ∧ c.mx ≤ 9) → heavySum cs s = s + (cs.map (·.mx)).sum
  | [], s, _ => by simp [heavySum]
  | c :: cs, s, h => by
    have h1 := h c (by simp)
    rw [heavySum, heavySum_eq cs _ fun d hd => h d (by simp [hd]), List.map_cons, List.sum_cons]
    unfold clamp; omega
theorem light {l : Lst} {cells : List Cel} {line : List Int} (hh : heavy l cells line = false) (hr : right l.signs.length cells = true) : CE l.signs.length cells (cells.map (·.mx)).sum := by
  obtain ⟨h1, h2, h3⟩ := right_iff.1 hr
  have hb : ∀ c ∈ cells, 0 ≤ c.mx ∧ c.mx ≤ 9 := fun c hc => by have := (h2 c hc).mn; have := (h2 c hc).mx; have := (h2 c hc).gap; omega
  have hs := heavySum_eq cells 0 hb
  have h4 : ¬ (14 < (cells.map (·.mx)).sum) := fun h => by
    unfold heavy at hh
    rw [if_pos h1, hs, Int.zero_add] at hh
    simp [h, h3] at hh
  exact ⟨fun c hc => (hb c hc).1, fun c hc => (hb c hc).2, h1, rfl, by omega⟩
def c4 : Cfg := ⟨[0, 1, 2, 4, 5, 6, 7, 8, 11], [], [], [], [], []⟩
end Go.Abs.Wall

